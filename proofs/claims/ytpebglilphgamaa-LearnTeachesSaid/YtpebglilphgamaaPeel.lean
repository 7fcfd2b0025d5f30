/- Walks of peels and Peel. Condition: the slice reads as a class. -/
import Derived.Test.YtpebglilphgamaaTeach
namespace Go.Proofs.Ytpebglilphgamaa
open Go.RowKit

theorem sel_filter (n : Nat) (g : Nat → Bool) (xs : List Int) (q : Int → Bool) : (sel n g xs).filter q = sel n (fun i => g i && q (at0 xs i)) xs := by
  unfold sel
  rw [List.filter_map, List.filter_filter]
  congr 1
  exact List.filter_congr fun i _ => by simp [Bool.and_comm]
/-- Who of a set goes. -/
def goes (p k n : Nat) (g : Nat → Bool) (xs : List Int) (i : Nat) : Bool := g i && decide (sz (keyL p (sel n g xs) (at0 xs i)) ≤ k)
theorem next_sel (p k n : Nat) (g : Nat → Bool) (xs : List Int) : nextL p k (sel n g xs) = sel n (fun i => g i && !goes p k n g xs i) xs := by
  unfold nextL
  rw [sel_filter]
  apply sel_congr
  intro i _
  unfold goes
  cases g i
  · rfl
  · by_cases h : sz (keyL p (sel n g xs) (at0 xs i)) ≤ k
    · have : ¬ k < sz (keyL p (sel n g xs) (at0 xs i)) := by omega
      simp [h]
    · have : k < sz (keyL p (sel n g xs) (at0 xs i)) := by omega
      simp [h, this]
theorem next_same {p k n : Nat} {g : Nat → Bool} {xs : List Int} (h : mk n (goes p k n g xs) = 0) : nextL p k (sel n g xs) = sel n g xs := by
  rw [next_sel]
  apply sel_congr
  intro i hi
  rw [mk_zero_iff.1 h i hi]
  simp
theorem next_less {p k n : Nat} {g : Nat → Bool} {xs : List Int} (h : mk n (goes p k n g xs) ≠ 0) : (nextL p k (sel n g xs)).length < (sel n g xs).length := by
  have hle := (nextL_sub p k (sel n g xs)).length_le
  rcases Nat.lt_or_ge (nextL p k (sel n g xs)).length (sel n g xs).length with g1 | g1
  · exact g1
  · exfalso
    apply h
    rw [mk_zero_iff]
    intro i hi
    have e := List.length_filter_eq_length_iff.1 (show (nextL p k (sel n g xs)).length = (sel n g xs).length by omega)
    cases hg : g i
    · simp [goes, hg]
    · have := e _ (mem_sel (xs := xs) hi hg)
      rw [decide_eq_true_eq] at this
      have : ¬ sz (keyL p (sel n g xs) (at0 xs i)) ≤ k := by omega
      simp [goes, this]
theorem mk_set {k n : Nat} (h60 : n ≤ 60) (hk : k < n) {f : Nat → Bool} (hf : f k = true) : bits .or .i64 (mk k f) (p2 k) = mk (k + 1) f := by
  have := mk_push (n := n) (k := k) hk h60 f (b := 1) (by rw [hf]; rfl)
  rwa [Int.one_mul] at this
theorem mk_unset {k : Nat} {f : Nat → Bool} (hf : f k = false) : mk (k + 1) f = mk k f := by
  unfold mk
  simp [mkN, hf]

attribute [local go_sem ↓] shl_p2 shr_v and_shr

set_option maxRecDepth 100000 in
set_option maxHeartbeats 4000000 in
theorem peelsS (s p : Nat) (A : Option Addr) (n c : Nat) (xs : List Int) (B k : Nat) (C : Cls p xs) (w : World) (hs : Sch w s p A n c xs B) :
    Calls Try.prog 73 #[.pointer (some ⟨s, 0, none⟩), .int .i64 k] w fun e w' => e = .returned (.bool (peelsL p k xs)) ∧ Below w.heap.size w w' := by
  have hl := hs.sl.numlen
  subst hl
  have hn16 := C.n16
  have HA := hid (allS s p A xs.length c xs B hn16 w hs)
  have HK := hid fun g i (hi : i < xs.length) W (hW : Sch W s p A xs.length c xs B) => keyS s p A xs.length c xs B g i hi C W hW
  have HC := hid fun g i (hi : i < xs.length) W => countS (keyL p (sel xs.length g xs) (at0 xs i)) (by have := le32 C.p6 (keyL_lt C.p6 (sel_inP C g) (C.inP _ (at0_mem' hi))); omega) W
  have HZ := hid fun g i (hi : i < xs.length) => show sz (keyL p (sel xs.length g xs) (at0 xs i)) ≤ 16 from by have := sz_key_le C.p6 (sel_inP C g) (C.inP _ (at0_mem' hi)); have := C.p6; omega
  have HS := hid hs
  have HAN := hid fun f g => mk_andNot (n := xs.length) (by omega) f g
  have HALL := hid (sel_all xs)
  have HN16 := hid hn16
  clear C hs hn16
  go_enter Try.func73, Try.ntmps73
  go_wp2_with fail
  refine (HA.out).mono ?_; rintro e w1 ⟨rfl, rfl⟩
  go_wp2
  go_loopg [5] xs.length (fun gk st wr => ∃ g : Nat → Bool, gk = (sel xs.length g xs).length ∧ st = .int .i64 (mk xs.length g) ∧ peelsL p k xs = peelsL p k (sel xs.length g xs) ∧ Below w.heap.size w wr)
  case atStart =>
    have hl : xs.length = (sel xs.length (fun _ => true) xs).length := by rw [HALL.out]
    exact ⟨fun _ => true, hl, rfl, by rw [HALL.out], Below.refl _ _⟩
  case round =>
    obtain ⟨g, hgk, rfl, hpe, hb⟩ := hrel
    have HB := hid hb
    have HGK := hid hgk
    have hsw := hid (HS.out.keep hb)
    clear hb hgk
    by_cases h0 : mk xs.length g = 0
    · have h0' : (mk xs.length g != 0) = false := by rw [bne_eq_false_iff_eq]; exact h0
      have hE := hid (show peelsL p k xs = true by rw [hpe, sel_nil.2 h0]; rfl)
      clear h0 hpe
      go_wp2
      go_ret
      exact ⟨ret_b hE.out, HB.out⟩
    have h0' : (mk xs.length g != 0) = true := by rw [bne_iff_ne]; exact h0
    have hne : sel xs.length g xs ≠ [] := fun e => h0 (sel_nil.1 e)
    have HPE := hid (hpe.trans (peelsL_eq hne))
    have hc1 := hsw.out.c1
    have ha1 : (⟨s, 0, none⟩ : Addr).add 1 = ⟨s, 1, none⟩ := rfl
    clear hpe hne h0
    go_wp2
    clear hc1 h0'
    go_loopg [6, 17] xs.length (fun gk o q wr1 => ∃ i : Nat, gk + i = xs.length ∧ q = .int .i64 i ∧ o = .int .i64 (mk i (goes p k xs.length g xs)) ∧ Below wr.heap.size wr wr1)
    case atStart => exact ⟨0, by omega, rfl, rfl, Below.refl _ _⟩
    case round =>
      rename_i wr1
      obtain ⟨i, hi, rfl, rfl, hb1⟩ := hrel
      have HI := hid hi; clear hi
      by_cases hlt : i < xs.length
      · have hf : Fits (i : Int) := ⟨by omega, by have := HN16.out; omega⟩
        have hbit := mk_bitB g hlt
        have hi16 : i < 16 := by have := HN16.out; omega
        cases hg : g i with
        | false =>
          have ht : (bitV (mk xs.length g) i == 1) = false := by rw [hg] at hbit; exact hbit
          have hE := hid (mk_unset (k := i) (f := goes p k xs.length g xs) (by simp [goes, hg]))
          clear hbit hg
          go_wp2
          go_roundg (xs.length - i - 1)
          case measure => have := HI.out; omega
          case rel => exact ⟨i + 1, by have := HI.out; omega, by go_num, by rw [hE.out], hb1⟩
        | true =>
          have ht : (bitV (mk xs.length g) i == 1) = true := by rw [hg] at hbit; exact hbit
          have hK := hid (HK.out g i hlt _ (hsw.out.keep hb1))
          have hC := hid fun W => HC.out g i hlt W
          have hz := HZ.out g i hlt
          have hgo : goes p k xs.length g xs i = decide (sz (keyL p (sel xs.length g xs) (at0 xs i)) ≤ k) := by simp [goes, hg]
          generalize sz (keyL p (sel xs.length g xs) (at0 xs i)) = z at *
          clear hbit hg
          by_cases hzk : z ≤ k
          · have d1 : decide ((z : Int) ≤ (k : Int)) = true := decide_eq_true (by omega)
            have d2 : decide (z ≤ k) = true := decide_eq_true hzk
            have hE := mk_set (n := xs.length) (by have := HN16.out; omega) hlt (hgo.trans d2)
            clear hgo hzk
            go_wp2_with fail
            refine (hK.out).mono ?_; rintro e w2 ⟨rfl, b2⟩
            have hb2 := below_call hb1 b2 hb1.size
            go_wp2_with fail
            refine (hC.out _).mono ?_; rintro e w3 ⟨rfl, rfl⟩
            go_wp2
            go_roundg (xs.length - i - 1)
            case measure => have := HI.out; omega
            case rel => exact ⟨i + 1, by have := HI.out; omega, by go_num, rfl, hb2⟩
          · have d1 : decide ((z : Int) ≤ (k : Int)) = false := decide_eq_false (by omega)
            have d2 : decide (z ≤ k) = false := decide_eq_false hzk
            have hE := hid (mk_unset (k := i) (hgo.trans d2))
            clear hgo hzk
            go_wp2_with fail
            refine (hK.out).mono ?_; rintro e w2 ⟨rfl, b2⟩
            have hb2 := below_call hb1 b2 hb1.size
            go_wp2_with fail
            refine (hC.out _).mono ?_; rintro e w3 ⟨rfl, rfl⟩
            go_wp2
            go_roundg (xs.length - i - 1)
            case measure => have := HI.out; omega
            case rel => exact ⟨i + 1, by have := HI.out; omega, by go_num, by rw [hE.out], hb2⟩
      · obtain rfl : i = xs.length := by have := HI.out; omega
        have hbb := hid (below_call HB.out hb1 HB.out.size)
        by_cases hz : mk xs.length (goes p k xs.length g xs) = 0
        · have hz' : (mk xs.length (goes p k xs.length g xs) == 0) = true := by rw [beq_iff_eq]; exact hz
          have hE := hid (show peelsL p k xs = false by rw [HPE.out, if_pos (by rw [next_same hz])])
          clear hz
          go_wp2
          go_ret
          exact ⟨ret_b hE.out, hbb.out⟩
        · have hz' : (mk xs.length (goes p k xs.length g xs) == 0) = false := by rw [beq_eq_false_iff_ne]; exact hz
          have hL := hid (next_less hz)
          have hN := hid (next_sel p k xs.length g xs)
          have hAN := HAN.out g (goes p k xs.length g xs)
          have hE := hid (show peelsL p k xs = peelsL p k (sel xs.length (fun i => g i && !goes p k xs.length g xs i) xs) by
            rw [HPE.out, if_neg (by have := hL.out; omega), hN.out])
          have hM := hid (show (sel xs.length (fun i => g i && !goes p k xs.length g xs i) xs).length < (sel xs.length g xs).length by rw [← hN.out]; exact hL.out)
          clear hz
          generalize goes p k xs.length g xs = go1 at *
          generalize hg2 : (fun i => g i && !go1 i) = g2 at *
          clear hg2
          go_wp2
          go_roundg (sel xs.length g2 xs).length
          case measure => have := hM.out; have := HGK.out; omega
          case rel => exact ⟨g2, rfl, rfl, hE.out, hbb.out⟩

set_option maxRecDepth 100000 in
set_option maxHeartbeats 1000000 in
theorem peelPub (p : Nat) (A : Option Addr) (n c : Nat) (xs : List Int) (w : World) (hs : Sl w A n c (xs.map (Value.int .i64))) (H : Cls p xs) :
    Calls Try.prog 44 #[.int .i64 p, .slice A n c] w fun e w' => e = .returned (.tuple #[.int .i64 (peelL p xs), .int .i64 0]) ∧ Below w.heap.size w w' := by
  have HR := hid (readOk p A n c xs w (fun _ _ => True) hs H)
  have HP := hid fun s B k W (hW : Sch W s p A n c xs B) => peelsS s p A n c xs B k H W hW
  obtain ⟨q1, q2, q3⟩ := peelL_spec H.p6 H.inP
  have HQ := hid fun k (hp : peelsL p k xs = true) (hno : ∀ j, j < k → peelsL p j xs = false) => show k = peelL p xs from by
    rcases Nat.lt_trichotomy k (peelL p xs) with g | g | g
    · rw [q3 k g] at hp; cases hp
    · exact g
    · rw [hno _ g] at q1; cases q1
  have HQ2 := hid fun k (hno : peelsL p k xs = false) (hk : ∀ j, j < k → peelsL p j xs = false) => show k < peelL p xs from by
    rcases Nat.lt_or_ge k (peelL p xs) with g | g
    · exact g
    · exfalso
      rcases Nat.eq_or_lt_of_le g with e | e
      · rw [e, hno] at q1; cases q1
      · rw [hk _ e] at q1; cases q1
  have hp6 := H.p6
  have hq60 : peelL p xs ≤ 60 := by omega
  have HQB := hid hq60
  clear hs H q1 q2 q3 hp6 hq60
  go_enter Try.func44, Try.ntmps44
  go_wp2_with fail
  refine (HR.out).mono ?_; rintro e w1 ⟨s, B, rfl, hsz, hbz, hne, hsch, hm, hb⟩
  have HS := hid hsch
  have HB := hid hb
  clear hsz hbz hne hsch hm hb
  go_wp2
  go_loopg [8] (peelL p xs) (fun gk o wr => ∃ k : Nat, gk = peelL p xs - k ∧ k ≤ peelL p xs ∧ o = .int .i64 k ∧ (∀ j, j < k → peelsL p j xs = false) ∧ Below w1.heap.size w1 wr)
  case atStart => exact ⟨0, rfl, Nat.zero_le _, rfl, fun j h => absurd h (by omega), Below.refl _ _⟩
  case round =>
    obtain ⟨k, hk, hkp, rfl, hno, hb⟩ := hrel
    have HK := hid hk; have HKP := hid hkp; have HNO := hid hno
    have h60 : k ≤ 60 := by have := HQB.out; omega
    have hP := hid (HP.out s B k _ (HS.out.keep hb))
    clear hk hkp hno
    cases hv : peelsL p k xs with
    | true =>
      have hE := hid (HQ.out k hv HNO.out)
      rw [hv] at hP
      clear hv
      go_wp2_with fail
      refine (hP.out).mono ?_; rintro e w2 ⟨rfl, b2⟩
      have hb2 := below_call HB.out (below_call hb b2 hb.size) HB.out.size
      go_wp2
      go_ret2
      exact ⟨by rw [hE.out]; rfl, hb2⟩
    | false =>
      have hE := hid (HQ2.out k hv HNO.out)
      have HV := hid hv
      rw [hv] at hP
      clear hv
      go_wp2_with fail
      refine (hP.out).mono ?_; rintro e w2 ⟨rfl, b2⟩
      have hb2 := below_call hb b2 hb.size
      go_wp2
      go_roundg (peelL p xs - (k + 1))
      case measure => have := HK.out; have := hE.out; omega
      case rel =>
        refine ⟨k + 1, rfl, hE.out, by go_num, fun j hj => ?_, hb2⟩
        by_cases e : j = k
        · subst e; exact HV.out
        · exact HNO.out j (by omega)
set_option maxRecDepth 100000 in
theorem peelBad (p : Int) (A : Option Addr) (n c : Nat) (xs : List Int) (w : World) (hs : Sl w A n c (xs.map (Value.int .i64))) (H : ¬ Cls p xs) :
    Calls Try.prog 44 #[.int .i64 p, .slice A n c] w fun e w' => e = .returned (.tuple #[.int .i64 0, .int .i64 2]) ∧ Below w.heap.size w w' := by
  have HR := hid (readBad p A n c xs w hs H)
  clear hs H
  go_enter Try.func44, Try.ntmps44
  go_wp2_with fail
  refine (HR.out).mono ?_; rintro e w1 ⟨rfl, hb⟩
  go_wp2
  go_ret2
  exact ⟨rfl, hb⟩
end Go.Proofs.Ytpebglilphgamaa
