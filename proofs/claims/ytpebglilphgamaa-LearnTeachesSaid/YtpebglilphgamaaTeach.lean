/- Walks of Key and Teach, and of the reference's Key, Teach and Has. Condition: the slice reads as a class. -/
import Derived.Test.YtpebglilphgamaaBin
import Derived.Test.YtpebglilphgamaaRef
namespace Go.Proofs.Ytpebglilphgamaa
open Go.RowKit

set_option maxRecDepth 100000 in
set_option maxHeartbeats 1000000 in
/-- Key of a concept of the class. -/
theorem keyPub (p : Nat) (A : Option Addr) (n c : Nat) (xs : List Int) (x : Int) (hx : x ∈ xs) (w : World) (hs : Sl w A n c (xs.map (Value.int .i64))) (H : Cls p xs) :
    Calls Try.prog 38 #[.int .i64 p, .slice A n c, .int .i64 x] w fun e w' => e = .returned (.tuple #[.int .i64 (keyL p xs x), .int .i64 0]) ∧ Below w.heap.size w w' := by
  have hl := hs.numlen
  have hn : n ≤ 16 := by have := H.n16; omega
  have HR := hid (readOk p A n c xs w (fun _ _ => True) hs H)
  have HK := hid fun s B i (hi : i < n) W (hW : Sch W s p A n c xs B) => keyS s p A n c xs B (fun _ => true) i hi H W hW
  have HA := hid fun s B W (hW : Sch W s p A n c xs B) => allS s p A n c xs B hn W hW
  have HB := hid fun W (hb : Below w.heap.size w W) => binSearch A n c xs x (by omega) W (hs.below hb)
  have HASC := hid (show ∀ j, j + 1 < n → at0 xs j < at0 xs (j + 1) by rw [← hl]; exact H.asc)
  have he : sel n (fun _ => true) xs = xs := by rw [← hl]; exact sel_all xs
  rw [he] at HK
  have HX := hid (show ∃ j, j < n ∧ at0 xs j = x by rw [← hl]; exact mem_at0 hx)
  clear he hs H hl hn hx
  go_enter Try.func38, Try.ntmps38
  go_wp2_with fail
  refine (HR.out).mono ?_; rintro e w1 ⟨s, B, rfl, hsz, hbz, hne, hsch, hm, hb⟩
  go_wp2_with fail
  refine (HB.out _ hb).mono ?_; rintro e w2 ⟨i, r, rfl, hr1, hr0, b2⟩
  have hb2 := below_call hb b2 hb.size
  have hsch2 := hsch.keep b2
  cases r with
  | false =>
    exfalso
    obtain ⟨j, hj, hjx⟩ := HX.out
    exact hr0 rfl HASC.out j hj hjx
  | true =>
    have hi := hr1 rfl
    clear hr1 hr0 hsch b2 hb hm hsz hbz
    go_wp2_with fail
    refine (HA.out s B _ hsch2).mono ?_; rintro e w3 ⟨rfl, rfl⟩
    go_wp2_with fail
    refine (HK.out s B i hi.1 _ hsch2).mono ?_; rintro e w3 ⟨rfl, b3⟩
    have hb3 := below_call hb2 b3 hb2.size
    rw [hi.2]
    go_wp2
    go_ret2
    exact ⟨rfl, hb3⟩

set_option maxRecDepth 100000 in
set_option maxHeartbeats 1000000 in
/-- Key of what is no concept of the class. -/
theorem keyNone (p : Nat) (A : Option Addr) (n c : Nat) (xs : List Int) (x : Int) (hx : x ∉ xs) (w : World) (hs : Sl w A n c (xs.map (Value.int .i64))) (H : Cls p xs) :
    Calls Try.prog 38 #[.int .i64 p, .slice A n c, .int .i64 x] w fun e w' => e = .returned (.tuple #[.int .i64 0, .int .i64 2]) ∧ Below w.heap.size w w' := by
  have hl := hs.numlen
  have hn : n ≤ 16 := by have := H.n16; omega
  have HR := hid (readOk p A n c xs w (fun _ _ => True) hs H)
  have HB := hid fun W (hb : Below w.heap.size w W) => binSearch A n c xs x (by omega) W (hs.below hb)
  have HX := hid (show ∀ j, j < n → at0 xs j ≠ x by rw [← hl]; exact fun j hj e => hx (by rw [← e]; exact at0_mem' hj))
  clear hs H hl hn hx
  go_enter Try.func38, Try.ntmps38
  go_wp2_with fail
  refine (HR.out).mono ?_; rintro e w1 ⟨s, B, rfl, hsz, hbz, hne, hsch, hm, hb⟩
  go_wp2_with fail
  refine (HB.out _ hb).mono ?_; rintro e w2 ⟨i, r, rfl, hr1, hr0, b2⟩
  have hb2 := below_call hb b2 hb.size
  cases r with
  | true =>
    exfalso
    exact HX.out i (hr1 rfl).1 (hr1 rfl).2
  | false =>
    clear hr1 hr0 hsch b2 hb hm hsz hbz
    go_wp2
    go_ret2
    exact ⟨rfl, hb2⟩

set_option maxRecDepth 100000 in
set_option maxHeartbeats 1000000 in
theorem keyBad (p : Int) (A : Option Addr) (n c : Nat) (xs : List Int) (x : Int) (hn : n ≤ 1000) (w : World) (hs : Sl w A n c (xs.map (Value.int .i64))) (H : ¬ Cls p xs) :
    Calls Try.prog 38 #[.int .i64 p, .slice A n c, .int .i64 x] w fun e w' => e = .returned (.tuple #[.int .i64 0, .int .i64 2]) ∧ Below w.heap.size w w' := by
  have HR := hid (readBad p A n c xs w hs H)
  have HB := hid fun W (hb : Below w.heap.size w W) => binSearch A n c xs x hn W (hs.below hb)
  clear hs H
  go_enter Try.func38, Try.ntmps38
  go_wp2_with fail
  refine (HR.out).mono ?_; rintro e w1 ⟨rfl, hb⟩
  go_wp2_with fail
  refine (HB.out _ hb).mono ?_; rintro e w2 ⟨i, r, rfl, hr1, hr0, b2⟩
  have hb2 := below_call hb b2 hb.size
  clear hr1 hr0
  go_wp2
  go_ret2
  exact ⟨rfl, hb2⟩

set_option maxRecDepth 100000 in
theorem teachBad (p : Int) (A : Option Addr) (n c : Nat) (xs : List Int) (w : World) (hs : Sl w A n c (xs.map (Value.int .i64))) (H : ¬ Cls p xs) :
    Calls Try.prog 39 #[.int .i64 p, .slice A n c] w fun e w' => e = .returned (.tuple #[.int .i64 0, .int .i64 2]) ∧ Below w.heap.size w w' := by
  have HR := hid (readBad p A n c xs w hs H)
  clear hs H
  go_enter Try.func39, Try.ntmps39
  go_wp2_with fail
  refine (HR.out).mono ?_; rintro e w1 ⟨rfl, hb⟩
  go_wp2
  go_ret2
  exact ⟨rfl, hb⟩

set_option maxRecDepth 100000 in
set_option maxHeartbeats 1000000 in
/-- Teach returns the greatest size of a key. -/
theorem teachPub (p : Nat) (A : Option Addr) (n c : Nat) (xs : List Int) (w : World) (hs : Sl w A n c (xs.map (Value.int .i64))) (H : Cls p xs) :
    Calls Try.prog 39 #[.int .i64 p, .slice A n c] w fun e w' => e = .returned (.tuple #[.int .i64 (teachL p xs), .int .i64 0]) ∧ Below w.heap.size w w' := by
  have hl := hs.numlen
  have hn : n ≤ 16 := by have := H.n16; omega
  have HR := hid (readOk p A n c xs w (fun _ _ => True) hs H)
  have HK := hid fun s B i (hi : i < n) W (hW : Sch W s p A n c xs B) => keyS s p A n c xs B (fun _ => true) i hi H W hW
  have HA := hid fun s B W (hW : Sch W s p A n c xs B) => allS s p A n c xs B hn W hW
  have he : sel n (fun _ => true) xs = xs := by rw [← hl]; exact sel_all xs
  rw [he] at HK
  have HC := hid fun i (hi : i < n) W => countS (keyL p xs (at0 xs i)) (by have := le32 H.p6 (keyL_lt H.p6 H.inP (H.inP _ (at0_mem' (xs := xs) (j := i) (by omega)))); omega) W
  have HT := hid (show best (fun i => (sz (keyL p xs (at0 xs i)) : Int)) n = teachL p xs by rw [← hl]; rfl)
  have HZ := hid fun i (hi : i < n) => show sz (keyL p xs (at0 xs i)) ≤ 16 from by have := sz_key_le H.p6 H.inP (H.inP _ (at0_mem' (xs := xs) (j := i) (by omega))); have := H.p6; omega
  have HN := hid hn
  clear he hs H hl
  go_enter Try.func39, Try.ntmps39
  go_wp2_with fail
  refine (HR.out).mono ?_; rintro e w1 ⟨s, B, rfl, hsz, hbz, hne, hsch, hm, hb⟩
  have HS := hid hsch
  have HB := hid hb
  clear hsz hbz hne hsch hm hb
  go_wp2
  go_loopg [8, 20] n (fun gk o i wr => ∃ k : Nat, gk + k = n ∧ i = .int .i64 k ∧ o = .int .i64 (best (fun i => (sz (keyL p xs (at0 xs i)) : Int)) k) ∧ Below w1.heap.size w1 wr)
  case atStart => exact ⟨0, by omega, rfl, rfl, Below.refl _ _⟩
  case round =>
    obtain ⟨k, hk, rfl, rfl, hb⟩ := hrel
    have HKK := hid hk; clear hk
    by_cases hlt : k < n
    · have hz := HZ.out k hlt
      have hsw := hid (HS.out.keep hb)
      have hA := hid (HA.out s B _ hsw.out)
      have hK := hid (HK.out s B k hlt _ hsw.out)
      have hC := hid fun W => HC.out k hlt W
      go_wp2_with fail
      refine (hA.out).mono ?_; rintro e w2 ⟨rfl, rfl⟩
      go_wp2_with fail
      refine (hK.out).mono ?_; rintro e w2 ⟨rfl, b2⟩
      have hb2 := below_call hb b2 hb.size
      go_wp2_with fail
      refine (hC.out _).mono ?_; rintro e w3 ⟨rfl, rfl⟩
      generalize hszk : sz (keyL p xs (at0 xs k)) = zk at *
      have HSZ := hid hszk
      clear hszk
      go_wp2
      all_goals go_roundg (gk - 1)
      all_goals first
        | (have := HKK.out; omega)
        | exact ⟨k + 1, by have := HKK.out; omega, by go_num, int_eq (by simp only [best]; rw [HSZ.out]; omega), hb2⟩
    · obtain rfl : k = n := by have := HKK.out; omega
      rw [HT.out]
      have hbb := below_call HB.out hb HB.out.size
      go_wp2
      go_ret2
      exact ⟨rfl, hbb⟩

set_option maxRecDepth 100000 in
set_option maxHeartbeats 1000000 in
theorem refHas (A : Option Addr) (n c : Nat) (xs : List Int) (x : Int) (w : World) (hs : Sl w A n c (xs.map (Value.int .i64))) :
    Calls Try.prog 41 #[.slice A n c, .int .i64 x] w fun e w' => e = .returned (.bool (decide (x ∈ xs))) ∧ w = w' := by
  have hm := hs.len_le
  have hl := hs.numlen
  by_cases hx : x ∈ xs
  · have hd : decide (x ∈ xs) = true := decide_eq_true hx
    rw [hd]
    have HX := hid (show ∃ j, j < n ∧ at0 xs j = x by rw [← hl]; exact mem_at0 hx)
    clear hx hd hl
    go_enter Try.func41, Try.ntmps41
    go_wp2
    go_loopg [9] n (fun gk i wr => ∃ k : Nat, gk + k = n ∧ i = .int .i64 k ∧ (∀ j, j < k → at0 xs j ≠ x) ∧ w = wr)
    case atStart => exact ⟨0, by omega, rfl, fun j h => absurd h (by omega), rfl⟩
    case round =>
      obtain ⟨k, hk, rfl, hno, rfl⟩ := hrel
      have HK := hid hk; have HNO := hid hno
      clear hk hno
      by_cases hlt : k < n
      · obtain ⟨b, o, rfl, lb, hkl, ca⟩ := hs.num hlt
        by_cases he : at0 xs k = x
        · have he' : (at0 xs k == x) = true := by rw [beq_iff_eq]; exact he
          clear he
          go_wp2
          go_ret
          exact ⟨rfl, rfl⟩
        · have he' : (at0 xs k == x) = false := by rw [beq_eq_false_iff_ne]; exact he
          have HE := hid he
          clear he
          go_wp2
          go_roundg (gk - 1)
          case measure => have := HK.out; omega
          case rel =>
            refine ⟨k + 1, by have := HK.out; omega, by go_num, fun j hj => ?_, rfl⟩
            by_cases e : j = k
            · subst e; exact HE.out
            · exact HNO.out j (by omega)
      · exfalso
        obtain ⟨j, hj, e⟩ := HX.out
        exact HNO.out j (by have := HK.out; omega) e
  · have hd : decide (x ∈ xs) = false := decide_eq_false hx
    rw [hd]
    have HX := hid (show ∀ j, j < n → at0 xs j ≠ x by rw [← hl]; exact fun j hj e => hx (by rw [← e]; exact at0_mem' hj))
    clear hx hd hl
    go_enter Try.func41, Try.ntmps41
    go_wp2
    go_loopg [9] n (fun gk i wr => ∃ k : Nat, gk + k = n ∧ i = .int .i64 k ∧ w = wr)
    case atStart => exact ⟨0, by omega, rfl, rfl⟩
    case round =>
      obtain ⟨k, hk, rfl, rfl⟩ := hrel
      have HK := hid hk
      clear hk
      by_cases hlt : k < n
      · obtain ⟨b, o, rfl, lb, hkl, ca⟩ := hs.num hlt
        have he' : (at0 xs k == x) = false := by rw [beq_eq_false_iff_ne]; exact HX.out k hlt
        go_wp2
        go_roundg (gk - 1)
        case measure => have := HK.out; omega
        case rel => exact ⟨k + 1, by have := HK.out; omega, by go_num, rfl⟩
      · go_wp2
        go_ret
        exact ⟨rfl, rfl⟩

/-- As the reference looks at concepts: none of the first j agrees with c at the points k, but c itself. -/
def refAlone (xs : List Int) (c : Int) (k : Nat) : Nat → Bool
  | 0 => true
  | j+1 => refAlone xs c k j && (at0 xs j == c || !agree k (at0 xs j) c)
theorem refAlone_key {xs : List Int} {c : Int} {k : Nat} : refAlone xs c k xs.length = keyOK xs c k := by
  have key : ∀ n, refAlone xs c k n = true ↔ ∀ j, j < n → at0 xs j ≠ c → agree k (at0 xs j) c = false := by
    intro n
    induction n with
    | zero => exact ⟨fun _ j hj => absurd hj (by omega), fun _ => rfl⟩
    | succ n ih =>
      simp only [refAlone, Bool.and_eq_true, ih, Bool.or_eq_true, beq_iff_eq, Bool.not_eq_true']
      constructor
      · rintro ⟨h1, h2⟩ j hj hn
        by_cases e : j = n
        · subst e
          rcases h2 with h2 | h2
          · exact absurd h2 hn
          · exact h2
        · exact h1 j (by omega) hn
      · intro h
        refine ⟨fun j hj hn => h j (by omega) hn, ?_⟩
        by_cases e : at0 xs n = c
        · exact .inl e
        · exact .inr (h n (by omega) e)
  rw [Bool.eq_iff_iff, key, keyOK_iff]
  constructor
  · intro h d hd hn
    obtain ⟨j, hj, rfl⟩ := mem_at0 hd
    exact h j hj hn
  · intro h j hj hn
    exact h _ (at0_mem' hj) hn

attribute [local go_sem ↓] shl_p2

set_option maxRecDepth 100000 in
set_option maxHeartbeats 4000000 in
theorem refKey (p : Nat) (A : Option Addr) (n c : Nat) (xs : List Int) (hp : p < 6) (hi : InP p xs) (hn : n ≤ 1000) (x : Int) (hx : 0 ≤ x ∧ x < 2 ^ p) (w : World) (hs : Sl w A n c (xs.map (Value.int .i64))) :
    Calls Try.prog 42 #[.int .i64 p, .slice A n c, .int .i64 x] w fun e w' => e = .returned (.int .i64 (keyL p xs x)) ∧ w = w' := by
  have hl := hs.numlen
  subst hl
  have hfp : Fits (p : Int) := ⟨by omega, by omega⟩
  have hp2 : p2 (p : Int) = ((2 ^ p : Nat) : Int) := p2_nat p
  have h32 : 2 ^ p ≤ 32 := by have := Nat.pow_le_pow_right (show 0 < 2 by decide) (show p ≤ 5 by omega); omega
  have hpos := Nat.two_pow_pos p
  have h2 : ((2 ^ p : Nat) : Int) = (2 : Int) ^ p := by simp
  have HXB := hid (show 0 ≤ x ∧ x < 4294967296 by omega)
  have HB := hid fun j (hj : j < xs.length) => show 0 ≤ at0 xs j ∧ at0 xs j < 4294967296 from by have := hi _ (at0_mem' hj); omega
  have HST := hid fun m (hm : m ≤ 2 ^ p) => show keyF p xs x m < 32 from by have := (keyF_spec hp hi hx m hm).1; omega
  have HF := hid fun m => show keyF p xs x (m + 1) = if keyOK xs x m = true ∧ sz m < sz (keyF p xs x m) then m else keyF p xs x m from rfl
  have H0 := hid (show keyF p xs x 0 = 2 ^ p - 1 from rfl)
  have HL := hid (show keyF p xs x (2 ^ p) = keyL p xs x from rfl)
  have HSZ := hid fun (k : Nat) (hk : k < 32) W => refSize k hk W
  have HSB := hid fun (k : Nat) (hk : k < 32) => sz_le 5 (by decide) k (by simpa using hk)
  have HRA := hid fun k => refAlone_key (xs := xs) (c := x) (k := k)
  have HS := hid hs
  clear h2
  generalize hN : (2 : Nat) ^ p = N at *
  clear hi hx hs hp
  have hsub : (((N : Nat) : Int) - 1) = ((N - 1 : Nat) : Int) := by omega
  go_enter Try.func42, Try.ntmps42
  go_wp2
  clear hsub
  go_loopg [7, 17] N (fun gk o1 q wr => ∃ k : Nat, gk + k = N ∧ q = .int .i64 k ∧ o1 = .int .i64 (keyF p xs x k) ∧ w = wr)
  case atStart => exact ⟨0, by omega, rfl, by rw [H0.out], rfl⟩
  case round =>
    obtain ⟨k, hk, rfl, rfl, rfl⟩ := hrel
    have HK := hid hk; clear hk
    by_cases hlt : k < N
    · have hk32 : k < 32 := by omega
      have HAF := hid (show ∀ j, refAlone xs x k (j + 1) = (refAlone xs x k j && (at0 xs j == x || !agree k (at0 xs j) x)) from fun _ => rfl)
      have HKF := hid (HF.out k)
      have HRK := hid (HRA.out k)
      have HKB := hid (HST.out k (by omega))
      generalize hkf : keyF p xs x k = kf at *
      have HKF0 := hid hkf
      clear hkf
      go_wp2
      go_loopg [9, 22] xs.length (fun gk a q wr1 => ∃ j : Nat, gk + j = xs.length ∧ q = .int .i64 j ∧ a = .bool (refAlone xs x k j) ∧ w = wr1)
      case atStart => exact ⟨0, by omega, rfl, rfl, rfl⟩
      case round =>
        obtain ⟨j, hj, rfl, rfl, rfl⟩ := hrel
        have HJ := hid hj; clear hj
        by_cases hjl : j < xs.length
        · obtain ⟨b, o, rfl, lb1, hkl, ca⟩ := HS.out.num hjl
          have hA := and_agree (HB.out j hjl) HXB.out hk32
          have hE := hid (HAF.out j)
          generalize refAlone xs x k j = al at *
          generalize hga : agree k (at0 xs j) x = ag at *
          clear lb1 hkl hga
          cases al with
          | false =>
            have hE2 := hid (show refAlone xs x k (j + 1) = false by rw [hE.out]; rfl)
            clear hE
            go_wp2
            go_roundg (xs.length - j - 1)
            case measure => have := HJ.out; omega
            case rel => exact ⟨j + 1, by have := HJ.out; omega, by go_num, by rw [hE2.out], rfl⟩
          | true =>
            by_cases ej : at0 xs j = x
            · have d1 : (at0 xs j == x) = true := by rw [beq_iff_eq]; omega
              have hE2 := hid (show refAlone xs x k (j + 1) = true by rw [hE.out, d1]; rfl)
              clear hE ej hA
              go_wp2
              go_roundg (xs.length - j - 1)
              case measure => have := HJ.out; omega
              case rel => exact ⟨j + 1, by have := HJ.out; omega, by go_num, by rw [hE2.out], rfl⟩
            have d1 : (at0 xs j == x) = false := by rw [beq_eq_false_iff_ne]; omega
            clear ej
            cases ag with
            | false =>
              have hE2 := hid (show refAlone xs x k (j + 1) = true by rw [hE.out, d1]; rfl)
              have hA' : (bits .and .i64 (at0 xs j) (k : Int) != bits .and .i64 x (k : Int)) = true := hA
              clear hE hA
              go_wp2
              go_roundg (xs.length - j - 1)
              case measure => have := HJ.out; omega
              case rel => exact ⟨j + 1, by have := HJ.out; omega, by go_num, by rw [hE2.out], rfl⟩
            | true =>
              have hE2 := hid (show refAlone xs x k (j + 1) = false by rw [hE.out, d1]; rfl)
              have hA' : (bits .and .i64 (at0 xs j) (k : Int) != bits .and .i64 x (k : Int)) = false := hA
              clear hE hA
              go_wp2
              go_roundg (xs.length - j - 1)
              case measure => have := HJ.out; omega
              case rel => exact ⟨j + 1, by have := HJ.out; omega, by go_num, by rw [hE2.out], rfl⟩
        · obtain rfl : j = xs.length := by have := HJ.out; omega
          rw [HRK.out]
          have HKO := hid (show keyOK xs x k = true ∧ sz k < sz kf → keyF p xs x (k + 1) = k from fun h => HKF.out.trans (if_pos h))
          have HKN := hid (show ¬ (keyOK xs x k = true ∧ sz k < sz kf) → keyF p xs x (k + 1) = kf from fun h => HKF.out.trans (if_neg h))
          generalize keyOK xs x k = ko at *
          cases ko with
          | false =>
            go_wp2
            go_roundg (N - k - 1)
            case measure => have := HK.out; omega
            case rel => exact ⟨k + 1, by omega, by go_num, by rw [HKN.out (fun h => absurd h.1 (by decide))], rfl⟩
          | true =>
            have z1 := HSZ.out k hk32 w
            have z2 := HSZ.out kf HKB.out w
            have zb1 := HSB.out k hk32
            have zb2 := HSB.out kf HKB.out
            have Z1 := hid z1; have Z2 := hid z2
            clear z1 z2
            by_cases hz : sz k < sz kf
            · have hd1 : decide ((sz k : Int) < (sz kf : Int)) = true := decide_eq_true (by omega)
              have hd2 : decide (sz k < sz kf) = true := decide_eq_true hz
              have HE := hid (HKO.out ⟨rfl, hz⟩)
              clear hz
              go_wp2_with fail
              refine (Z1.out).mono ?_; rintro e w1 ⟨rfl, rfl⟩
              go_wp2_with fail
              refine (Z2.out).mono ?_; rintro e w1 ⟨rfl, rfl⟩
              go_wp2
              go_roundg (N - k - 1)
              case measure => have := HK.out; omega
              case rel => exact ⟨k + 1, by omega, by go_num, by rw [HE.out], rfl⟩
            · have hd1 : decide ((sz k : Int) < (sz kf : Int)) = false := decide_eq_false (by omega)
              have hd2 : decide (sz k < sz kf) = false := decide_eq_false hz
              have HE := hid (HKN.out (fun h => hz h.2))
              clear hz
              go_wp2_with fail
              refine (Z1.out).mono ?_; rintro e w1 ⟨rfl, rfl⟩
              go_wp2_with fail
              refine (Z2.out).mono ?_; rintro e w1 ⟨rfl, rfl⟩
              go_wp2
              go_roundg (N - k - 1)
              case measure => have := HK.out; omega
              case rel => exact ⟨k + 1, by omega, by go_num, by rw [HE.out], rfl⟩
    · obtain rfl : k = N := by have := HK.out; omega
      rw [HL.out]
      go_wp2
      go_ret
      exact ⟨rfl, rfl⟩

set_option maxRecDepth 100000 in
set_option maxHeartbeats 1000000 in
theorem refTeach (p : Nat) (A : Option Addr) (n c : Nat) (xs : List Int) (hp : p < 6) (hi : InP p xs) (hn : n ≤ 1000) (w : World) (hs : Sl w A n c (xs.map (Value.int .i64))) :
    Calls Try.prog 40 #[.int .i64 p, .slice A n c] w fun e w' => e = .returned (.int .i64 (teachL p xs)) ∧ w = w' := by
  have hl := hs.numlen
  have HK := hid fun i (hin : i < n) => refKey p A n c xs hp hi hn (at0 xs i) (hi _ (at0_mem' (by omega))) w hs
  have HC := hid fun i (hin : i < n) W => refSize (keyL p xs (at0 xs i)) (le32 hp (keyL_lt hp hi (hi _ (at0_mem' (xs := xs) (j := i) (by omega))))) W
  have HT := hid (show best (fun i => (sz (keyL p xs (at0 xs i)) : Int)) n = teachL p xs by rw [← hl]; rfl)
  have HZ := hid fun i (hin : i < n) => show sz (keyL p xs (at0 xs i)) ≤ 16 from by have := sz_key_le hp hi (hi _ (at0_mem' (xs := xs) (j := i) (by omega))); omega
  clear hp hi hl
  go_enter Try.func40, Try.ntmps40
  go_wp2
  go_loopg [5, 10] n (fun gk o i wr => ∃ k : Nat, gk + k = n ∧ i = .int .i64 k ∧ o = .int .i64 (best (fun i => (sz (keyL p xs (at0 xs i)) : Int)) k) ∧ w = wr)
  case atStart => exact ⟨0, by omega, rfl, rfl, rfl⟩
  case round =>
    obtain ⟨k, hk, rfl, rfl, rfl⟩ := hrel
    have HKK := hid hk; clear hk
    by_cases hlt : k < n
    · obtain ⟨b, o, rfl, lb, hkl, ca⟩ := hs.num hlt
      have hz := HZ.out k hlt
      have hK := hid (HK.out k hlt)
      have hC := hid fun W => HC.out k hlt W
      go_wp2_with fail
      refine (hK.out).mono ?_; rintro e w2 ⟨rfl, rfl⟩
      go_wp2_with fail
      refine (hC.out _).mono ?_; rintro e w3 ⟨rfl, rfl⟩
      generalize hszk : sz (keyL p xs (at0 xs k)) = zk at *
      have HSZ := hid hszk
      clear hszk
      go_wp2
      all_goals go_roundg (gk - 1)
      all_goals first
        | (have := HKK.out; omega)
        | exact ⟨k + 1, by have := HKK.out; omega, by go_num, int_eq (by simp only [best]; rw [HSZ.out]; omega), rfl⟩
    · obtain rfl : k = n := by have := HKK.out; omega
      rw [HT.out]
      go_wp2
      go_ret
      exact ⟨rfl, rfl⟩
end Go.Proofs.Ytpebglilphgamaa

