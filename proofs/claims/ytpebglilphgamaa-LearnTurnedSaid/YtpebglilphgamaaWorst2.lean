/- Walks of Worst and of the reference's Worst. Condition: the slice reads as a class. -/
import Derived.Test.YtpebglilphgamaaWorst
import Derived.Test.YtpebglilphgamaaRefSay
namespace Go.Proofs.Ytpebglilphgamaa
open Go.RowKit Go.Maps

theorem saysC (s p : Nat) (A : Option Addr) (n c : Nat) (xs : List Int) (B : Nat) (hp : p ≤ 60) (hn : n ≤ 16) : Says 61 (careful p) s p A n c xs B :=
  ⟨enters Try.func61 (by kernel_rfl) rfl, fun f x hx W hW => carefulS s p A n c xs B hp hn f x hx W hW⟩
theorem saysH (s p : Nat) (A : Option Addr) (n c : Nat) (xs : List Int) (B : Nat) (hp : p ≤ 60) (hn : n ≤ 16) : Says 65 halving s p A n c xs B :=
  ⟨enters Try.func65 (by kernel_rfl) rfl, fun f x hx W hW => halvingS s p A n c xs B hp hn f x hx W hW⟩
/-- The learner that a flag names. -/
def learnerOf (p : Nat) (h : Bool) : List Int → Int → Bool := if h then halving else careful p

set_option maxRecDepth 100000 in
set_option maxHeartbeats 1000000 in
theorem worstCPub (p : Nat) (A : Option Addr) (n c : Nat) (xs : List Int) (w : World) (hs : Sl w A n c (xs.map (Value.int .i64))) (H : Cls p xs) :
    Calls Try.prog 32 #[.int .i64 p, .slice A n c, .bool false] w fun e w' => e = .returned (.tuple #[.int .i64 (worstL (careful p) p xs), .int .i64 0]) ∧ Below w.heap.size w w' := by
  have hl := hs.numlen
  have hn : n ≤ 16 := by have := H.n16; omega
  have hp : p ≤ 60 := by have := H.p5; omega
  have HR := hid (readOk p A n c xs w (OKd p n xs) hs H)
  have HW := hid fun s B K W (hW : Stw (OKw (careful p) p n xs) W s p A n c xs B K) => worstS 61 (careful p) s p A n c xs B K (saysC s p A n c xs B hp hn) hp hn (n + 1) (fun _ => true) (by have := sel_len n (fun _ => true) xs; omega) W hW
  have HA := hid fun s B W (hW : Sch W s p A n c xs B) => allS s p A n c xs B hn W hW
  have he : sel n (fun _ => true) xs = xs := by rw [← hl]; exact sel_all xs
  rw [he] at HW
  have hmm := @run_makeMap Try.prog
  clear he hs H hl hn hp
  go_enter Try.func32, Try.ntmps32
  go_wp2_with fail
  refine (HR.out).mono ?_; rintro e w1 ⟨s, B, rfl, hsz, hbz, hne, hsch, hm, hb⟩
  have hst : St w1 s p A n c xs B := ⟨hsch, hm, hne⟩
  have HST := hid (show Stw (OKw (careful p) p n xs) (w1.alloc (.map #[] 0)) s p A n c xs B w1.heap.size from
    ⟨⟨hsch.keep ((Below.refl _ _).alloc (Nat.le_refl _) _), hm.alloc _, hne⟩, Memo.made _, by have := hsch.blk.lt; omega, by have := hm.lt; omega⟩)
  have HB := hid hb
  have HBZ := hid hbz
  clear hb hbz hsz hm hst
  go_wp2_with fail
  refine (HA.out s B _ hsch).mono ?_; rintro e w2 ⟨rfl, rfl⟩
  go_wp2_with fail
  refine (HW.out s B _ _ HST.out).mono ?_; rintro e w3 ⟨rfl, g3, m3, k3⟩
  go_wp2
  go_ret2
  exact ⟨rfl, g3.below (HB.out.alloc HB.out.size _) (by have := HB.out.size; simp; omega) fun i hi => hi.elim (fun h => by have := HBZ.out; omega) (fun h => by have := HB.out.size; omega)⟩

set_option maxRecDepth 100000 in
set_option maxHeartbeats 4000000 in
theorem refWorstC (p : Nat) (hp : p ≤ 60) : ∀ (m : Nat) (A : Option Addr) (n c : Nat) (xs : List Int), xs.length ≤ m → m ≤ 1000 → ∀ w, Sl w A n c (xs.map (Value.int .i64)) →
    Calls Try.prog 33 #[.int .i64 p, .slice A n c, .bool false] w fun e w' => e = .returned (.int .i64 (worstL (careful p) p xs)) ∧ Below w.heap.size w w' := by
  intro m
  induction m using Nat.strongRecOn with
  | _ m ih =>
    intro A n c xs hm hm1000 w hs
    have hl := hs.numlen
    have hn1000 : n ≤ 1000 := by omega
    have HE := hid (worstL_eq (careful p) p xs)
    have HS := hid hs
    have HL := hid fun x : Int => split_len xs x
    have HD := hid fun (k : Nat) (hk : k < m) (A' : Option Addr) (n' c' : Nat) (ys : List Int) (h : ys.length ≤ k) (W : World) (hW : Sl W A' n' c' (ys.map (Value.int .i64))) => ih k hk A' n' c' ys h (by omega) W hW
    have HXL := hid hl
    have HM := hid hm
    have HM2 := hid hm1000
    clear ih hm hl hs hm1000
    go_enter Try.func33, Try.ntmps33
    go_wp2
    go_loopg [7, 13] p (fun gk o i wr => ∃ k : Nat, gk + k = p ∧ i = .int .i64 k ∧ o = .int .i64 (best (fun x => stepW (careful p) (worstL (careful p) p) xs x) k) ∧ Below w.heap.size w wr)
    case atStart => exact ⟨0, by omega, rfl, rfl, Below.refl _ _⟩
    case round =>
      obtain ⟨k, hk, rfl, rfl, hb⟩ := hrel
      have HK := hid hk; clear hk
      by_cases hlt : k < p
      · have hf : Fits (k : Int) := ⟨by omega, by omega⟩
        have h60 : k < 60 := by omega
        have hln := HL.out k
        have S0 := hid (refSplit0 A n c xs k hf hn1000 wr (HS.out.below hb))
        go_wp2_with fail
        refine (S0.out).mono ?_; rintro e w1 ⟨A1, c1, rfl, s1, b1⟩
        have hb1 : Below w.heap.size w w1 := below_call hb b1 hb.size
        have S1 := hid (refSplit1 A n c xs k hf hn1000 w1 (HS.out.below hb1))
        go_wp2_with fail
        refine (S1.out).mono ?_; rintro e w2 ⟨A2, c2, rfl, s2, b2⟩
        have hb2 : Below w.heap.size w w2 := below_call hb1 b2 hb1.size
        have s1' := s1.below b2
        have HN := hid fun h => stepW_none (say := (careful p)) (D := worstL (careful p) p) (xs := xs) (x := k) h
        have HO := hid fun h => stepW_both (say := (careful p)) (D := worstL (careful p) p) (xs := xs) (x := k) h
        have hl16 : xs.length ≤ 1000 := by have := HXL.out; omega
        have wb0 := worstL_le (careful p) p _ _ (rfl : (split xs k false).length = _)
        have wb1 := worstL_le (careful p) p _ _ (rfl : (split xs k true).length = _)
        have wn0 := worstL_nonneg (careful p) p (split xs k false)
        have wn1 := worstL_nonneg (careful p) p (split xs k true)
        generalize ea : split xs k false = us at *
        generalize eb : split xs k true = vs at *
        have HU := hid s1'; have HV := hid s2
        generalize eq0 : us.length = q0 at *
        generalize eq1 : vs.length = q1 at *
        have HQ0 := hid eq0; have HQ1 := hid eq1
        clear b1 b2 s1 s1' s2
        have HP := hid (best_nonneg (fun x => stepW (careful p) (worstL (careful p) p) xs x) k)
        by_cases z0 : q0 = 0
        · have HZ := hid (HN.out (.inl (List.eq_nil_of_length_eq_zero (eq0.trans z0))))
          have hd0 : ((q0 : Int) == 0) = true := by rw [beq_iff_eq]; omega
          have hd1 : (q0 == 0) = true := by rw [beq_iff_eq]; omega
          clear eq0 eq1 wb0 wb1 wn0 wn1 hln z0 ea eb
          go_wp2
          go_roundg (gk - 1)
          case measure => have := HK.out; omega
          case rel => exact ⟨k + 1, by have := HK.out; omega, by go_num, int_eq (by simp only [best]; rw [HZ.out]; have := HP.out; omega), hb2⟩
        have hd0 : ((q0 : Int) == 0) = false := by rw [beq_eq_false_iff_ne]; omega
        have hd1 : (q0 == 0) = false := by rw [beq_eq_false_iff_ne]; omega
        by_cases z1 : q1 = 0
        · have HZ := hid (HN.out (.inr (List.eq_nil_of_length_eq_zero (eq1.trans z1))))
          have hd3 : ((q1 : Int) == 0) = true := by rw [beq_iff_eq]; omega
          have hd4 : (q1 == 0) = true := by rw [beq_iff_eq]; omega
          clear eq0 eq1 wb0 wb1 wn0 wn1 hln z0 z1 ea eb
          go_wp2
          go_roundg (gk - 1)
          case measure => have := HK.out; omega
          case rel => exact ⟨k + 1, by have := HK.out; omega, by go_num, int_eq (by simp only [best]; rw [HZ.out]; have := HP.out; omega), hb2⟩
        have hd3 : ((q1 : Int) == 0) = false := by rw [beq_eq_false_iff_ne]; omega
        have hd4 : (q1 == 0) = false := by rw [beq_eq_false_iff_ne]; omega
        have hu : us ≠ [] := fun e => z0 (by rw [← eq0, e]; rfl)
        have hv : vs ≠ [] := fun e => z1 (by rw [← eq1, e]; rfl)
        have HZ := hid (HO.out (fun h => h.elim hu hv))
        have hx0 : xs ≠ [] := by rintro rfl; rw [← ea] at hu; exact hu rfl
        have hm0 := HM.out
        have hm1 := HM2.out
        have D0 := hid fun W hW => HD.out q0 (by omega) A1 q0 c1 us (by omega) W hW
        have D1 := hid fun W hW => HD.out q1 (by omega) A2 q1 c2 vs (by omega) W hW
        have HSY := hid fun W (hW : Below w.heap.size w W) => refSay p hp A n c xs hx0 k (by omega) hn1000 W (HS.out.below hW)
        have HHV := hid fun W (hW : Below w.heap.size w W) => refHalve A n c xs k (by omega) hn1000 W (HS.out.below hW)
        have HBB : 0 ≤ b01 ((careful p) xs k) ∧ b01 ((careful p) xs k) ≤ 1 := by unfold b01; split <;> omega
        have q0b : q0 ≤ 1000 := by omega
        have q1b : q1 ≤ 1000 := by omega
        clear eq0 eq1 hln z0 z1 ea eb hu hv hx0 hm0 hm1 hl16
        go_wp2_with fail
        refine (HSY.out _ hb2).mono ?_; rintro e w3 ⟨rfl, b3⟩
        have hb3 : Below w.heap.size w w3 := below_call hb2 b3 hb2.size
        have HU3 := hid (HU.out.below b3)
        have HV3 := hid (HV.out.below b3)
        clear b3
        go_wp2_with fail
        refine (D0.out _ HU3.out).mono ?_; rintro e w4 ⟨rfl, b4⟩
        have hb4 : Below w.heap.size w w4 := below_call hb3 b4 hb3.size
        have HV4 := hid (HV3.out.below b4)
        clear b4
        go_wp2_with fail
        refine (D1.out _ HV4.out).mono ?_; rintro e w5 ⟨rfl, b5⟩
        have hb5 : Below w.heap.size w w5 := below_call hb4 b5 hb4.size
        clear b5
        go_wp2
        all_goals go_roundg (gk - 1)
        all_goals first
          | (have := HK.out; omega)
          | exact ⟨k + 1, by have := HK.out; omega, by go_num, int_eq (by simp only [best]; rw [HZ.out]; omega), hb5⟩
      · obtain rfl : k = p := by have := HK.out; omega
        go_wp2
        go_ret
        exact ⟨ret_i HE.out.symm, hb⟩

set_option maxRecDepth 100000 in
set_option maxHeartbeats 1000000 in
theorem worstHPub (p : Nat) (A : Option Addr) (n c : Nat) (xs : List Int) (w : World) (hs : Sl w A n c (xs.map (Value.int .i64))) (H : Cls p xs) :
    Calls Try.prog 32 #[.int .i64 p, .slice A n c, .bool true] w fun e w' => e = .returned (.tuple #[.int .i64 (worstL halving p xs), .int .i64 0]) ∧ Below w.heap.size w w' := by
  have hl := hs.numlen
  have hn : n ≤ 16 := by have := H.n16; omega
  have hp : p ≤ 60 := by have := H.p5; omega
  have HR := hid (readOk p A n c xs w (OKd p n xs) hs H)
  have HW := hid fun s B K W (hW : Stw (OKw halving p n xs) W s p A n c xs B K) => worstS 65 halving s p A n c xs B K (saysH s p A n c xs B hp hn) hp hn (n + 1) (fun _ => true) (by have := sel_len n (fun _ => true) xs; omega) W hW
  have HA := hid fun s B W (hW : Sch W s p A n c xs B) => allS s p A n c xs B hn W hW
  have he : sel n (fun _ => true) xs = xs := by rw [← hl]; exact sel_all xs
  rw [he] at HW
  have hmm := @run_makeMap Try.prog
  clear he hs H hl hn hp
  go_enter Try.func32, Try.ntmps32
  go_wp2_with fail
  refine (HR.out).mono ?_; rintro e w1 ⟨s, B, rfl, hsz, hbz, hne, hsch, hm, hb⟩
  have hst : St w1 s p A n c xs B := ⟨hsch, hm, hne⟩
  have HST := hid (show Stw (OKw halving p n xs) (w1.alloc (.map #[] 0)) s p A n c xs B w1.heap.size from
    ⟨⟨hsch.keep ((Below.refl _ _).alloc (Nat.le_refl _) _), hm.alloc _, hne⟩, Memo.made _, by have := hsch.blk.lt; omega, by have := hm.lt; omega⟩)
  have HB := hid hb
  have HBZ := hid hbz
  clear hb hbz hsz hm hst
  go_wp2_with fail
  refine (HA.out s B _ hsch).mono ?_; rintro e w2 ⟨rfl, rfl⟩
  go_wp2_with fail
  refine (HW.out s B _ _ HST.out).mono ?_; rintro e w3 ⟨rfl, g3, m3, k3⟩
  go_wp2
  go_ret2
  exact ⟨rfl, g3.below (HB.out.alloc HB.out.size _) (by have := HB.out.size; simp; omega) fun i hi => hi.elim (fun h => by have := HBZ.out; omega) (fun h => by have := HB.out.size; omega)⟩

set_option maxRecDepth 100000 in
set_option maxHeartbeats 4000000 in
theorem refWorstH (p : Nat) (hp : p ≤ 60) : ∀ (m : Nat) (A : Option Addr) (n c : Nat) (xs : List Int), xs.length ≤ m → m ≤ 1000 → ∀ w, Sl w A n c (xs.map (Value.int .i64)) →
    Calls Try.prog 33 #[.int .i64 p, .slice A n c, .bool true] w fun e w' => e = .returned (.int .i64 (worstL halving p xs)) ∧ Below w.heap.size w w' := by
  intro m
  induction m using Nat.strongRecOn with
  | _ m ih =>
    intro A n c xs hm hm1000 w hs
    have hl := hs.numlen
    have hn1000 : n ≤ 1000 := by omega
    have HE := hid (worstL_eq halving p xs)
    have HS := hid hs
    have HL := hid fun x : Int => split_len xs x
    have HD := hid fun (k : Nat) (hk : k < m) (A' : Option Addr) (n' c' : Nat) (ys : List Int) (h : ys.length ≤ k) (W : World) (hW : Sl W A' n' c' (ys.map (Value.int .i64))) => ih k hk A' n' c' ys h (by omega) W hW
    have HXL := hid hl
    have HM := hid hm
    have HM2 := hid hm1000
    clear ih hm hl hs hm1000
    go_enter Try.func33, Try.ntmps33
    go_wp2
    go_loopg [7, 13] p (fun gk o i wr => ∃ k : Nat, gk + k = p ∧ i = .int .i64 k ∧ o = .int .i64 (best (fun x => stepW halving (worstL halving p) xs x) k) ∧ Below w.heap.size w wr)
    case atStart => exact ⟨0, by omega, rfl, rfl, Below.refl _ _⟩
    case round =>
      obtain ⟨k, hk, rfl, rfl, hb⟩ := hrel
      have HK := hid hk; clear hk
      by_cases hlt : k < p
      · have hf : Fits (k : Int) := ⟨by omega, by omega⟩
        have h60 : k < 60 := by omega
        have hln := HL.out k
        have S0 := hid (refSplit0 A n c xs k hf hn1000 wr (HS.out.below hb))
        go_wp2_with fail
        refine (S0.out).mono ?_; rintro e w1 ⟨A1, c1, rfl, s1, b1⟩
        have hb1 : Below w.heap.size w w1 := below_call hb b1 hb.size
        have S1 := hid (refSplit1 A n c xs k hf hn1000 w1 (HS.out.below hb1))
        go_wp2_with fail
        refine (S1.out).mono ?_; rintro e w2 ⟨A2, c2, rfl, s2, b2⟩
        have hb2 : Below w.heap.size w w2 := below_call hb1 b2 hb1.size
        have s1' := s1.below b2
        have HN := hid fun h => stepW_none (say := halving) (D := worstL halving p) (xs := xs) (x := k) h
        have HO := hid fun h => stepW_both (say := halving) (D := worstL halving p) (xs := xs) (x := k) h
        have hl16 : xs.length ≤ 1000 := by have := HXL.out; omega
        have wb0 := worstL_le halving p _ _ (rfl : (split xs k false).length = _)
        have wb1 := worstL_le halving p _ _ (rfl : (split xs k true).length = _)
        have wn0 := worstL_nonneg halving p (split xs k false)
        have wn1 := worstL_nonneg halving p (split xs k true)
        generalize ea : split xs k false = us at *
        generalize eb : split xs k true = vs at *
        have HU := hid s1'; have HV := hid s2
        generalize eq0 : us.length = q0 at *
        generalize eq1 : vs.length = q1 at *
        have HQ0 := hid eq0; have HQ1 := hid eq1
        clear b1 b2 s1 s1' s2
        have HP := hid (best_nonneg (fun x => stepW halving (worstL halving p) xs x) k)
        by_cases z0 : q0 = 0
        · have HZ := hid (HN.out (.inl (List.eq_nil_of_length_eq_zero (eq0.trans z0))))
          have hd0 : ((q0 : Int) == 0) = true := by rw [beq_iff_eq]; omega
          have hd1 : (q0 == 0) = true := by rw [beq_iff_eq]; omega
          clear eq0 eq1 wb0 wb1 wn0 wn1 hln z0 ea eb
          go_wp2
          go_roundg (gk - 1)
          case measure => have := HK.out; omega
          case rel => exact ⟨k + 1, by have := HK.out; omega, by go_num, int_eq (by simp only [best]; rw [HZ.out]; have := HP.out; omega), hb2⟩
        have hd0 : ((q0 : Int) == 0) = false := by rw [beq_eq_false_iff_ne]; omega
        have hd1 : (q0 == 0) = false := by rw [beq_eq_false_iff_ne]; omega
        by_cases z1 : q1 = 0
        · have HZ := hid (HN.out (.inr (List.eq_nil_of_length_eq_zero (eq1.trans z1))))
          have hd3 : ((q1 : Int) == 0) = true := by rw [beq_iff_eq]; omega
          have hd4 : (q1 == 0) = true := by rw [beq_iff_eq]; omega
          clear eq0 eq1 wb0 wb1 wn0 wn1 hln z0 z1 ea eb
          go_wp2
          go_roundg (gk - 1)
          case measure => have := HK.out; omega
          case rel => exact ⟨k + 1, by have := HK.out; omega, by go_num, int_eq (by simp only [best]; rw [HZ.out]; have := HP.out; omega), hb2⟩
        have hd3 : ((q1 : Int) == 0) = false := by rw [beq_eq_false_iff_ne]; omega
        have hd4 : (q1 == 0) = false := by rw [beq_eq_false_iff_ne]; omega
        have hu : us ≠ [] := fun e => z0 (by rw [← eq0, e]; rfl)
        have hv : vs ≠ [] := fun e => z1 (by rw [← eq1, e]; rfl)
        have HZ := hid (HO.out (fun h => h.elim hu hv))
        have hx0 : xs ≠ [] := by rintro rfl; rw [← ea] at hu; exact hu rfl
        have hm0 := HM.out
        have hm1 := HM2.out
        have D0 := hid fun W hW => HD.out q0 (by omega) A1 q0 c1 us (by omega) W hW
        have D1 := hid fun W hW => HD.out q1 (by omega) A2 q1 c2 vs (by omega) W hW
        have HSY := hid fun W (hW : Below w.heap.size w W) => refSay p hp A n c xs hx0 k (by omega) hn1000 W (HS.out.below hW)
        have HHV := hid fun W (hW : Below w.heap.size w W) => refHalve A n c xs k (by omega) hn1000 W (HS.out.below hW)
        have HBB : 0 ≤ b01 (halving xs k) ∧ b01 (halving xs k) ≤ 1 := by unfold b01; split <;> omega
        have q0b : q0 ≤ 1000 := by omega
        have q1b : q1 ≤ 1000 := by omega
        clear eq0 eq1 hln z0 z1 ea eb hu hv hx0 hm0 hm1 hl16
        go_wp2_with fail
        refine (HSY.out _ hb2).mono ?_; rintro e w3 ⟨rfl, b3⟩
        have hb3 : Below w.heap.size w w3 := below_call hb2 b3 hb2.size
        have HU3 := hid (HU.out.below b3)
        have HV3 := hid (HV.out.below b3)
        clear b3
        go_wp2_with fail
        refine (HHV.out _ hb3).mono ?_; rintro e w6 ⟨rfl, b6⟩
        have hb6 : Below w.heap.size w w6 := below_call hb3 b6 hb3.size
        have HU6 := hid (HU3.out.below b6)
        have HV6 := hid (HV3.out.below b6)
        clear b6 HU3 HV3 hb3
        have hb3 := hb6; have HU3 := HU6; have HV3 := HV6
        go_wp2_with fail
        refine (D0.out _ HU3.out).mono ?_; rintro e w4 ⟨rfl, b4⟩
        have hb4 : Below w.heap.size w w4 := below_call hb3 b4 hb3.size
        have HV4 := hid (HV3.out.below b4)
        clear b4
        go_wp2_with fail
        refine (D1.out _ HV4.out).mono ?_; rintro e w5 ⟨rfl, b5⟩
        have hb5 : Below w.heap.size w w5 := below_call hb4 b5 hb4.size
        clear b5
        go_wp2
        all_goals go_roundg (gk - 1)
        all_goals first
          | (have := HK.out; omega)
          | exact ⟨k + 1, by have := HK.out; omega, by go_num, int_eq (by simp only [best]; rw [HZ.out]; omega), hb5⟩
      · obtain rfl : k = p := by have := HK.out; omega
        go_wp2
        go_ret
        exact ⟨ret_i HE.out.symm, hb⟩

set_option maxRecDepth 100000 in
theorem worstBad (p : Int) (A : Option Addr) (n c : Nat) (xs : List Int) (h : Bool) (w : World) (hs : Sl w A n c (xs.map (Value.int .i64))) (H : ¬ Cls p xs) :
    Calls Try.prog 32 #[.int .i64 p, .slice A n c, .bool h] w fun e w' => e = .returned (.tuple #[.int .i64 0, .int .i64 2]) ∧ Below w.heap.size w w' := by
  have HR := hid (readBad p A n c xs w hs H)
  clear hs H
  go_enter Try.func32, Try.ntmps32
  go_wp2_with fail
  refine (HR.out).mono ?_; rintro e w1 ⟨rfl, hb⟩
  go_wp2
  go_ret2
  exact ⟨rfl, hb⟩
end Go.Proofs.Ytpebglilphgamaa
