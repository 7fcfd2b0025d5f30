/- Walk of the law EvadeSettles. Condition: the table of the library stands. -/
import Derived.Test.YtjddbglbodkihaaDoorWalkSums
import Derived.Test.YtjddbglbodkihaaDoorEarlyW
import Derived.Test.YtjddbglbodkihaaDoorPlanP
import Derived.Test.YtjddbglbodkihaaDoorSubM
namespace Go.Proofs.YtjddbglbodkihaaDoor
open Go.RowKit
attribute [local go_sem ↓] shl_p2

theorem sum_famS {n : Nat} {xs : List Int} (h : Fam n xs) : sumL xs = sumP (setF xs).testBit (2 ^ n) := by
  rw [← sumL_fam, h.same]
theorem ask_none {n : Nat} {xs : List Int} (h : Fam n xs) : askN n (setF xs).testBit 0 0 = 0 ↔ xs.length = 0 ∨ xs.length = 2 ^ n := by
  have := fv_settl (F := setF xs) h.n6n (View.zero n)
  rw [fv_zero h, un_none] at this
  rw [ask_zero, this, Bool.or_eq_true, decide_eq_true_iff, decide_eq_true_iff]

set_option maxRecDepth 100000 in
set_option maxHeartbeats 4000000 in
theorem evadeSettles_bad (w : World) (hT : Tab w) (n : Int) (A : Option Addr) (k c : Nat) (xs : List Int) (hs : Sl w A k c (xs.map (Value.int .i64))) (h1 : ¬ Fam n xs) :
    Calls Tryd.prog 13 #[.int .i64 n, .slice A k c] w fun e w' => e = .returned (.bool true) ∧ Below w.heap.size w w' := by
  obtain ⟨m1, zs1, hC1⟩ := cp_of hs
  have HC1 := hid hC1
  have HAW := hid fun W (hb : Below w.heap.size w W) => awakeF W (hT.below hb)
  have HE := hid fun A' c' W (hb : Below w.heap.size w W) (s1 : Sl W A' m1 c' (zs1.map (Value.int .i64))) => earlyNo n A' m1 c' zs1 W s1 (hT.below hb) (by rw [hC1.fam]; exact h1)
  have HA := hid fun A' c' W (hb : Below w.heap.size w W) (s1 : Sl W A' m1 c' (zs1.map (Value.int .i64))) => askNo n A' m1 c' zs1 W s1 (hT.below hb) (by rw [hC1.fam]; exact h1)
  have HP := hid fun A' c' W (hb : Below w.heap.size w W) (s1 : Sl W A' m1 c' (zs1.map (Value.int .i64))) => planNo n A' m1 c' zs1 W s1 (hT.below hb) (by rw [hC1.fam]; exact h1)
  have HS := hid fun A' c' W (hb : Below w.heap.size w W) (s1 : Sl W A' m1 c' (zs1.map (Value.int .i64))) => sumNo n A' m1 c' zs1 W s1 (hT.below hb) (by rw [hC1.fam]; exact h1)
  clear hC1 hs hT h1
  have HB0 := hid (Below.refl w.heap.size w)
  go_enter Tryd.func13, Tryd.ntmps13
  go_wp2_with fail
  refine (HC1.out.run _ HB0.out).mono ?_; rintro e w1 ⟨A1, c1, rfl, ho, hb⟩
  have HB1 := hid (below_call HB0.out hb HB0.out.size)
  have S1_1 := hid (Sl.of_own ho)
  clear hb ho
  go_wp2_with fail
  refine (HE.out _ _ _ HB1.out S1_1.out).mono ?_; rintro e w2 ⟨rfl, hb⟩
  have HB2 := hid (below_call HB1.out hb HB1.out.size)
  have S1_2 := hid (S1_1.out.below hb)
  clear hb
  clear S1_1 S1_2
  go_wp2_with fail
  refine (HC1.out.run _ HB2.out).mono ?_; rintro e w3 ⟨A3, c3, rfl, ho, hb⟩
  have HB3 := hid (below_call HB2.out hb HB2.out.size)
  have S2_3 := hid (Sl.of_own ho)
  clear hb ho
  go_wp2_with fail
  refine (HA.out _ _ _ HB3.out S2_3.out).mono ?_; rintro e w4 ⟨rfl, hb⟩
  have HB4 := hid (below_call HB3.out hb HB3.out.size)
  have S2_4 := hid (S2_3.out.below hb)
  clear hb
  clear S2_3 S2_4
  go_wp2_with fail
  refine (HC1.out.run _ HB4.out).mono ?_; rintro e w5 ⟨A5, c5, rfl, ho, hb⟩
  have HB5 := hid (below_call HB4.out hb HB4.out.size)
  have S3_5 := hid (Sl.of_own ho)
  clear hb ho
  go_wp2_with fail
  refine (HP.out _ _ _ HB5.out S3_5.out).mono ?_; rintro e w6 ⟨rfl, hb⟩
  have HB6 := hid (below_call HB5.out hb HB5.out.size)
  have S3_6 := hid (S3_5.out.below hb)
  clear hb
  clear S3_5 S3_6
  go_wp2_with fail
  refine (HC1.out.run _ HB6.out).mono ?_; rintro e w7 ⟨A7, c7, rfl, ho, hb⟩
  have HB7 := hid (below_call HB6.out hb HB6.out.size)
  have S4_7 := hid (Sl.of_own ho)
  clear hb ho
  go_wp2_with fail
  refine (HS.out _ _ _ HB7.out S4_7.out).mono ?_; rintro e w8 ⟨rfl, hb⟩
  have HB8 := hid (below_call HB7.out hb HB7.out.size)
  have S4_8 := hid (S4_7.out.below hb)
  clear hb
  clear S4_7 S4_8
  go_wp2_with fail
  refine (HAW.out _ HB8.out).mono ?_; rintro e w9 ⟨rfl, hb⟩
  have HB9 := hid (below_call HB8.out hb HB8.out.size)
  clear hb
  go_wp2
  go_ret
  exact ⟨rfl, HB9.out⟩


set_option maxRecDepth 100000 in
set_option maxHeartbeats 4000000 in
theorem evadeSettles_a (w : World) (hT : Tab w) (n : Nat) (A : Option Addr) (k c : Nat) (xs : List Int) (hs : Sl w A k c (xs.map (Value.int .i64))) (h1 : Fam n xs) (e1 : askN n (setF xs).testBit 0 0 = 0) (e2 : xs.length = 0) :
    Calls Tryd.prog 13 #[.int .i64 n, .slice A k c] w fun e w' => e = .returned (.bool true) ∧ Below w.heap.size w w' := by
  obtain ⟨m1, zs1, hC1⟩ := cp_of hs
  obtain ⟨rfl, rfl⟩ := hC1.same ⟨_, h1⟩
  have HC1 := hid hC1
  have hn1 := h1.n1n
  have hn6 := h1.n6n
  have hl := hs.numlen
  have h64 := h1.len64
  have hask := ask_none h1
  have hpn := p2_nat n
  have hle := askN_le n (setF zs1).testBit _ 0 0 rfl
  rw [un_none] at hle
  have HAW := hid fun W (hb : Below w.heap.size w W) => awakeF W (hT.below hb)
  have HF := hid fun W (hb : Below w.heap.size w W) => familyYes n A m1 c zs1 W (hs.below hb) h1
  have HE := hid fun A' c' W (hb : Below w.heap.size w W) (s1 : Sl W A' m1 c' (zs1.map (Value.int .i64))) => earlyYes n A' m1 c' zs1 W s1 (hT.below hb) h1
  have HA := hid fun A' c' W (hb : Below w.heap.size w W) (s1 : Sl W A' m1 c' (zs1.map (Value.int .i64))) => askYes n A' m1 c' zs1 W s1 (hT.below hb) h1
  have HP := hid fun A' c' W (hb : Below w.heap.size w W) (s1 : Sl W A' m1 c' (zs1.map (Value.int .i64))) => planYes n A' m1 c' zs1 W s1 (hT.below hb) h1
  have HS := hid fun A' c' W (hb : Below w.heap.size w W) (s1 : Sl W A' m1 c' (zs1.map (Value.int .i64))) => sumYes n A' m1 c' zs1 W s1 (hT.below hb) h1
  have hsum : askN n (setF zs1).testBit 0 0 < n → sumL zs1 = 0 := fun h => by rw [sum_famS h1]; exact early_sum hn6 h
  have hsb := sumL_bd zs1
  have hsb2 : -64 ≤ sumL zs1 ∧ sumL zs1 ≤ 64 := by omega
  obtain ⟨P, hP⟩ : ∃ P, planL n (setF zs1) 0 0 0 = P := ⟨_, rfl⟩
  have hok := plan_okP (n := n) (F := setF zs1) hn6
  have hch := plan_check (n := n) (F := setF zs1)
  have hPl := planL_len n (setF zs1) 0 0 0 hn6
  rw [hP] at HP hok hch hPl
  have HCH := hid fun A' c' (T : Option Addr) k' W (hb : Below w.heap.size w W) (s1 : Sl W A' m1 c' (zs1.map (Value.int .i64))) (s3 : Sl3 W T P.length k' P) => checkYes n A' m1 c' zs1 T P.length k' P W s1 s3 (hT.below hb) h1 hok _ true hch
  simp only [if_true] at HCH
  have hEB : earlyB n zs1 = true := by
    unfold earlyB
    rw [decide_eq_true_iff]; omega
  rw [hEB] at HE
  obtain ⟨q, hq⟩ : ∃ q, askN n (setF zs1).testBit 0 0 = q := ⟨_, rfl⟩
  rw [hq] at HA HCH hask hle hsum e1
  have FN : Fits (n : Int) := ⟨by omega, by omega⟩
  have hpp := Nat.two_pow_pos n
  have hpb : 1 ≤ p2 (n : Int) := by omega
  have g1 : ((q : Int) == 0) = true := by rw [beq_iff_eq]; omega
  have g1n : (q == 0) = true := by rw [beq_iff_eq]; omega
  have g2 : decide ((q : Int) < n) = true := by rw [decide_eq_true_iff]; omega
  have g2n : decide (q < n) = true := by rw [decide_eq_true_iff]; omega
  have g3 : ((m1 : Int) == 0) = true := by rw [beq_iff_eq]; omega
  have g3n : (m1 == 0) = true := by rw [beq_iff_eq]; omega
  have g6 : decide ((q : Int) ≤ n) = true := by rw [decide_eq_true_iff]; omega
  have g6n : decide (q ≤ n) = true := by rw [decide_eq_true_iff]; omega
  have g7 : ((q : Int) == q) = true := by simp
  generalize sumL zs1 = v at *
  clear hC1 hs hT h1 hl h64 hask hpn hle hsum hsb hP hok hch hEB hq hpp e1 e2
  have HB0 := hid (Below.refl w.heap.size w)
  go_enter Tryd.func13, Tryd.ntmps13
  go_wp2_with fail
  refine (HC1.out.run _ HB0.out).mono ?_; rintro e w1 ⟨A1, c1, rfl, ho, hb⟩
  have HB1 := hid (below_call HB0.out hb HB0.out.size)
  have S1_1 := hid (Sl.of_own ho)
  clear hb ho
  go_wp2_with fail
  refine (HE.out _ _ _ HB1.out S1_1.out).mono ?_; rintro e w2 ⟨rfl, hb⟩
  have HB2 := hid (below_call HB1.out hb HB1.out.size)
  have S1_2 := hid (S1_1.out.below hb)
  clear hb
  clear S1_1 S1_2
  go_wp2_with fail
  refine (HC1.out.run _ HB2.out).mono ?_; rintro e w3 ⟨A3, c3, rfl, ho, hb⟩
  have HB3 := hid (below_call HB2.out hb HB2.out.size)
  have S2_3 := hid (Sl.of_own ho)
  clear hb ho
  go_wp2_with fail
  refine (HA.out _ _ _ HB3.out S2_3.out).mono ?_; rintro e w4 ⟨rfl, hb⟩
  have HB4 := hid (below_call HB3.out hb HB3.out.size)
  have S2_4 := hid (S2_3.out.below hb)
  clear hb
  clear S2_3 S2_4
  go_wp2_with fail
  refine (HC1.out.run _ HB4.out).mono ?_; rintro e w5 ⟨A5, c5, rfl, ho, hb⟩
  have HB5 := hid (below_call HB4.out hb HB4.out.size)
  have S3_5 := hid (Sl.of_own ho)
  clear hb ho
  go_wp2_with fail
  refine (HP.out _ _ _ HB5.out S3_5.out).mono ?_; rintro e w6 ⟨A6, c6, rfl, ho, hb⟩
  have HB6 := hid (below_call HB5.out hb HB5.out.size)
  have S3_6 := hid (S3_5.out.below hb)
  have SP_6 := hid (Sl3.of_own ho)
  clear hb ho
  clear S3_5 S3_6
  go_wp2_with fail
  refine (HC1.out.run _ HB6.out).mono ?_; rintro e w7 ⟨A7, c7, rfl, ho, hb⟩
  have HB7 := hid (below_call HB6.out hb HB6.out.size)
  have SP_7 := hid (SP_6.out.below hb)
  have S4_7 := hid (Sl.of_own ho)
  clear hb ho
  go_wp2_with fail
  refine (HS.out _ _ _ HB7.out S4_7.out).mono ?_; rintro e w8 ⟨rfl, hb⟩
  have HB8 := hid (below_call HB7.out hb HB7.out.size)
  have SP_8 := hid (SP_7.out.below hb)
  have S4_8 := hid (S4_7.out.below hb)
  clear hb
  clear S4_7 S4_8
  go_wp2_with fail
  refine (HF.out _ HB8.out).mono ?_; rintro e w9 ⟨rfl, hb⟩
  have HB9 := hid (below_call HB8.out hb HB8.out.size)
  have SP_9 := hid (SP_8.out.below hb)
  clear hb
  go_wp2_with fail
  refine (HC1.out.run _ HB9.out).mono ?_; rintro e w10 ⟨A10, c10, rfl, ho, hb⟩
  have HB10 := hid (below_call HB9.out hb HB9.out.size)
  have SP_10 := hid (SP_9.out.below hb)
  have S5_10 := hid (Sl.of_own ho)
  clear hb ho
  go_wp2_with fail
  refine (HCH.out _ _ _ _ _ HB10.out S5_10.out SP_10.out).mono ?_; rintro e w11 ⟨rfl, hb⟩
  have HB11 := hid (below_call HB10.out hb HB10.out.size)
  have SP_11 := hid (SP_10.out.below hb)
  have S5_11 := hid (S5_10.out.below hb)
  clear hb
  clear S5_10 S5_11
  go_wp2_with fail
  refine (HAW.out _ HB11.out).mono ?_; rintro e w12 ⟨rfl, hb⟩
  have HB12 := hid (below_call HB11.out hb HB11.out.size)
  have SP_12 := hid (SP_11.out.below hb)
  clear hb
  go_wp2
  go_ret
  exact ⟨rfl, HB12.out⟩


set_option maxRecDepth 100000 in
set_option maxHeartbeats 4000000 in
theorem evadeSettles_b (w : World) (hT : Tab w) (n : Nat) (A : Option Addr) (k c : Nat) (xs : List Int) (hs : Sl w A k c (xs.map (Value.int .i64))) (h1 : Fam n xs) (e1 : askN n (setF xs).testBit 0 0 = 0) (e2 : xs.length = 2 ^ n) :
    Calls Tryd.prog 13 #[.int .i64 n, .slice A k c] w fun e w' => e = .returned (.bool true) ∧ Below w.heap.size w w' := by
  obtain ⟨m1, zs1, hC1⟩ := cp_of hs
  obtain ⟨rfl, rfl⟩ := hC1.same ⟨_, h1⟩
  have HC1 := hid hC1
  have hn1 := h1.n1n
  have hn6 := h1.n6n
  have hl := hs.numlen
  have h64 := h1.len64
  have hask := ask_none h1
  have hpn := p2_nat n
  have hle := askN_le n (setF zs1).testBit _ 0 0 rfl
  rw [un_none] at hle
  have HAW := hid fun W (hb : Below w.heap.size w W) => awakeF W (hT.below hb)
  have HF := hid fun W (hb : Below w.heap.size w W) => familyYes n A m1 c zs1 W (hs.below hb) h1
  have HE := hid fun A' c' W (hb : Below w.heap.size w W) (s1 : Sl W A' m1 c' (zs1.map (Value.int .i64))) => earlyYes n A' m1 c' zs1 W s1 (hT.below hb) h1
  have HA := hid fun A' c' W (hb : Below w.heap.size w W) (s1 : Sl W A' m1 c' (zs1.map (Value.int .i64))) => askYes n A' m1 c' zs1 W s1 (hT.below hb) h1
  have HP := hid fun A' c' W (hb : Below w.heap.size w W) (s1 : Sl W A' m1 c' (zs1.map (Value.int .i64))) => planYes n A' m1 c' zs1 W s1 (hT.below hb) h1
  have HS := hid fun A' c' W (hb : Below w.heap.size w W) (s1 : Sl W A' m1 c' (zs1.map (Value.int .i64))) => sumYes n A' m1 c' zs1 W s1 (hT.below hb) h1
  have hsum : askN n (setF zs1).testBit 0 0 < n → sumL zs1 = 0 := fun h => by rw [sum_famS h1]; exact early_sum hn6 h
  have hsb := sumL_bd zs1
  have hsb2 : -64 ≤ sumL zs1 ∧ sumL zs1 ≤ 64 := by omega
  obtain ⟨P, hP⟩ : ∃ P, planL n (setF zs1) 0 0 0 = P := ⟨_, rfl⟩
  have hok := plan_okP (n := n) (F := setF zs1) hn6
  have hch := plan_check (n := n) (F := setF zs1)
  have hPl := planL_len n (setF zs1) 0 0 0 hn6
  rw [hP] at HP hok hch hPl
  have HCH := hid fun A' c' (T : Option Addr) k' W (hb : Below w.heap.size w W) (s1 : Sl W A' m1 c' (zs1.map (Value.int .i64))) (s3 : Sl3 W T P.length k' P) => checkYes n A' m1 c' zs1 T P.length k' P W s1 s3 (hT.below hb) h1 hok _ true hch
  simp only [if_true] at HCH
  have hEB : earlyB n zs1 = true := by
    unfold earlyB
    rw [decide_eq_true_iff]; omega
  rw [hEB] at HE
  obtain ⟨q, hq⟩ : ∃ q, askN n (setF zs1).testBit 0 0 = q := ⟨_, rfl⟩
  rw [hq] at HA HCH hask hle hsum e1
  have FN : Fits (n : Int) := ⟨by omega, by omega⟩
  have hpp := Nat.two_pow_pos n
  have hpb : 1 ≤ p2 (n : Int) := by omega
  have g1 : ((q : Int) == 0) = true := by rw [beq_iff_eq]; omega
  have g1n : (q == 0) = true := by rw [beq_iff_eq]; omega
  have g2 : decide ((q : Int) < n) = true := by rw [decide_eq_true_iff]; omega
  have g2n : decide (q < n) = true := by rw [decide_eq_true_iff]; omega
  have g3 : ((m1 : Int) == 0) = false := by rw [beq_eq_false_iff_ne]; omega
  have g3n : (m1 == 0) = false := by rw [beq_eq_false_iff_ne]; omega
  have g4 : ((m1 : Int) == p2 (n : Int)) = true := by rw [beq_iff_eq]; omega
  have g5 : (sumL zs1 == 0) = true := by rw [beq_iff_eq]; exact hsum (by omega)
  have g6 : decide ((q : Int) ≤ n) = true := by rw [decide_eq_true_iff]; omega
  have g6n : decide (q ≤ n) = true := by rw [decide_eq_true_iff]; omega
  have g7 : ((q : Int) == q) = true := by simp
  generalize sumL zs1 = v at *
  clear hC1 hs hT h1 hl h64 hask hpn hle hsum hsb hP hok hch hEB hq hpp e1 e2
  have HB0 := hid (Below.refl w.heap.size w)
  go_enter Tryd.func13, Tryd.ntmps13
  go_wp2_with fail
  refine (HC1.out.run _ HB0.out).mono ?_; rintro e w1 ⟨A1, c1, rfl, ho, hb⟩
  have HB1 := hid (below_call HB0.out hb HB0.out.size)
  have S1_1 := hid (Sl.of_own ho)
  clear hb ho
  go_wp2_with fail
  refine (HE.out _ _ _ HB1.out S1_1.out).mono ?_; rintro e w2 ⟨rfl, hb⟩
  have HB2 := hid (below_call HB1.out hb HB1.out.size)
  have S1_2 := hid (S1_1.out.below hb)
  clear hb
  clear S1_1 S1_2
  go_wp2_with fail
  refine (HC1.out.run _ HB2.out).mono ?_; rintro e w3 ⟨A3, c3, rfl, ho, hb⟩
  have HB3 := hid (below_call HB2.out hb HB2.out.size)
  have S2_3 := hid (Sl.of_own ho)
  clear hb ho
  go_wp2_with fail
  refine (HA.out _ _ _ HB3.out S2_3.out).mono ?_; rintro e w4 ⟨rfl, hb⟩
  have HB4 := hid (below_call HB3.out hb HB3.out.size)
  have S2_4 := hid (S2_3.out.below hb)
  clear hb
  clear S2_3 S2_4
  go_wp2_with fail
  refine (HC1.out.run _ HB4.out).mono ?_; rintro e w5 ⟨A5, c5, rfl, ho, hb⟩
  have HB5 := hid (below_call HB4.out hb HB4.out.size)
  have S3_5 := hid (Sl.of_own ho)
  clear hb ho
  go_wp2_with fail
  refine (HP.out _ _ _ HB5.out S3_5.out).mono ?_; rintro e w6 ⟨A6, c6, rfl, ho, hb⟩
  have HB6 := hid (below_call HB5.out hb HB5.out.size)
  have S3_6 := hid (S3_5.out.below hb)
  have SP_6 := hid (Sl3.of_own ho)
  clear hb ho
  clear S3_5 S3_6
  go_wp2_with fail
  refine (HC1.out.run _ HB6.out).mono ?_; rintro e w7 ⟨A7, c7, rfl, ho, hb⟩
  have HB7 := hid (below_call HB6.out hb HB6.out.size)
  have SP_7 := hid (SP_6.out.below hb)
  have S4_7 := hid (Sl.of_own ho)
  clear hb ho
  go_wp2_with fail
  refine (HS.out _ _ _ HB7.out S4_7.out).mono ?_; rintro e w8 ⟨rfl, hb⟩
  have HB8 := hid (below_call HB7.out hb HB7.out.size)
  have SP_8 := hid (SP_7.out.below hb)
  have S4_8 := hid (S4_7.out.below hb)
  clear hb
  clear S4_7 S4_8
  go_wp2_with fail
  refine (HF.out _ HB8.out).mono ?_; rintro e w9 ⟨rfl, hb⟩
  have HB9 := hid (below_call HB8.out hb HB8.out.size)
  have SP_9 := hid (SP_8.out.below hb)
  clear hb
  go_wp2_with fail
  refine (HC1.out.run _ HB9.out).mono ?_; rintro e w10 ⟨A10, c10, rfl, ho, hb⟩
  have HB10 := hid (below_call HB9.out hb HB9.out.size)
  have SP_10 := hid (SP_9.out.below hb)
  have S5_10 := hid (Sl.of_own ho)
  clear hb ho
  go_wp2_with fail
  refine (HCH.out _ _ _ _ _ HB10.out S5_10.out SP_10.out).mono ?_; rintro e w11 ⟨rfl, hb⟩
  have HB11 := hid (below_call HB10.out hb HB10.out.size)
  have SP_11 := hid (SP_10.out.below hb)
  have S5_11 := hid (S5_10.out.below hb)
  clear hb
  clear S5_10 S5_11
  go_wp2_with fail
  refine (HAW.out _ HB11.out).mono ?_; rintro e w12 ⟨rfl, hb⟩
  have HB12 := hid (below_call HB11.out hb HB11.out.size)
  have SP_12 := hid (SP_11.out.below hb)
  clear hb
  go_wp2
  go_ret
  exact ⟨rfl, HB12.out⟩


set_option maxRecDepth 100000 in
set_option maxHeartbeats 4000000 in
theorem evadeSettles_c (w : World) (hT : Tab w) (n : Nat) (A : Option Addr) (k c : Nat) (xs : List Int) (hs : Sl w A k c (xs.map (Value.int .i64))) (h1 : Fam n xs) (e1 : askN n (setF xs).testBit 0 0 ≠ 0) (e2 : askN n (setF xs).testBit 0 0 < n) :
    Calls Tryd.prog 13 #[.int .i64 n, .slice A k c] w fun e w' => e = .returned (.bool true) ∧ Below w.heap.size w w' := by
  obtain ⟨m1, zs1, hC1⟩ := cp_of hs
  obtain ⟨rfl, rfl⟩ := hC1.same ⟨_, h1⟩
  have HC1 := hid hC1
  have hn1 := h1.n1n
  have hn6 := h1.n6n
  have hl := hs.numlen
  have h64 := h1.len64
  have hask := ask_none h1
  have hpn := p2_nat n
  have hle := askN_le n (setF zs1).testBit _ 0 0 rfl
  rw [un_none] at hle
  have HAW := hid fun W (hb : Below w.heap.size w W) => awakeF W (hT.below hb)
  have HF := hid fun W (hb : Below w.heap.size w W) => familyYes n A m1 c zs1 W (hs.below hb) h1
  have HE := hid fun A' c' W (hb : Below w.heap.size w W) (s1 : Sl W A' m1 c' (zs1.map (Value.int .i64))) => earlyYes n A' m1 c' zs1 W s1 (hT.below hb) h1
  have HA := hid fun A' c' W (hb : Below w.heap.size w W) (s1 : Sl W A' m1 c' (zs1.map (Value.int .i64))) => askYes n A' m1 c' zs1 W s1 (hT.below hb) h1
  have HP := hid fun A' c' W (hb : Below w.heap.size w W) (s1 : Sl W A' m1 c' (zs1.map (Value.int .i64))) => planYes n A' m1 c' zs1 W s1 (hT.below hb) h1
  have HS := hid fun A' c' W (hb : Below w.heap.size w W) (s1 : Sl W A' m1 c' (zs1.map (Value.int .i64))) => sumYes n A' m1 c' zs1 W s1 (hT.below hb) h1
  have hsum : askN n (setF zs1).testBit 0 0 < n → sumL zs1 = 0 := fun h => by rw [sum_famS h1]; exact early_sum hn6 h
  have hsb := sumL_bd zs1
  have hsb2 : -64 ≤ sumL zs1 ∧ sumL zs1 ≤ 64 := by omega
  obtain ⟨P, hP⟩ : ∃ P, planL n (setF zs1) 0 0 0 = P := ⟨_, rfl⟩
  have hok := plan_okP (n := n) (F := setF zs1) hn6
  have hch := plan_check (n := n) (F := setF zs1)
  have hPl := planL_len n (setF zs1) 0 0 0 hn6
  rw [hP] at HP hok hch hPl
  have HCH := hid fun A' c' (T : Option Addr) k' W (hb : Below w.heap.size w W) (s1 : Sl W A' m1 c' (zs1.map (Value.int .i64))) (s3 : Sl3 W T P.length k' P) => checkYes n A' m1 c' zs1 T P.length k' P W s1 s3 (hT.below hb) h1 hok _ true hch
  simp only [if_true] at HCH
  have hEB : earlyB n zs1 = true := by
    unfold earlyB
    rw [decide_eq_true_iff]; omega
  rw [hEB] at HE
  obtain ⟨q, hq⟩ : ∃ q, askN n (setF zs1).testBit 0 0 = q := ⟨_, rfl⟩
  rw [hq] at HA HCH hask hle hsum e1 e2
  have FN : Fits (n : Int) := ⟨by omega, by omega⟩
  have hpp := Nat.two_pow_pos n
  have hpb : 1 ≤ p2 (n : Int) := by omega
  have g1 : ((q : Int) == 0) = false := by rw [beq_eq_false_iff_ne]; omega
  have g1n : (q == 0) = false := by rw [beq_eq_false_iff_ne]; omega
  have g2 : decide ((q : Int) < n) = true := by rw [decide_eq_true_iff]; omega
  have g2n : decide (q < n) = true := by rw [decide_eq_true_iff]; omega
  have g3 : ((m1 : Int) == 0) = false := by rw [beq_eq_false_iff_ne]; omega
  have g3n : (m1 == 0) = false := by rw [beq_eq_false_iff_ne]; omega
  have g4 : ((m1 : Int) == p2 (n : Int)) = false := by rw [beq_eq_false_iff_ne]; omega
  have g5 : (sumL zs1 == 0) = true := by rw [beq_iff_eq]; exact hsum (by omega)
  have g6 : decide ((q : Int) ≤ n) = true := by rw [decide_eq_true_iff]; omega
  have g6n : decide (q ≤ n) = true := by rw [decide_eq_true_iff]; omega
  have g7 : ((q : Int) == q) = true := by simp
  generalize sumL zs1 = v at *
  clear hC1 hs hT h1 hl h64 hask hpn hle hsum hsb hP hok hch hEB hq hpp e1 e2
  have HB0 := hid (Below.refl w.heap.size w)
  go_enter Tryd.func13, Tryd.ntmps13
  go_wp2_with fail
  refine (HC1.out.run _ HB0.out).mono ?_; rintro e w1 ⟨A1, c1, rfl, ho, hb⟩
  have HB1 := hid (below_call HB0.out hb HB0.out.size)
  have S1_1 := hid (Sl.of_own ho)
  clear hb ho
  go_wp2_with fail
  refine (HE.out _ _ _ HB1.out S1_1.out).mono ?_; rintro e w2 ⟨rfl, hb⟩
  have HB2 := hid (below_call HB1.out hb HB1.out.size)
  have S1_2 := hid (S1_1.out.below hb)
  clear hb
  clear S1_1 S1_2
  go_wp2_with fail
  refine (HC1.out.run _ HB2.out).mono ?_; rintro e w3 ⟨A3, c3, rfl, ho, hb⟩
  have HB3 := hid (below_call HB2.out hb HB2.out.size)
  have S2_3 := hid (Sl.of_own ho)
  clear hb ho
  go_wp2_with fail
  refine (HA.out _ _ _ HB3.out S2_3.out).mono ?_; rintro e w4 ⟨rfl, hb⟩
  have HB4 := hid (below_call HB3.out hb HB3.out.size)
  have S2_4 := hid (S2_3.out.below hb)
  clear hb
  clear S2_3 S2_4
  go_wp2_with fail
  refine (HC1.out.run _ HB4.out).mono ?_; rintro e w5 ⟨A5, c5, rfl, ho, hb⟩
  have HB5 := hid (below_call HB4.out hb HB4.out.size)
  have S3_5 := hid (Sl.of_own ho)
  clear hb ho
  go_wp2_with fail
  refine (HP.out _ _ _ HB5.out S3_5.out).mono ?_; rintro e w6 ⟨A6, c6, rfl, ho, hb⟩
  have HB6 := hid (below_call HB5.out hb HB5.out.size)
  have S3_6 := hid (S3_5.out.below hb)
  have SP_6 := hid (Sl3.of_own ho)
  clear hb ho
  clear S3_5 S3_6
  go_wp2_with fail
  refine (HC1.out.run _ HB6.out).mono ?_; rintro e w7 ⟨A7, c7, rfl, ho, hb⟩
  have HB7 := hid (below_call HB6.out hb HB6.out.size)
  have SP_7 := hid (SP_6.out.below hb)
  have S4_7 := hid (Sl.of_own ho)
  clear hb ho
  go_wp2_with fail
  refine (HS.out _ _ _ HB7.out S4_7.out).mono ?_; rintro e w8 ⟨rfl, hb⟩
  have HB8 := hid (below_call HB7.out hb HB7.out.size)
  have SP_8 := hid (SP_7.out.below hb)
  have S4_8 := hid (S4_7.out.below hb)
  clear hb
  clear S4_7 S4_8
  go_wp2_with fail
  refine (HF.out _ HB8.out).mono ?_; rintro e w9 ⟨rfl, hb⟩
  have HB9 := hid (below_call HB8.out hb HB8.out.size)
  have SP_9 := hid (SP_8.out.below hb)
  clear hb
  go_wp2_with fail
  refine (HC1.out.run _ HB9.out).mono ?_; rintro e w10 ⟨A10, c10, rfl, ho, hb⟩
  have HB10 := hid (below_call HB9.out hb HB9.out.size)
  have SP_10 := hid (SP_9.out.below hb)
  have S5_10 := hid (Sl.of_own ho)
  clear hb ho
  go_wp2_with fail
  refine (HCH.out _ _ _ _ _ HB10.out S5_10.out SP_10.out).mono ?_; rintro e w11 ⟨rfl, hb⟩
  have HB11 := hid (below_call HB10.out hb HB10.out.size)
  have SP_11 := hid (SP_10.out.below hb)
  have S5_11 := hid (S5_10.out.below hb)
  clear hb
  clear S5_10 S5_11
  go_wp2_with fail
  refine (HAW.out _ HB11.out).mono ?_; rintro e w12 ⟨rfl, hb⟩
  have HB12 := hid (below_call HB11.out hb HB11.out.size)
  have SP_12 := hid (SP_11.out.below hb)
  clear hb
  go_wp2
  go_ret
  exact ⟨rfl, HB12.out⟩


set_option maxRecDepth 100000 in
set_option maxHeartbeats 4000000 in
theorem evadeSettles_d (w : World) (hT : Tab w) (n : Nat) (A : Option Addr) (k c : Nat) (xs : List Int) (hs : Sl w A k c (xs.map (Value.int .i64))) (h1 : Fam n xs) (e1 : askN n (setF xs).testBit 0 0 ≠ 0) (e2 : ¬ askN n (setF xs).testBit 0 0 < n) :
    Calls Tryd.prog 13 #[.int .i64 n, .slice A k c] w fun e w' => e = .returned (.bool true) ∧ Below w.heap.size w w' := by
  obtain ⟨m1, zs1, hC1⟩ := cp_of hs
  obtain ⟨rfl, rfl⟩ := hC1.same ⟨_, h1⟩
  have HC1 := hid hC1
  have hn1 := h1.n1n
  have hn6 := h1.n6n
  have hl := hs.numlen
  have h64 := h1.len64
  have hask := ask_none h1
  have hpn := p2_nat n
  have hle := askN_le n (setF zs1).testBit _ 0 0 rfl
  rw [un_none] at hle
  have HAW := hid fun W (hb : Below w.heap.size w W) => awakeF W (hT.below hb)
  have HF := hid fun W (hb : Below w.heap.size w W) => familyYes n A m1 c zs1 W (hs.below hb) h1
  have HE := hid fun A' c' W (hb : Below w.heap.size w W) (s1 : Sl W A' m1 c' (zs1.map (Value.int .i64))) => earlyYes n A' m1 c' zs1 W s1 (hT.below hb) h1
  have HA := hid fun A' c' W (hb : Below w.heap.size w W) (s1 : Sl W A' m1 c' (zs1.map (Value.int .i64))) => askYes n A' m1 c' zs1 W s1 (hT.below hb) h1
  have HP := hid fun A' c' W (hb : Below w.heap.size w W) (s1 : Sl W A' m1 c' (zs1.map (Value.int .i64))) => planYes n A' m1 c' zs1 W s1 (hT.below hb) h1
  have HS := hid fun A' c' W (hb : Below w.heap.size w W) (s1 : Sl W A' m1 c' (zs1.map (Value.int .i64))) => sumYes n A' m1 c' zs1 W s1 (hT.below hb) h1
  have hsum : askN n (setF zs1).testBit 0 0 < n → sumL zs1 = 0 := fun h => by rw [sum_famS h1]; exact early_sum hn6 h
  have hsb := sumL_bd zs1
  have hsb2 : -64 ≤ sumL zs1 ∧ sumL zs1 ≤ 64 := by omega
  obtain ⟨P, hP⟩ : ∃ P, planL n (setF zs1) 0 0 0 = P := ⟨_, rfl⟩
  have hok := plan_okP (n := n) (F := setF zs1) hn6
  have hch := plan_check (n := n) (F := setF zs1)
  have hPl := planL_len n (setF zs1) 0 0 0 hn6
  rw [hP] at HP hok hch hPl
  have HCH := hid fun A' c' (T : Option Addr) k' W (hb : Below w.heap.size w W) (s1 : Sl W A' m1 c' (zs1.map (Value.int .i64))) (s3 : Sl3 W T P.length k' P) => checkYes n A' m1 c' zs1 T P.length k' P W s1 s3 (hT.below hb) h1 hok _ true hch
  simp only [if_true] at HCH
  have hEB : earlyB n zs1 = false := by
    unfold earlyB
    rw [decide_eq_false_iff_not]; omega
  rw [hEB] at HE
  obtain ⟨q, hq⟩ : ∃ q, askN n (setF zs1).testBit 0 0 = q := ⟨_, rfl⟩
  rw [hq] at HA HCH hask hle hsum e1 e2
  have FN : Fits (n : Int) := ⟨by omega, by omega⟩
  have hpp := Nat.two_pow_pos n
  have hpb : 1 ≤ p2 (n : Int) := by omega
  have g1 : ((q : Int) == 0) = false := by rw [beq_eq_false_iff_ne]; omega
  have g1n : (q == 0) = false := by rw [beq_eq_false_iff_ne]; omega
  have g2 : decide ((q : Int) < n) = false := by rw [decide_eq_false_iff_not]; omega
  have g2n : decide (q < n) = false := by rw [decide_eq_false_iff_not]; omega
  have g3 : ((m1 : Int) == 0) = false := by rw [beq_eq_false_iff_ne]; omega
  have g3n : (m1 == 0) = false := by rw [beq_eq_false_iff_ne]; omega
  have g4 : ((m1 : Int) == p2 (n : Int)) = false := by rw [beq_eq_false_iff_ne]; omega
  have g6 : decide ((q : Int) ≤ n) = true := by rw [decide_eq_true_iff]; omega
  have g6n : decide (q ≤ n) = true := by rw [decide_eq_true_iff]; omega
  have g7 : ((q : Int) == q) = true := by simp
  generalize sumL zs1 = v at *
  clear hC1 hs hT h1 hl h64 hask hpn hle hsum hsb hP hok hch hEB hq hpp e1 e2
  have HB0 := hid (Below.refl w.heap.size w)
  go_enter Tryd.func13, Tryd.ntmps13
  go_wp2_with fail
  refine (HC1.out.run _ HB0.out).mono ?_; rintro e w1 ⟨A1, c1, rfl, ho, hb⟩
  have HB1 := hid (below_call HB0.out hb HB0.out.size)
  have S1_1 := hid (Sl.of_own ho)
  clear hb ho
  go_wp2_with fail
  refine (HE.out _ _ _ HB1.out S1_1.out).mono ?_; rintro e w2 ⟨rfl, hb⟩
  have HB2 := hid (below_call HB1.out hb HB1.out.size)
  have S1_2 := hid (S1_1.out.below hb)
  clear hb
  clear S1_1 S1_2
  go_wp2_with fail
  refine (HC1.out.run _ HB2.out).mono ?_; rintro e w3 ⟨A3, c3, rfl, ho, hb⟩
  have HB3 := hid (below_call HB2.out hb HB2.out.size)
  have S2_3 := hid (Sl.of_own ho)
  clear hb ho
  go_wp2_with fail
  refine (HA.out _ _ _ HB3.out S2_3.out).mono ?_; rintro e w4 ⟨rfl, hb⟩
  have HB4 := hid (below_call HB3.out hb HB3.out.size)
  have S2_4 := hid (S2_3.out.below hb)
  clear hb
  clear S2_3 S2_4
  go_wp2_with fail
  refine (HC1.out.run _ HB4.out).mono ?_; rintro e w5 ⟨A5, c5, rfl, ho, hb⟩
  have HB5 := hid (below_call HB4.out hb HB4.out.size)
  have S3_5 := hid (Sl.of_own ho)
  clear hb ho
  go_wp2_with fail
  refine (HP.out _ _ _ HB5.out S3_5.out).mono ?_; rintro e w6 ⟨A6, c6, rfl, ho, hb⟩
  have HB6 := hid (below_call HB5.out hb HB5.out.size)
  have S3_6 := hid (S3_5.out.below hb)
  have SP_6 := hid (Sl3.of_own ho)
  clear hb ho
  clear S3_5 S3_6
  go_wp2_with fail
  refine (HC1.out.run _ HB6.out).mono ?_; rintro e w7 ⟨A7, c7, rfl, ho, hb⟩
  have HB7 := hid (below_call HB6.out hb HB6.out.size)
  have SP_7 := hid (SP_6.out.below hb)
  have S4_7 := hid (Sl.of_own ho)
  clear hb ho
  go_wp2_with fail
  refine (HS.out _ _ _ HB7.out S4_7.out).mono ?_; rintro e w8 ⟨rfl, hb⟩
  have HB8 := hid (below_call HB7.out hb HB7.out.size)
  have SP_8 := hid (SP_7.out.below hb)
  have S4_8 := hid (S4_7.out.below hb)
  clear hb
  clear S4_7 S4_8
  go_wp2_with fail
  refine (HF.out _ HB8.out).mono ?_; rintro e w9 ⟨rfl, hb⟩
  have HB9 := hid (below_call HB8.out hb HB8.out.size)
  have SP_9 := hid (SP_8.out.below hb)
  clear hb
  go_wp2_with fail
  refine (HC1.out.run _ HB9.out).mono ?_; rintro e w10 ⟨A10, c10, rfl, ho, hb⟩
  have HB10 := hid (below_call HB9.out hb HB9.out.size)
  have SP_10 := hid (SP_9.out.below hb)
  have S5_10 := hid (Sl.of_own ho)
  clear hb ho
  go_wp2_with fail
  refine (HCH.out _ _ _ _ _ HB10.out S5_10.out SP_10.out).mono ?_; rintro e w11 ⟨rfl, hb⟩
  have HB11 := hid (below_call HB10.out hb HB10.out.size)
  have SP_11 := hid (SP_10.out.below hb)
  have S5_11 := hid (S5_10.out.below hb)
  clear hb
  clear S5_10 S5_11
  go_wp2_with fail
  refine (HAW.out _ HB11.out).mono ?_; rintro e w12 ⟨rfl, hb⟩
  have HB12 := hid (below_call HB11.out hb HB11.out.size)
  have SP_12 := hid (SP_11.out.below hb)
  clear hb
  go_wp2
  go_ret
  exact ⟨rfl, HB12.out⟩


theorem evadeSettles_walk (w : World) (hT : Tab w) (n : Int) (_ : (Lit.int .i64 n).wf = true) (A : Option Addr) (k c : Nat) (xs : List Int) (hs : Sl w A k c (xs.map (Value.int .i64))) (_ : ∀ x ∈ xs, -9223372036854775808 ≤ x ∧ x ≤ 9223372036854775807) :
    Calls Tryd.prog 13 #[.int .i64 n, .slice A k c] w fun e w' => e = .returned (.bool true) ∧ Below w.heap.size w w' := by
  by_cases h1 : Fam n xs
  · obtain ⟨n, rfl⟩ := Int.eq_ofNat_of_zero_le (show 0 ≤ n by have := h1.n1; omega)
    by_cases e1 : askN n (setF xs).testBit 0 0 = 0
    · rcases (ask_none h1).1 e1 with e2 | e2
      · exact evadeSettles_a w hT n A k c xs hs h1 e1 e2
      · exact evadeSettles_b w hT n A k c xs hs h1 e1 e2
    · by_cases e2 : askN n (setF xs).testBit 0 0 < n
      · exact evadeSettles_c w hT n A k c xs hs h1 e1 e2
      · exact evadeSettles_d w hT n A k c xs hs h1 e1 e2
  · exact evadeSettles_bad w hT n A k c xs hs h1
end Go.Proofs.YtjddbglbodkihaaDoor
