/- Walk of the law EvadeDuals. Condition: the table of the library stands. -/
import Derived.Test.YtjddbglbodkihaaDoorWalkSums
import Derived.Test.YtjddbglbodkihaaDoorAskP
namespace Go.Proofs.YtjddbglbodkihaaDoor
open Go.RowKit
attribute [local go_sem ↓] shl_p2

theorem sum_famN {n : Nat} {xs : List Int} (h : Fam n xs) : sumL xs = sumP (setF xs).testBit (2 ^ n) := by
  rw [← sumL_fam, h.same]
theorem gs_testBit {n : Nat} {q : Nat → Bool} : sumP (setF (famL (2 ^ n) q)).testBit (2 ^ n) = sumP q (2 ^ n) := gs_congr fun s hs => by
  rw [setF_famL, decide_eq_true hs, Bool.true_and]
theorem ask_famL {n : Nat} (q : Nat → Bool) : askN n (setF (famL (2 ^ n) q)).testBit 0 0 = askN n q 0 0 :=
  askN_congr (fun s hs => by rw [setF_famL, decide_eq_true hs, Bool.true_and]) _ 0 0 rfl
/-- What the law asks of a family and its dual. -/
structure Du (n : Nat) (xs l : List Int) : Prop where
  back : famL (2 ^ n) (dualP n (setF l).testBit) = xs
  ask : askN n (setF l).testBit 0 0 = askN n (setF xs).testBit 0 0
  sum : sumL l = sumL xs * (1 - 2 * (((n + 1) % 2 : Nat) : Int))
  len : (l.length : Int) = (2 ^ n : Nat) - (xs.length : Int)
  fam : Fam n l
theorem du_of {n : Nat} {xs : List Int} (h : Fam n xs) : Du n xs (famL (2 ^ n) (dualP n (setF xs).testBit)) where
  back := by
    conv => rhs; rw [← h.same]
    apply famL_congr
    intro s hs
    show (!(setF (famL (2 ^ n) (dualP n (setF xs).testBit))).testBit (flip n s)) = _
    rw [setF_famL, decide_eq_true (flip_lt n s), Bool.true_and]
    exact dual_dual hs _
  ask := by rw [ask_famL, ask_dual0]
  sum := by rw [sumL_fam, sum_dual h.n1n h.n6n, ← sum_famN h]
  len := by
    rw [len_dual, h.same]
  fam := fam_dual h

set_option maxRecDepth 100000 in
set_option maxHeartbeats 4000000 in
theorem evadeDuals_bad (w : World) (hT : Tab w) (n : Int) (A : Option Addr) (k c : Nat) (xs : List Int) (hs : Sl w A k c (xs.map (Value.int .i64))) (h1 : ¬ Fam n xs) :
    Calls Tryd.prog 6 #[.int .i64 n, .slice A k c] w fun e w' => e = .returned (.bool true) ∧ Below w.heap.size w w' := by
  obtain ⟨m1, zs1, hC1⟩ := cp_of hs
  have HC1 := hid hC1
  have HAW := hid fun W (hb : Below w.heap.size w W) => awakeF W (hT.below hb)
  have HD := hid fun A' c' W (hb : Below w.heap.size w W) (s1 : Sl W A' m1 c' (zs1.map (Value.int .i64))) => dualNo n A' m1 c' zs1 W s1 (hT.below hb) (by rw [hC1.fam]; exact h1)
  clear hC1 hs hT h1
  have HB0 := hid (Below.refl w.heap.size w)
  go_enter Tryd.func6, Tryd.ntmps6
  go_wp2_with fail
  refine (HC1.out.run _ HB0.out).mono ?_; rintro e w1 ⟨A1, c1, rfl, ho, hb⟩
  have HB1 := hid (below_call HB0.out hb HB0.out.size)
  have S2_1 := hid (Sl.of_own ho)
  clear hb ho
  go_wp2_with fail
  refine (HD.out _ _ _ HB1.out S2_1.out).mono ?_; rintro e w2 ⟨rfl, hb⟩
  have HB2 := hid (below_call HB1.out hb HB1.out.size)
  have S2_2 := hid (S2_1.out.below hb)
  clear hb
  clear S2_1 S2_2
  go_wp2_with fail
  refine (HAW.out _ HB2.out).mono ?_; rintro e w3 ⟨rfl, hb⟩
  have HB3 := hid (below_call HB2.out hb HB2.out.size)
  clear hb
  go_wp2
  go_ret
  exact ⟨rfl, HB3.out⟩


set_option maxRecDepth 100000 in
set_option maxHeartbeats 4000000 in
theorem evadeDuals_good0 (w : World) (hT : Tab w) (n : Nat) (A : Option Addr) (k c : Nat) (xs : List Int) (hs : Sl w A k c (xs.map (Value.int .i64))) (h1 : Fam n xs) (hz : (n + 1) % 2 = 0) :
    Calls Tryd.prog 6 #[.int .i64 n, .slice A k c] w fun e w' => e = .returned (.bool true) ∧ Below w.heap.size w w' := by
  have hdu := du_of h1
  obtain ⟨m1, zs1, hC1⟩ := cp_of hs
  obtain ⟨rfl, rfl⟩ := hC1.same ⟨_, h1⟩
  have HC1 := hid hC1
  have hl := hs.numlen
  have h64 := h1.len64
  have HAW := hid fun W (hb : Below w.heap.size w W) => awakeF W (hT.below hb)
  have HF := hid fun W (hb : Below w.heap.size w W) => familyYes n A m1 c zs1 W (hs.below hb) h1
  have HD := hid fun A' c' W (hb : Below w.heap.size w W) (s1 : Sl W A' m1 c' (zs1.map (Value.int .i64))) => dualYes n A' m1 c' zs1 W s1 (hT.below hb) h1
  have HA := hid fun A' c' W (hb : Below w.heap.size w W) (s1 : Sl W A' m1 c' (zs1.map (Value.int .i64))) => askYes n A' m1 c' zs1 W s1 (hT.below hb) h1
  have HS := hid fun A' c' W (hb : Below w.heap.size w W) (s1 : Sl W A' m1 c' (zs1.map (Value.int .i64))) => sumYes n A' m1 c' zs1 W s1 (hT.below hb) h1
  obtain ⟨l, hle⟩ : ∃ l, famL (2 ^ n) (dualP n (setF zs1).testBit) = l := ⟨_, rfl⟩
  rw [hle] at HD hdu
  have hlen := hdu.len
  have hl64 := hdu.fam.len64
  have HCL := hid fun A' j c' W (s1 : Sl W A' j c' (l.map (Value.int .i64))) => cloneInts A' j c' l (by have := s1.numlen; omega) W s1
  have HD2 := hid fun A' j c' W (hb : Below w.heap.size w W) (s1 : Sl W A' j c' (l.map (Value.int .i64))) => dualYes n A' j c' l W s1 (hT.below hb) hdu.fam
  have HA2 := hid fun A' j c' W (hb : Below w.heap.size w W) (s1 : Sl W A' j c' (l.map (Value.int .i64))) => askYes n A' j c' l W s1 (hT.below hb) hdu.fam
  have HS2 := hid fun A' j c' W (hb : Below w.heap.size w W) (s1 : Sl W A' j c' (l.map (Value.int .i64))) => sumYes n A' j c' l W s1 (hT.below hb) hdu.fam
  rw [hdu.back] at HD2
  rw [hdu.ask] at HA2
  rw [hdu.sum, hz] at HS2
  have hsb := sumL_bd zs1
  have hsb2 : -64 ≤ sumL zs1 ∧ sumL zs1 ≤ 64 := by omega
  have hn6 := h1.n6n
  have hpn := p2_nat n
  have hp64 := two6 hn6
  have FN : Fits (n : Int) := ⟨by omega, by omega⟩
  have hrem : ((n : Int) + 1).tmod 2 = 0 := by rw [Int.tmod_eq_emod_of_nonneg (by omega)]; omega
  have HEQ := hid fun A' j1 c1 B' k1 d1 W (s1 : Sl W A' j1 c1 (zs1.map (Value.int .i64))) s2 => equalYes' A' B' j1 c1 k1 d1 zs1 W s1 s2
  have HOR := hid hs
  have HLL := hid (show l.length = 2 ^ n - m1 ∧ m1 ≤ 2 ^ n from by omega)
  generalize askN n (setF zs1).testBit 0 0 = ka at *
  have q1 : ((ka : Int) == ka) = true := by simp
  have q1n : (ka == ka) = true := by simp
  generalize sumL zs1 = v at *
  have q2 : (v == v * 1) = true := by simp
  have q3 : (v * -1 == v * -1) = true := by simp
  have q4 : (v == v) = true := by simp
  have hpb : 1 ≤ p2 (n : Int) ∧ p2 (n : Int) ≤ 64 := by have := Nat.two_pow_pos n; omega
  have HLQ := hid fun (j : Nat) (hj : l.length = j) => (show ((j : Int) == p2 (n : Int) - m1) = true from by rw [beq_iff_eq]; omega)
  have hm2 : (m1 : Int) ≤ p2 (n : Int) := by omega
  generalize hset : setF zs1 = F at *
  clear hC1 hs hT h1 hl h64 hdu hle hlen hl64 hsb hpn hp64 hz hset
  have HB0 := hid (Below.refl w.heap.size w)
  go_enter Tryd.func6, Tryd.ntmps6
  go_wp2_with fail
  refine (HC1.out.run _ HB0.out).mono ?_; rintro e w1 ⟨A1, c1, rfl, ho, hb⟩
  have HB1 := hid (below_call HB0.out hb HB0.out.size)
  have S1_1 := hid (Sl.of_own ho)
  clear hb ho
  go_wp2_with fail
  refine (HD.out _ _ _ HB1.out S1_1.out).mono ?_; rintro e w2 ⟨A2, c2, l2, rfl, ho, hb⟩
  have HB2 := hid (below_call HB1.out hb HB1.out.size)
  have S1_2 := hid (S1_1.out.below hb)
  have SD_2 := hid (Sl.of_own ho)
  clear hb ho
  clear S1_1 S1_2
  have hj := HLQ.out _ SD_2.out.numlen
  have hjb := SD_2.out.len_le
  go_wp2_with fail
  refine (HF.out _ HB2.out).mono ?_; rintro e w3 ⟨rfl, hb⟩
  have HB3 := hid (below_call HB2.out hb HB2.out.size)
  have SD_3 := hid (SD_2.out.below hb)
  clear hb
  go_wp2_with fail
  refine (HCL.out _ _ _ _ SD_3.out).mono ?_; rintro e w4 ⟨A4, c4, rfl, ho, hb⟩
  have HB4 := hid (below_call HB3.out hb HB3.out.size)
  have SD_4 := hid (SD_3.out.below hb)
  have S2_4 := hid (Sl.of_own ho)
  clear hb ho
  go_wp2_with fail
  refine (HD2.out _ _ _ _ HB4.out S2_4.out).mono ?_; rintro e w5 ⟨A5, c5, l5, rfl, ho, hb⟩
  have HB5 := hid (below_call HB4.out hb HB4.out.size)
  have SD_5 := hid (SD_4.out.below hb)
  have S2_5 := hid (S2_4.out.below hb)
  have SB_5 := hid (Sl.of_own ho)
  clear hb ho
  clear S2_4 S2_5
  go_wp2_with fail
  refine (HC1.out.run _ HB5.out).mono ?_; rintro e w6 ⟨A6, c6, rfl, ho, hb⟩
  have HB6 := hid (below_call HB5.out hb HB5.out.size)
  have SD_6 := hid (SD_5.out.below hb)
  have SB_6 := hid (SB_5.out.below hb)
  have S3_6 := hid (Sl.of_own ho)
  clear hb ho
  go_wp2_with fail
  refine (HA.out _ _ _ HB6.out S3_6.out).mono ?_; rintro e w7 ⟨rfl, hb⟩
  have HB7 := hid (below_call HB6.out hb HB6.out.size)
  have SD_7 := hid (SD_6.out.below hb)
  have SB_7 := hid (SB_6.out.below hb)
  have S3_7 := hid (S3_6.out.below hb)
  clear hb
  clear S3_6 S3_7
  go_wp2_with fail
  refine (HCL.out _ _ _ _ SD_7.out).mono ?_; rintro e w8 ⟨A8, c8, rfl, ho, hb⟩
  have HB8 := hid (below_call HB7.out hb HB7.out.size)
  have SD_8 := hid (SD_7.out.below hb)
  have SB_8 := hid (SB_7.out.below hb)
  have S4_8 := hid (Sl.of_own ho)
  clear hb ho
  go_wp2_with fail
  refine (HA2.out _ _ _ _ HB8.out S4_8.out).mono ?_; rintro e w9 ⟨rfl, hb⟩
  have HB9 := hid (below_call HB8.out hb HB8.out.size)
  have SD_9 := hid (SD_8.out.below hb)
  have SB_9 := hid (SB_8.out.below hb)
  have S4_9 := hid (S4_8.out.below hb)
  clear hb
  clear S4_8 S4_9
  go_wp2_with fail
  refine (HC1.out.run _ HB9.out).mono ?_; rintro e w10 ⟨A10, c10, rfl, ho, hb⟩
  have HB10 := hid (below_call HB9.out hb HB9.out.size)
  have SD_10 := hid (SD_9.out.below hb)
  have SB_10 := hid (SB_9.out.below hb)
  have S5_10 := hid (Sl.of_own ho)
  clear hb ho
  go_wp2_with fail
  refine (HS.out _ _ _ HB10.out S5_10.out).mono ?_; rintro e w11 ⟨rfl, hb⟩
  have HB11 := hid (below_call HB10.out hb HB10.out.size)
  have SD_11 := hid (SD_10.out.below hb)
  have SB_11 := hid (SB_10.out.below hb)
  have S5_11 := hid (S5_10.out.below hb)
  clear hb
  clear S5_10 S5_11
  go_wp2_with fail
  refine (HCL.out _ _ _ _ SD_11.out).mono ?_; rintro e w12 ⟨A12, c12, rfl, ho, hb⟩
  have HB12 := hid (below_call HB11.out hb HB11.out.size)
  have SD_12 := hid (SD_11.out.below hb)
  have SB_12 := hid (SB_11.out.below hb)
  have S6_12 := hid (Sl.of_own ho)
  clear hb ho
  go_wp2_with fail
  refine (HS2.out _ _ _ _ HB12.out S6_12.out).mono ?_; rintro e w13 ⟨rfl, hb⟩
  have HB13 := hid (below_call HB12.out hb HB12.out.size)
  have SD_13 := hid (SD_12.out.below hb)
  have SB_13 := hid (SB_12.out.below hb)
  have S6_13 := hid (S6_12.out.below hb)
  clear hb
  clear S6_12 S6_13
  go_wp2_with fail
  refine (HEQ.out _ _ _ _ _ _ _ SB_13.out (HOR.out.below HB13.out)).mono ?_; rintro e w14 ⟨rfl, hb⟩
  have HB14 := hid (below_call HB13.out hb HB13.out.size)
  have SD_14 := hid (SD_13.out.below hb)
  have SB_14 := hid (SB_13.out.below hb)
  clear hb
  go_wp2_with fail
  refine (HAW.out _ HB14.out).mono ?_; rintro e w15 ⟨rfl, hb⟩
  have HB15 := hid (below_call HB14.out hb HB14.out.size)
  have SD_15 := hid (SD_14.out.below hb)
  have SB_15 := hid (SB_14.out.below hb)
  clear hb
  go_wp2
  go_ret
  exact ⟨rfl, HB15.out⟩


set_option maxRecDepth 100000 in
set_option maxHeartbeats 4000000 in
theorem evadeDuals_good1 (w : World) (hT : Tab w) (n : Nat) (A : Option Addr) (k c : Nat) (xs : List Int) (hs : Sl w A k c (xs.map (Value.int .i64))) (h1 : Fam n xs) (hz : (n + 1) % 2 = 1) :
    Calls Tryd.prog 6 #[.int .i64 n, .slice A k c] w fun e w' => e = .returned (.bool true) ∧ Below w.heap.size w w' := by
  have hdu := du_of h1
  obtain ⟨m1, zs1, hC1⟩ := cp_of hs
  obtain ⟨rfl, rfl⟩ := hC1.same ⟨_, h1⟩
  have HC1 := hid hC1
  have hl := hs.numlen
  have h64 := h1.len64
  have HAW := hid fun W (hb : Below w.heap.size w W) => awakeF W (hT.below hb)
  have HF := hid fun W (hb : Below w.heap.size w W) => familyYes n A m1 c zs1 W (hs.below hb) h1
  have HD := hid fun A' c' W (hb : Below w.heap.size w W) (s1 : Sl W A' m1 c' (zs1.map (Value.int .i64))) => dualYes n A' m1 c' zs1 W s1 (hT.below hb) h1
  have HA := hid fun A' c' W (hb : Below w.heap.size w W) (s1 : Sl W A' m1 c' (zs1.map (Value.int .i64))) => askYes n A' m1 c' zs1 W s1 (hT.below hb) h1
  have HS := hid fun A' c' W (hb : Below w.heap.size w W) (s1 : Sl W A' m1 c' (zs1.map (Value.int .i64))) => sumYes n A' m1 c' zs1 W s1 (hT.below hb) h1
  obtain ⟨l, hle⟩ : ∃ l, famL (2 ^ n) (dualP n (setF zs1).testBit) = l := ⟨_, rfl⟩
  rw [hle] at HD hdu
  have hlen := hdu.len
  have hl64 := hdu.fam.len64
  have HCL := hid fun A' j c' W (s1 : Sl W A' j c' (l.map (Value.int .i64))) => cloneInts A' j c' l (by have := s1.numlen; omega) W s1
  have HD2 := hid fun A' j c' W (hb : Below w.heap.size w W) (s1 : Sl W A' j c' (l.map (Value.int .i64))) => dualYes n A' j c' l W s1 (hT.below hb) hdu.fam
  have HA2 := hid fun A' j c' W (hb : Below w.heap.size w W) (s1 : Sl W A' j c' (l.map (Value.int .i64))) => askYes n A' j c' l W s1 (hT.below hb) hdu.fam
  have HS2 := hid fun A' j c' W (hb : Below w.heap.size w W) (s1 : Sl W A' j c' (l.map (Value.int .i64))) => sumYes n A' j c' l W s1 (hT.below hb) hdu.fam
  rw [hdu.back] at HD2
  rw [hdu.ask] at HA2
  rw [hdu.sum, hz] at HS2
  have hsb := sumL_bd zs1
  have hsb2 : -64 ≤ sumL zs1 ∧ sumL zs1 ≤ 64 := by omega
  have hn6 := h1.n6n
  have hpn := p2_nat n
  have hp64 := two6 hn6
  have FN : Fits (n : Int) := ⟨by omega, by omega⟩
  have hrem : ((n : Int) + 1).tmod 2 = 1 := by rw [Int.tmod_eq_emod_of_nonneg (by omega)]; omega
  have HEQ := hid fun A' j1 c1 B' k1 d1 W (s1 : Sl W A' j1 c1 (zs1.map (Value.int .i64))) s2 => equalYes' A' B' j1 c1 k1 d1 zs1 W s1 s2
  have HOR := hid hs
  have HLL := hid (show l.length = 2 ^ n - m1 ∧ m1 ≤ 2 ^ n from by omega)
  generalize askN n (setF zs1).testBit 0 0 = ka at *
  have q1 : ((ka : Int) == ka) = true := by simp
  have q1n : (ka == ka) = true := by simp
  generalize sumL zs1 = v at *
  have q2 : (v == v * 1) = true := by simp
  have q3 : (v * -1 == v * -1) = true := by simp
  have q4 : (v == v) = true := by simp
  have hpb : 1 ≤ p2 (n : Int) ∧ p2 (n : Int) ≤ 64 := by have := Nat.two_pow_pos n; omega
  have HLQ := hid fun (j : Nat) (hj : l.length = j) => (show ((j : Int) == p2 (n : Int) - m1) = true from by rw [beq_iff_eq]; omega)
  have hm2 : (m1 : Int) ≤ p2 (n : Int) := by omega
  generalize hset : setF zs1 = F at *
  clear hC1 hs hT h1 hl h64 hdu hle hlen hl64 hsb hpn hp64 hz hset
  have HB0 := hid (Below.refl w.heap.size w)
  go_enter Tryd.func6, Tryd.ntmps6
  go_wp2_with fail
  refine (HC1.out.run _ HB0.out).mono ?_; rintro e w1 ⟨A1, c1, rfl, ho, hb⟩
  have HB1 := hid (below_call HB0.out hb HB0.out.size)
  have S1_1 := hid (Sl.of_own ho)
  clear hb ho
  go_wp2_with fail
  refine (HD.out _ _ _ HB1.out S1_1.out).mono ?_; rintro e w2 ⟨A2, c2, l2, rfl, ho, hb⟩
  have HB2 := hid (below_call HB1.out hb HB1.out.size)
  have S1_2 := hid (S1_1.out.below hb)
  have SD_2 := hid (Sl.of_own ho)
  clear hb ho
  clear S1_1 S1_2
  have hj := HLQ.out _ SD_2.out.numlen
  have hjb := SD_2.out.len_le
  go_wp2_with fail
  refine (HF.out _ HB2.out).mono ?_; rintro e w3 ⟨rfl, hb⟩
  have HB3 := hid (below_call HB2.out hb HB2.out.size)
  have SD_3 := hid (SD_2.out.below hb)
  clear hb
  go_wp2_with fail
  refine (HCL.out _ _ _ _ SD_3.out).mono ?_; rintro e w4 ⟨A4, c4, rfl, ho, hb⟩
  have HB4 := hid (below_call HB3.out hb HB3.out.size)
  have SD_4 := hid (SD_3.out.below hb)
  have S2_4 := hid (Sl.of_own ho)
  clear hb ho
  go_wp2_with fail
  refine (HD2.out _ _ _ _ HB4.out S2_4.out).mono ?_; rintro e w5 ⟨A5, c5, l5, rfl, ho, hb⟩
  have HB5 := hid (below_call HB4.out hb HB4.out.size)
  have SD_5 := hid (SD_4.out.below hb)
  have S2_5 := hid (S2_4.out.below hb)
  have SB_5 := hid (Sl.of_own ho)
  clear hb ho
  clear S2_4 S2_5
  go_wp2_with fail
  refine (HC1.out.run _ HB5.out).mono ?_; rintro e w6 ⟨A6, c6, rfl, ho, hb⟩
  have HB6 := hid (below_call HB5.out hb HB5.out.size)
  have SD_6 := hid (SD_5.out.below hb)
  have SB_6 := hid (SB_5.out.below hb)
  have S3_6 := hid (Sl.of_own ho)
  clear hb ho
  go_wp2_with fail
  refine (HA.out _ _ _ HB6.out S3_6.out).mono ?_; rintro e w7 ⟨rfl, hb⟩
  have HB7 := hid (below_call HB6.out hb HB6.out.size)
  have SD_7 := hid (SD_6.out.below hb)
  have SB_7 := hid (SB_6.out.below hb)
  have S3_7 := hid (S3_6.out.below hb)
  clear hb
  clear S3_6 S3_7
  go_wp2_with fail
  refine (HCL.out _ _ _ _ SD_7.out).mono ?_; rintro e w8 ⟨A8, c8, rfl, ho, hb⟩
  have HB8 := hid (below_call HB7.out hb HB7.out.size)
  have SD_8 := hid (SD_7.out.below hb)
  have SB_8 := hid (SB_7.out.below hb)
  have S4_8 := hid (Sl.of_own ho)
  clear hb ho
  go_wp2_with fail
  refine (HA2.out _ _ _ _ HB8.out S4_8.out).mono ?_; rintro e w9 ⟨rfl, hb⟩
  have HB9 := hid (below_call HB8.out hb HB8.out.size)
  have SD_9 := hid (SD_8.out.below hb)
  have SB_9 := hid (SB_8.out.below hb)
  have S4_9 := hid (S4_8.out.below hb)
  clear hb
  clear S4_8 S4_9
  go_wp2_with fail
  refine (HC1.out.run _ HB9.out).mono ?_; rintro e w10 ⟨A10, c10, rfl, ho, hb⟩
  have HB10 := hid (below_call HB9.out hb HB9.out.size)
  have SD_10 := hid (SD_9.out.below hb)
  have SB_10 := hid (SB_9.out.below hb)
  have S5_10 := hid (Sl.of_own ho)
  clear hb ho
  go_wp2_with fail
  refine (HS.out _ _ _ HB10.out S5_10.out).mono ?_; rintro e w11 ⟨rfl, hb⟩
  have HB11 := hid (below_call HB10.out hb HB10.out.size)
  have SD_11 := hid (SD_10.out.below hb)
  have SB_11 := hid (SB_10.out.below hb)
  have S5_11 := hid (S5_10.out.below hb)
  clear hb
  clear S5_10 S5_11
  go_wp2_with fail
  refine (HCL.out _ _ _ _ SD_11.out).mono ?_; rintro e w12 ⟨A12, c12, rfl, ho, hb⟩
  have HB12 := hid (below_call HB11.out hb HB11.out.size)
  have SD_12 := hid (SD_11.out.below hb)
  have SB_12 := hid (SB_11.out.below hb)
  have S6_12 := hid (Sl.of_own ho)
  clear hb ho
  go_wp2_with fail
  refine (HS2.out _ _ _ _ HB12.out S6_12.out).mono ?_; rintro e w13 ⟨rfl, hb⟩
  have HB13 := hid (below_call HB12.out hb HB12.out.size)
  have SD_13 := hid (SD_12.out.below hb)
  have SB_13 := hid (SB_12.out.below hb)
  have S6_13 := hid (S6_12.out.below hb)
  clear hb
  clear S6_12 S6_13
  go_wp2_with fail
  refine (HEQ.out _ _ _ _ _ _ _ SB_13.out (HOR.out.below HB13.out)).mono ?_; rintro e w14 ⟨rfl, hb⟩
  have HB14 := hid (below_call HB13.out hb HB13.out.size)
  have SD_14 := hid (SD_13.out.below hb)
  have SB_14 := hid (SB_13.out.below hb)
  clear hb
  go_wp2_with fail
  refine (HAW.out _ HB14.out).mono ?_; rintro e w15 ⟨rfl, hb⟩
  have HB15 := hid (below_call HB14.out hb HB14.out.size)
  have SD_15 := hid (SD_14.out.below hb)
  have SB_15 := hid (SB_14.out.below hb)
  clear hb
  go_wp2
  go_ret
  exact ⟨rfl, HB15.out⟩


theorem evadeDuals_walk (w : World) (hT : Tab w) (n : Int) (_ : (Lit.int .i64 n).wf = true) (A : Option Addr) (k c : Nat) (xs : List Int) (hs : Sl w A k c (xs.map (Value.int .i64))) (_ : ∀ x ∈ xs, -9223372036854775808 ≤ x ∧ x ≤ 9223372036854775807) :
    Calls Tryd.prog 6 #[.int .i64 n, .slice A k c] w fun e w' => e = .returned (.bool true) ∧ Below w.heap.size w w' := by
  by_cases h1 : Fam n xs
  · obtain ⟨n, rfl⟩ := Int.eq_ofNat_of_zero_le (show 0 ≤ n by have := h1.n1; omega)
    by_cases hz : (n + 1) % 2 = 0
    · exact evadeDuals_good0 w hT n A k c xs hs h1 hz
    · exact evadeDuals_good1 w hT n A k c xs hs h1 (by omega)
  · exact evadeDuals_bad w hT n A k c xs hs h1
end Go.Proofs.YtjddbglbodkihaaDoor
