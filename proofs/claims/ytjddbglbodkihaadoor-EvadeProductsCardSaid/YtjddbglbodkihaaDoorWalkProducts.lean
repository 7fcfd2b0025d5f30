/- Walk of the law EvadeProducts. Condition: the table of the library stands. -/
import Derived.Test.YtjddbglbodkihaaDoorWalkDuals
import Derived.Test.YtjddbglbodkihaaDoorEarlyW
import Derived.Test.YtjddbglbodkihaaDoorPartW
namespace Go.Proofs.YtjddbglbodkihaaDoor
open Go.RowKit
attribute [local go_sem ↓] shl_p2

theorem pick_x (x : Int) {n : Nat} (h0 : 0 < n) (hn : n ≤ 6) : ∃ j : Nat, wrap64 ((IntKind.u64.wrap x).tmod (n : Int)) = (j : Int) ∧ j < n := by
  have h1 : 0 ≤ IntKind.u64.wrap x := by rw [IntKind.wrap_u64]; omega
  have h2 : (IntKind.u64.wrap x).tmod (n : Int) = (IntKind.u64.wrap x) % (n : Int) := Int.tmod_eq_emod_of_nonneg h1
  rw [h2]
  have h3 := Int.emod_nonneg (IntKind.u64.wrap x) (show (n : Int) ≠ 0 by omega)
  have h4 := Int.emod_lt_of_pos (IntKind.u64.wrap x) (show (0 : Int) < n by omega)
  refine ⟨((IntKind.u64.wrap x) % (n : Int)).toNat, ?_, by omega⟩
  unfold wrap64
  omega
/-- What the law asks of two families and their join. -/
structure Pr (n m : Nat) (xs ys l : List Int) : Prop where
  fam : Fam ((n + m : Nat) : Int) l
  sum : sumL l = sumL xs * sumL ys
  len : (l.length : Int) = (xs.length : Int) * ys.length
  early : earlyB n xs = true ∨ earlyB m ys = true → earlyB (n + m) l = true
  link : ∀ x, x < n → famL (2 ^ (n + m)) (linkP x (setF l)) = famL (2 ^ (n + m)) (joinP n (setF (famL (2 ^ n) (linkP x (setF xs)))) (setF ys))
theorem pr_of {n m : Nat} {xs ys : List Int} (h1 : Fam n xs) (h2 : Fam m ys) (h : n + m ≤ 6) : Pr n m xs ys (famL (2 ^ (n + m)) (joinP n (setF xs) (setF ys))) where
  fam := fam_join h1 h2 h
  sum := by rw [sumL_fam, sum_join h, ← sum_famN h1, ← sum_famN h2]
  len := by rw [len_join, h1.same, h2.same]
  early := by
    unfold earlyB
    rw [decide_eq_true_iff, decide_eq_true_iff, decide_eq_true_iff, ask_famL]
    exact early_join
  link := fun x hx => link_join hx
theorem mul64 {a b : Nat} (ha : a ≤ 64) (hb : b ≤ 64) : wrap64 ((a : Int) * b) = ((a * b : Nat) : Int) := by
  have : a * b ≤ 64 * 64 := Nat.mul_le_mul ha hb
  rw [← Int.natCast_mul]
  unfold wrap64; omega
theorem mulI64 {a b : Int} (ha : -64 ≤ a ∧ a ≤ 64) (hb : -64 ≤ b ∧ b ≤ 64) : wrap64 (a * b) = a * b := by
  have h1 : (a * b).natAbs ≤ 64 * 64 := by
    rw [Int.natAbs_mul]
    exact Nat.mul_le_mul (by omega) (by omega)
  unfold wrap64; omega

set_option maxRecDepth 100000 in
set_option maxHeartbeats 4000000 in
theorem evadeProducts_bad (w : World) (hT : Tab w) (n m : Int) (A : Option Addr) (k c : Nat) (xs : List Int) (hs : Sl w A k c (xs.map (Value.int .i64))) (A2 : Option Addr) (k2 c2 : Nat) (ys : List Int) (ht : Sl w A2 k2 c2 (ys.map (Value.int .i64))) (x : Int) (H : ¬ (Fam n xs ∧ Fam m ys ∧ (n : Int) + m ≤ 6)) :
    Calls Tryd.prog 9 #[.int .i64 n, .int .i64 m, .slice A k c, .slice A2 k2 c2, .int .i64 x] w fun e w' => e = .returned (.bool true) ∧ Below w.heap.size w w' := by
  obtain ⟨m1, zs1, hC1⟩ := cp_of hs
  obtain ⟨m2, zs2, hC2⟩ := cp_of ht
  have HC1 := hid hC1; have HC2 := hid hC2
  have HAW := hid fun W (hb : Below w.heap.size w W) => awakeF W (hT.below hb)
  have HJ := hid fun A' c' A'' c'' W (hb : Below w.heap.size w W) (s1 : Sl W A' m1 c' (zs1.map (Value.int .i64))) (s2 : Sl W A'' m2 c'' (zs2.map (Value.int .i64))) => joinNo n m A' A'' m1 c' m2 c'' zs1 zs2 W s1 s2 (hT.below hb) (by rw [hC1.fam, hC2.fam]; exact H)
  clear hC1 hC2 hs ht hT H
  have HB0 := hid (Below.refl w.heap.size w)
  go_enter Tryd.func9, Tryd.ntmps9
  go_wp2_with fail
  refine (HC1.out.run _ HB0.out).mono ?_; rintro e w1 ⟨A1, c1, rfl, ho, hb⟩
  have HB1 := hid (below_call HB0.out hb HB0.out.size)
  have S1_1 := hid (Sl.of_own ho)
  clear hb ho
  go_wp2_with fail
  refine (HC2.out.run _ HB1.out).mono ?_; rintro e w2 ⟨A2, c2, rfl, ho, hb⟩
  have HB2 := hid (below_call HB1.out hb HB1.out.size)
  have S1_2 := hid (S1_1.out.below hb)
  have S2_2 := hid (Sl.of_own ho)
  clear hb ho
  go_wp2_with fail
  refine (HJ.out _ _ _ _ _ HB2.out S1_2.out S2_2.out).mono ?_; rintro e w3 ⟨rfl, hb⟩
  have HB3 := hid (below_call HB2.out hb HB2.out.size)
  have S1_3 := hid (S1_2.out.below hb)
  have S2_3 := hid (S2_2.out.below hb)
  clear hb
  clear S1_1 S1_2 S1_3
  clear S2_2 S2_3
  go_wp2_with fail
  refine (HAW.out _ HB3.out).mono ?_; rintro e w4 ⟨rfl, hb⟩
  have HB4 := hid (below_call HB3.out hb HB3.out.size)
  clear hb
  go_wp2
  go_ret
  exact ⟨rfl, HB4.out⟩


set_option maxRecDepth 100000 in
set_option maxHeartbeats 4000000 in
theorem evadeProducts_a (w : World) (hT : Tab w) (n m : Nat) (A : Option Addr) (k c : Nat) (xs : List Int) (hs : Sl w A k c (xs.map (Value.int .i64))) (A2 : Option Addr) (k2 c2 : Nat) (ys : List Int) (ht : Sl w A2 k2 c2 (ys.map (Value.int .i64))) (x : Int) (h1 : Fam n xs) (h2 : Fam m ys) (h3 : n + m ≤ 6) (v : Bool) (hu : earlyB n xs = true) (hv : earlyB m ys = v) (hw : earlyB (n + m) (famL (2 ^ (n + m)) (joinP n (setF xs) (setF ys))) = true) :
    Calls Tryd.prog 9 #[.int .i64 n, .int .i64 m, .slice A k c, .slice A2 k2 c2, .int .i64 x] w fun e w' => e = .returned (.bool true) ∧ Below w.heap.size w w' := by
  obtain ⟨m1, zs1, hC1⟩ := cp_of hs
  obtain ⟨m2, zs2, hC2⟩ := cp_of ht
  have HC1 := hid hC1; have HC2 := hid hC2
  have HAW := hid fun W (hb : Below w.heap.size w W) => awakeF W (hT.below hb)
  obtain ⟨rfl, rfl⟩ := hC1.same ⟨_, h1⟩
  obtain ⟨rfl, rfl⟩ := hC2.same ⟨_, h2⟩
  have hpr := pr_of h1 h2 h3
  have HJ := hid fun A' c' A'' c'' W (hb : Below w.heap.size w W) (s1 : Sl W A' m1 c' (zs1.map (Value.int .i64))) (s2 : Sl W A'' m2 c'' (zs2.map (Value.int .i64))) => joinYes n m A' A'' m1 c' m2 c'' zs1 zs2 W s1 s2 (hT.below hb) h1 h2 h3
  obtain ⟨l, hle⟩ : ∃ l, famL (2 ^ (n + m)) (joinP n (setF zs1) (setF zs2)) = l := ⟨_, rfl⟩
  rw [hle] at HJ hpr hw
  have hcast : ((n + m : Nat) : Int) = (n : Int) + m := by omega
  have HF1 := hid fun W (hb : Below w.heap.size w W) => familyYes n A m1 c zs1 W (hs.below hb) h1
  have HF2 := hid fun W (hb : Below w.heap.size w W) => familyYes m A2 m2 c2 zs2 W (ht.below hb) h2
  have HS1 := hid fun A' c' W (hb : Below w.heap.size w W) (s1 : Sl W A' m1 c' (zs1.map (Value.int .i64))) => sumYes n A' m1 c' zs1 W s1 (hT.below hb) h1
  have HS2 := hid fun A' c' W (hb : Below w.heap.size w W) (s1 : Sl W A' m2 c' (zs2.map (Value.int .i64))) => sumYes m A' m2 c' zs2 W s1 (hT.below hb) h2
  have HS3 := hid fun A' j c' W (hb : Below w.heap.size w W) (s1 : Sl W A' j c' (l.map (Value.int .i64))) => sumYes (n + m) A' j c' l W s1 (hT.below hb) hpr.fam
  have HE1 := hid fun A' c' W (hb : Below w.heap.size w W) (s1 : Sl W A' m1 c' (zs1.map (Value.int .i64))) => earlyYes n A' m1 c' zs1 W s1 (hT.below hb) h1
  have HE2 := hid fun A' c' W (hb : Below w.heap.size w W) (s1 : Sl W A' m2 c' (zs2.map (Value.int .i64))) => earlyYes m A' m2 c' zs2 W s1 (hT.below hb) h2
  have HE3 := hid fun A' j c' W (hb : Below w.heap.size w W) (s1 : Sl W A' j c' (l.map (Value.int .i64))) => earlyYes (n + m) A' j c' l W s1 (hT.below hb) hpr.fam
  rw [hu] at HE1
  rw [hv] at HE2
  rw [hw] at HE3
  rw [hpr.sum] at HS3
  have hn1 := h1.n1n
  have hn6 : n ≤ 6 := h1.n6n
  obtain ⟨y, hxy, hyn⟩ := pick_x x hn1 hn6
  have HL3 := hid fun A' j c' W (hb : Below w.heap.size w W) (s1 : Sl W A' j c' (l.map (Value.int .i64))) => linkYes (n + m) y A' j c' l W s1 (hT.below hb) hpr.fam (by omega)
  have HL1 := hid fun A' c' W (hb : Below w.heap.size w W) (s1 : Sl W A' m1 c' (zs1.map (Value.int .i64))) => linkYes n y A' m1 c' zs1 W s1 (hT.below hb) h1 hyn
  have hfl := fam_link h1 y
  rw [hpr.link y hyn] at HL3
  obtain ⟨lk, hlk⟩ : ∃ lk, famL (2 ^ n) (linkP y (setF zs1)) = lk := ⟨_, rfl⟩
  rw [hlk] at HL3 HL1 hfl
  have HJ2 := hid fun A' j c' A'' c'' W (hb : Below w.heap.size w W) (s1 : Sl W A' j c' (lk.map (Value.int .i64))) (s2 : Sl W A'' m2 c'' (zs2.map (Value.int .i64))) => joinYes n m A' A'' j c' m2 c'' lk zs2 W s1 s2 (hT.below hb) hfl h2 h3
  obtain ⟨l2, hl2⟩ : ∃ l2, famL (2 ^ (n + m)) (joinP n (setF lk) (setF zs2)) = l2 := ⟨_, rfl⟩
  rw [hl2] at HL3 HJ2
  have HEQ := hid fun A' j1 c1 B' k1 d1 W (s1 : Sl W A' j1 c1 (l2.map (Value.int .i64))) s2 => equalYes' A' B' j1 c1 k1 d1 l2 W s1 s2
  rw [hcast] at HS3 HE3 HL3
  have hl64 := hpr.fam.len64
  have HCL := hid fun A' j c' W (s1 : Sl W A' j c' (l.map (Value.int .i64))) => cloneInts A' j c' l (by have := s1.numlen; omega) W s1
  have q1 : decide (6 < (n : Int) + m) = false := decide_eq_false (by omega)
  have q2 : (n : Int) + m ≤ 6 := by omega
  have q0 : (n : Int) ≠ 0 := by omega
  have hk1 := hs.numlen
  have hk2 := ht.numlen
  have b1 : m1 ≤ 64 := by have := h1.len64; omega
  have b2 : m2 ≤ 64 := by have := h2.len64; omega
  have hm := mul64 b1 b2
  have HLQ := hid fun (j : Nat) (hj : l.length = j) => (show j = m1 * m2 from by
    have := hpr.len
    rw [hk1, hk2, hj, ← Int.natCast_mul] at this
    omega)
  have hv1 := sumL_bd zs1
  have hv2 := sumL_bd zs2
  obtain ⟨vc, hvc⟩ : ∃ vc, sumL zs1 * sumL zs2 = vc := ⟨_, rfl⟩
  have hms : wrap64 (sumL zs1 * sumL zs2) = vc := by rw [mulI64 (by omega) (by omega), hvc]
  rw [hvc] at HS3
  clear hvc
  generalize sumL zs1 = va at *
  generalize sumL zs2 = vb at *
  generalize hmm : m1 * m2 = mm at *
  clear hC1 hC2 hs ht hT h1 h2 h3 hpr hle hcast hl64 hk1 hk2 b1 b2 hv1 hv2 hfl hlk hl2 hmm
  have HB0 := hid (Below.refl w.heap.size w)
  go_enter Tryd.func9, Tryd.ntmps9
  go_wp2_with fail
  refine (HC1.out.run _ HB0.out).mono ?_; rintro e w1 ⟨A1, c1, rfl, ho, hb⟩
  have HB1 := hid (below_call HB0.out hb HB0.out.size)
  have S1_1 := hid (Sl.of_own ho)
  clear hb ho
  go_wp2_with fail
  refine (HC2.out.run _ HB1.out).mono ?_; rintro e w2 ⟨A2, c2, rfl, ho, hb⟩
  have HB2 := hid (below_call HB1.out hb HB1.out.size)
  have S1_2 := hid (S1_1.out.below hb)
  have S2_2 := hid (Sl.of_own ho)
  clear hb ho
  go_wp2_with fail
  refine (HJ.out _ _ _ _ _ HB2.out S1_2.out S2_2.out).mono ?_; rintro e w3 ⟨A3, c3, l3, rfl, ho, hb⟩
  have HB3 := hid (below_call HB2.out hb HB2.out.size)
  have S1_3 := hid (S1_2.out.below hb)
  have S2_3 := hid (S2_2.out.below hb)
  have SJ_3 := hid (Sl.of_own ho)
  clear hb ho
  clear S1_1 S1_2 S1_3
  clear S2_2 S2_3
  obtain rfl := HLQ.out _ SJ_3.out.numlen
  go_wp2_with fail
  refine (HF1.out _ HB3.out).mono ?_; rintro e w4 ⟨rfl, hb⟩
  have HB4 := hid (below_call HB3.out hb HB3.out.size)
  have SJ_4 := hid (SJ_3.out.below hb)
  clear hb
  go_wp2_with fail
  refine (HF2.out _ HB4.out).mono ?_; rintro e w5 ⟨rfl, hb⟩
  have HB5 := hid (below_call HB4.out hb HB4.out.size)
  have SJ_5 := hid (SJ_4.out.below hb)
  clear hb
  go_wp2_with fail
  refine (HC1.out.run _ HB5.out).mono ?_; rintro e w6 ⟨A6, c6, rfl, ho, hb⟩
  have HB6 := hid (below_call HB5.out hb HB5.out.size)
  have SJ_6 := hid (SJ_5.out.below hb)
  have T1_6 := hid (Sl.of_own ho)
  clear hb ho
  go_wp2_with fail
  refine (HS1.out _ _ _ HB6.out T1_6.out).mono ?_; rintro e w7 ⟨rfl, hb⟩
  have HB7 := hid (below_call HB6.out hb HB6.out.size)
  have SJ_7 := hid (SJ_6.out.below hb)
  have T1_7 := hid (T1_6.out.below hb)
  clear hb
  clear T1_6 T1_7
  go_wp2_with fail
  refine (HC2.out.run _ HB7.out).mono ?_; rintro e w8 ⟨A8, c8, rfl, ho, hb⟩
  have HB8 := hid (below_call HB7.out hb HB7.out.size)
  have SJ_8 := hid (SJ_7.out.below hb)
  have T2_8 := hid (Sl.of_own ho)
  clear hb ho
  go_wp2_with fail
  refine (HS2.out _ _ _ HB8.out T2_8.out).mono ?_; rintro e w9 ⟨rfl, hb⟩
  have HB9 := hid (below_call HB8.out hb HB8.out.size)
  have SJ_9 := hid (SJ_8.out.below hb)
  have T2_9 := hid (T2_8.out.below hb)
  clear hb
  clear T2_8 T2_9
  go_wp2_with fail
  refine (HCL.out _ _ _ _ SJ_9.out).mono ?_; rintro e w10 ⟨A10, c10, rfl, ho, hb⟩
  have HB10 := hid (below_call HB9.out hb HB9.out.size)
  have SJ_10 := hid (SJ_9.out.below hb)
  have T3_10 := hid (Sl.of_own ho)
  clear hb ho
  go_wp2_with fail
  refine (HS3.out _ _ _ _ HB10.out T3_10.out).mono ?_; rintro e w11 ⟨rfl, hb⟩
  have HB11 := hid (below_call HB10.out hb HB10.out.size)
  have SJ_11 := hid (SJ_10.out.below hb)
  have T3_11 := hid (T3_10.out.below hb)
  clear hb
  clear T3_10 T3_11
  go_wp2_with fail
  refine (HC1.out.run _ HB11.out).mono ?_; rintro e w12 ⟨A12, c12, rfl, ho, hb⟩
  have HB12 := hid (below_call HB11.out hb HB11.out.size)
  have SJ_12 := hid (SJ_11.out.below hb)
  have T4_12 := hid (Sl.of_own ho)
  clear hb ho
  go_wp2_with fail
  refine (HE1.out _ _ _ HB12.out T4_12.out).mono ?_; rintro e w13 ⟨rfl, hb⟩
  have HB13 := hid (below_call HB12.out hb HB12.out.size)
  have SJ_13 := hid (SJ_12.out.below hb)
  have T4_13 := hid (T4_12.out.below hb)
  clear hb
  clear T4_12 T4_13
  go_wp2_with fail
  refine (HC2.out.run _ HB13.out).mono ?_; rintro e w14 ⟨A14, c14, rfl, ho, hb⟩
  have HB14 := hid (below_call HB13.out hb HB13.out.size)
  have SJ_14 := hid (SJ_13.out.below hb)
  have T5_14 := hid (Sl.of_own ho)
  clear hb ho
  go_wp2_with fail
  refine (HE2.out _ _ _ HB14.out T5_14.out).mono ?_; rintro e w15 ⟨rfl, hb⟩
  have HB15 := hid (below_call HB14.out hb HB14.out.size)
  have SJ_15 := hid (SJ_14.out.below hb)
  have T5_15 := hid (T5_14.out.below hb)
  clear hb
  clear T5_14 T5_15
  go_wp2_with fail
  refine (HCL.out _ _ _ _ SJ_15.out).mono ?_; rintro e w16 ⟨A16, c16, rfl, ho, hb⟩
  have HB16 := hid (below_call HB15.out hb HB15.out.size)
  have SJ_16 := hid (SJ_15.out.below hb)
  have T6_16 := hid (Sl.of_own ho)
  clear hb ho
  go_wp2_with fail
  refine (HE3.out _ _ _ _ HB16.out T6_16.out).mono ?_; rintro e w17 ⟨rfl, hb⟩
  have HB17 := hid (below_call HB16.out hb HB16.out.size)
  have SJ_17 := hid (SJ_16.out.below hb)
  have T6_17 := hid (T6_16.out.below hb)
  clear hb
  clear T6_16 T6_17
  go_wp2_with fail
  refine (HL3.out _ _ _ _ HB17.out SJ_17.out).mono ?_; rintro e w18 ⟨A18, c18, l18, rfl, ho, hb⟩
  have HB18 := hid (below_call HB17.out hb HB17.out.size)
  have SJ_18 := hid (SJ_17.out.below hb)
  have SA_18 := hid (Sl.of_own ho)
  clear hb ho
  go_wp2_with fail
  refine (HC1.out.run _ HB18.out).mono ?_; rintro e w19 ⟨A19, c19, rfl, ho, hb⟩
  have HB19 := hid (below_call HB18.out hb HB18.out.size)
  have SJ_19 := hid (SJ_18.out.below hb)
  have SA_19 := hid (SA_18.out.below hb)
  have T7_19 := hid (Sl.of_own ho)
  clear hb ho
  go_wp2_with fail
  refine (HL1.out _ _ _ HB19.out T7_19.out).mono ?_; rintro e w20 ⟨A20, c20, l20, rfl, ho, hb⟩
  have HB20 := hid (below_call HB19.out hb HB19.out.size)
  have SJ_20 := hid (SJ_19.out.below hb)
  have SA_20 := hid (SA_19.out.below hb)
  have T7_20 := hid (T7_19.out.below hb)
  have SK_20 := hid (Sl.of_own ho)
  clear hb ho
  clear T7_19 T7_20
  go_wp2_with fail
  refine (HC2.out.run _ HB20.out).mono ?_; rintro e w21 ⟨A21, c21, rfl, ho, hb⟩
  have HB21 := hid (below_call HB20.out hb HB20.out.size)
  have SJ_21 := hid (SJ_20.out.below hb)
  have SA_21 := hid (SA_20.out.below hb)
  have SK_21 := hid (SK_20.out.below hb)
  have T8_21 := hid (Sl.of_own ho)
  clear hb ho
  go_wp2_with fail
  refine (HJ2.out _ _ _ _ _ _ HB21.out SK_21.out T8_21.out).mono ?_; rintro e w22 ⟨A22, c22, l22, rfl, ho, hb⟩
  have HB22 := hid (below_call HB21.out hb HB21.out.size)
  have SJ_22 := hid (SJ_21.out.below hb)
  have SA_22 := hid (SA_21.out.below hb)
  have SK_22 := hid (SK_21.out.below hb)
  have T8_22 := hid (T8_21.out.below hb)
  have SB_22 := hid (Sl.of_own ho)
  clear hb ho
  clear T8_21 T8_22
  clear SK_20 SK_21 SK_22
  go_wp2_with fail
  refine (HEQ.out _ _ _ _ _ _ _ SA_22.out SB_22.out).mono ?_; rintro e w23 ⟨rfl, hb⟩
  have HB23 := hid (below_call HB22.out hb HB22.out.size)
  have SJ_23 := hid (SJ_22.out.below hb)
  have SA_23 := hid (SA_22.out.below hb)
  have SB_23 := hid (SB_22.out.below hb)
  clear hb
  go_wp2_with fail
  refine (HAW.out _ HB23.out).mono ?_; rintro e w24 ⟨rfl, hb⟩
  have HB24 := hid (below_call HB23.out hb HB23.out.size)
  have SJ_24 := hid (SJ_23.out.below hb)
  have SA_24 := hid (SA_23.out.below hb)
  have SB_24 := hid (SB_23.out.below hb)
  clear hb
  go_wp2
  go_ret
  exact ⟨rfl, HB24.out⟩


set_option maxRecDepth 100000 in
set_option maxHeartbeats 4000000 in
theorem evadeProducts_b (w : World) (hT : Tab w) (n m : Nat) (A : Option Addr) (k c : Nat) (xs : List Int) (hs : Sl w A k c (xs.map (Value.int .i64))) (A2 : Option Addr) (k2 c2 : Nat) (ys : List Int) (ht : Sl w A2 k2 c2 (ys.map (Value.int .i64))) (x : Int) (h1 : Fam n xs) (h2 : Fam m ys) (h3 : n + m ≤ 6) (hu : earlyB n xs = false) (hv : earlyB m ys = true) (hw : earlyB (n + m) (famL (2 ^ (n + m)) (joinP n (setF xs) (setF ys))) = true) :
    Calls Tryd.prog 9 #[.int .i64 n, .int .i64 m, .slice A k c, .slice A2 k2 c2, .int .i64 x] w fun e w' => e = .returned (.bool true) ∧ Below w.heap.size w w' := by
  obtain ⟨m1, zs1, hC1⟩ := cp_of hs
  obtain ⟨m2, zs2, hC2⟩ := cp_of ht
  have HC1 := hid hC1; have HC2 := hid hC2
  have HAW := hid fun W (hb : Below w.heap.size w W) => awakeF W (hT.below hb)
  obtain ⟨rfl, rfl⟩ := hC1.same ⟨_, h1⟩
  obtain ⟨rfl, rfl⟩ := hC2.same ⟨_, h2⟩
  have hpr := pr_of h1 h2 h3
  have HJ := hid fun A' c' A'' c'' W (hb : Below w.heap.size w W) (s1 : Sl W A' m1 c' (zs1.map (Value.int .i64))) (s2 : Sl W A'' m2 c'' (zs2.map (Value.int .i64))) => joinYes n m A' A'' m1 c' m2 c'' zs1 zs2 W s1 s2 (hT.below hb) h1 h2 h3
  obtain ⟨l, hle⟩ : ∃ l, famL (2 ^ (n + m)) (joinP n (setF zs1) (setF zs2)) = l := ⟨_, rfl⟩
  rw [hle] at HJ hpr hw
  have hcast : ((n + m : Nat) : Int) = (n : Int) + m := by omega
  have HF1 := hid fun W (hb : Below w.heap.size w W) => familyYes n A m1 c zs1 W (hs.below hb) h1
  have HF2 := hid fun W (hb : Below w.heap.size w W) => familyYes m A2 m2 c2 zs2 W (ht.below hb) h2
  have HS1 := hid fun A' c' W (hb : Below w.heap.size w W) (s1 : Sl W A' m1 c' (zs1.map (Value.int .i64))) => sumYes n A' m1 c' zs1 W s1 (hT.below hb) h1
  have HS2 := hid fun A' c' W (hb : Below w.heap.size w W) (s1 : Sl W A' m2 c' (zs2.map (Value.int .i64))) => sumYes m A' m2 c' zs2 W s1 (hT.below hb) h2
  have HS3 := hid fun A' j c' W (hb : Below w.heap.size w W) (s1 : Sl W A' j c' (l.map (Value.int .i64))) => sumYes (n + m) A' j c' l W s1 (hT.below hb) hpr.fam
  have HE1 := hid fun A' c' W (hb : Below w.heap.size w W) (s1 : Sl W A' m1 c' (zs1.map (Value.int .i64))) => earlyYes n A' m1 c' zs1 W s1 (hT.below hb) h1
  have HE2 := hid fun A' c' W (hb : Below w.heap.size w W) (s1 : Sl W A' m2 c' (zs2.map (Value.int .i64))) => earlyYes m A' m2 c' zs2 W s1 (hT.below hb) h2
  have HE3 := hid fun A' j c' W (hb : Below w.heap.size w W) (s1 : Sl W A' j c' (l.map (Value.int .i64))) => earlyYes (n + m) A' j c' l W s1 (hT.below hb) hpr.fam
  rw [hu] at HE1
  rw [hv] at HE2
  rw [hw] at HE3
  rw [hpr.sum] at HS3
  have hn1 := h1.n1n
  have hn6 : n ≤ 6 := h1.n6n
  obtain ⟨y, hxy, hyn⟩ := pick_x x hn1 hn6
  have HL3 := hid fun A' j c' W (hb : Below w.heap.size w W) (s1 : Sl W A' j c' (l.map (Value.int .i64))) => linkYes (n + m) y A' j c' l W s1 (hT.below hb) hpr.fam (by omega)
  have HL1 := hid fun A' c' W (hb : Below w.heap.size w W) (s1 : Sl W A' m1 c' (zs1.map (Value.int .i64))) => linkYes n y A' m1 c' zs1 W s1 (hT.below hb) h1 hyn
  have hfl := fam_link h1 y
  rw [hpr.link y hyn] at HL3
  obtain ⟨lk, hlk⟩ : ∃ lk, famL (2 ^ n) (linkP y (setF zs1)) = lk := ⟨_, rfl⟩
  rw [hlk] at HL3 HL1 hfl
  have HJ2 := hid fun A' j c' A'' c'' W (hb : Below w.heap.size w W) (s1 : Sl W A' j c' (lk.map (Value.int .i64))) (s2 : Sl W A'' m2 c'' (zs2.map (Value.int .i64))) => joinYes n m A' A'' j c' m2 c'' lk zs2 W s1 s2 (hT.below hb) hfl h2 h3
  obtain ⟨l2, hl2⟩ : ∃ l2, famL (2 ^ (n + m)) (joinP n (setF lk) (setF zs2)) = l2 := ⟨_, rfl⟩
  rw [hl2] at HL3 HJ2
  have HEQ := hid fun A' j1 c1 B' k1 d1 W (s1 : Sl W A' j1 c1 (l2.map (Value.int .i64))) s2 => equalYes' A' B' j1 c1 k1 d1 l2 W s1 s2
  rw [hcast] at HS3 HE3 HL3
  have hl64 := hpr.fam.len64
  have HCL := hid fun A' j c' W (s1 : Sl W A' j c' (l.map (Value.int .i64))) => cloneInts A' j c' l (by have := s1.numlen; omega) W s1
  have q1 : decide (6 < (n : Int) + m) = false := decide_eq_false (by omega)
  have q2 : (n : Int) + m ≤ 6 := by omega
  have q0 : (n : Int) ≠ 0 := by omega
  have hk1 := hs.numlen
  have hk2 := ht.numlen
  have b1 : m1 ≤ 64 := by have := h1.len64; omega
  have b2 : m2 ≤ 64 := by have := h2.len64; omega
  have hm := mul64 b1 b2
  have HLQ := hid fun (j : Nat) (hj : l.length = j) => (show j = m1 * m2 from by
    have := hpr.len
    rw [hk1, hk2, hj, ← Int.natCast_mul] at this
    omega)
  have hv1 := sumL_bd zs1
  have hv2 := sumL_bd zs2
  obtain ⟨vc, hvc⟩ : ∃ vc, sumL zs1 * sumL zs2 = vc := ⟨_, rfl⟩
  have hms : wrap64 (sumL zs1 * sumL zs2) = vc := by rw [mulI64 (by omega) (by omega), hvc]
  rw [hvc] at HS3
  clear hvc
  generalize sumL zs1 = va at *
  generalize sumL zs2 = vb at *
  generalize hmm : m1 * m2 = mm at *
  clear hC1 hC2 hs ht hT h1 h2 h3 hpr hle hcast hl64 hk1 hk2 b1 b2 hv1 hv2 hfl hlk hl2 hmm
  have HB0 := hid (Below.refl w.heap.size w)
  go_enter Tryd.func9, Tryd.ntmps9
  go_wp2_with fail
  refine (HC1.out.run _ HB0.out).mono ?_; rintro e w1 ⟨A1, c1, rfl, ho, hb⟩
  have HB1 := hid (below_call HB0.out hb HB0.out.size)
  have S1_1 := hid (Sl.of_own ho)
  clear hb ho
  go_wp2_with fail
  refine (HC2.out.run _ HB1.out).mono ?_; rintro e w2 ⟨A2, c2, rfl, ho, hb⟩
  have HB2 := hid (below_call HB1.out hb HB1.out.size)
  have S1_2 := hid (S1_1.out.below hb)
  have S2_2 := hid (Sl.of_own ho)
  clear hb ho
  go_wp2_with fail
  refine (HJ.out _ _ _ _ _ HB2.out S1_2.out S2_2.out).mono ?_; rintro e w3 ⟨A3, c3, l3, rfl, ho, hb⟩
  have HB3 := hid (below_call HB2.out hb HB2.out.size)
  have S1_3 := hid (S1_2.out.below hb)
  have S2_3 := hid (S2_2.out.below hb)
  have SJ_3 := hid (Sl.of_own ho)
  clear hb ho
  clear S1_1 S1_2 S1_3
  clear S2_2 S2_3
  obtain rfl := HLQ.out _ SJ_3.out.numlen
  go_wp2_with fail
  refine (HF1.out _ HB3.out).mono ?_; rintro e w4 ⟨rfl, hb⟩
  have HB4 := hid (below_call HB3.out hb HB3.out.size)
  have SJ_4 := hid (SJ_3.out.below hb)
  clear hb
  go_wp2_with fail
  refine (HF2.out _ HB4.out).mono ?_; rintro e w5 ⟨rfl, hb⟩
  have HB5 := hid (below_call HB4.out hb HB4.out.size)
  have SJ_5 := hid (SJ_4.out.below hb)
  clear hb
  go_wp2_with fail
  refine (HC1.out.run _ HB5.out).mono ?_; rintro e w6 ⟨A6, c6, rfl, ho, hb⟩
  have HB6 := hid (below_call HB5.out hb HB5.out.size)
  have SJ_6 := hid (SJ_5.out.below hb)
  have T1_6 := hid (Sl.of_own ho)
  clear hb ho
  go_wp2_with fail
  refine (HS1.out _ _ _ HB6.out T1_6.out).mono ?_; rintro e w7 ⟨rfl, hb⟩
  have HB7 := hid (below_call HB6.out hb HB6.out.size)
  have SJ_7 := hid (SJ_6.out.below hb)
  have T1_7 := hid (T1_6.out.below hb)
  clear hb
  clear T1_6 T1_7
  go_wp2_with fail
  refine (HC2.out.run _ HB7.out).mono ?_; rintro e w8 ⟨A8, c8, rfl, ho, hb⟩
  have HB8 := hid (below_call HB7.out hb HB7.out.size)
  have SJ_8 := hid (SJ_7.out.below hb)
  have T2_8 := hid (Sl.of_own ho)
  clear hb ho
  go_wp2_with fail
  refine (HS2.out _ _ _ HB8.out T2_8.out).mono ?_; rintro e w9 ⟨rfl, hb⟩
  have HB9 := hid (below_call HB8.out hb HB8.out.size)
  have SJ_9 := hid (SJ_8.out.below hb)
  have T2_9 := hid (T2_8.out.below hb)
  clear hb
  clear T2_8 T2_9
  go_wp2_with fail
  refine (HCL.out _ _ _ _ SJ_9.out).mono ?_; rintro e w10 ⟨A10, c10, rfl, ho, hb⟩
  have HB10 := hid (below_call HB9.out hb HB9.out.size)
  have SJ_10 := hid (SJ_9.out.below hb)
  have T3_10 := hid (Sl.of_own ho)
  clear hb ho
  go_wp2_with fail
  refine (HS3.out _ _ _ _ HB10.out T3_10.out).mono ?_; rintro e w11 ⟨rfl, hb⟩
  have HB11 := hid (below_call HB10.out hb HB10.out.size)
  have SJ_11 := hid (SJ_10.out.below hb)
  have T3_11 := hid (T3_10.out.below hb)
  clear hb
  clear T3_10 T3_11
  go_wp2_with fail
  refine (HC1.out.run _ HB11.out).mono ?_; rintro e w12 ⟨A12, c12, rfl, ho, hb⟩
  have HB12 := hid (below_call HB11.out hb HB11.out.size)
  have SJ_12 := hid (SJ_11.out.below hb)
  have T4_12 := hid (Sl.of_own ho)
  clear hb ho
  go_wp2_with fail
  refine (HE1.out _ _ _ HB12.out T4_12.out).mono ?_; rintro e w13 ⟨rfl, hb⟩
  have HB13 := hid (below_call HB12.out hb HB12.out.size)
  have SJ_13 := hid (SJ_12.out.below hb)
  have T4_13 := hid (T4_12.out.below hb)
  clear hb
  clear T4_12 T4_13
  go_wp2_with fail
  refine (HC2.out.run _ HB13.out).mono ?_; rintro e w14 ⟨A14, c14, rfl, ho, hb⟩
  have HB14 := hid (below_call HB13.out hb HB13.out.size)
  have SJ_14 := hid (SJ_13.out.below hb)
  have T5_14 := hid (Sl.of_own ho)
  clear hb ho
  go_wp2_with fail
  refine (HE2.out _ _ _ HB14.out T5_14.out).mono ?_; rintro e w15 ⟨rfl, hb⟩
  have HB15 := hid (below_call HB14.out hb HB14.out.size)
  have SJ_15 := hid (SJ_14.out.below hb)
  have T5_15 := hid (T5_14.out.below hb)
  clear hb
  clear T5_14 T5_15
  go_wp2_with fail
  refine (HCL.out _ _ _ _ SJ_15.out).mono ?_; rintro e w16 ⟨A16, c16, rfl, ho, hb⟩
  have HB16 := hid (below_call HB15.out hb HB15.out.size)
  have SJ_16 := hid (SJ_15.out.below hb)
  have T6_16 := hid (Sl.of_own ho)
  clear hb ho
  go_wp2_with fail
  refine (HE3.out _ _ _ _ HB16.out T6_16.out).mono ?_; rintro e w17 ⟨rfl, hb⟩
  have HB17 := hid (below_call HB16.out hb HB16.out.size)
  have SJ_17 := hid (SJ_16.out.below hb)
  have T6_17 := hid (T6_16.out.below hb)
  clear hb
  clear T6_16 T6_17
  go_wp2_with fail
  refine (HL3.out _ _ _ _ HB17.out SJ_17.out).mono ?_; rintro e w18 ⟨A18, c18, l18, rfl, ho, hb⟩
  have HB18 := hid (below_call HB17.out hb HB17.out.size)
  have SJ_18 := hid (SJ_17.out.below hb)
  have SA_18 := hid (Sl.of_own ho)
  clear hb ho
  go_wp2_with fail
  refine (HC1.out.run _ HB18.out).mono ?_; rintro e w19 ⟨A19, c19, rfl, ho, hb⟩
  have HB19 := hid (below_call HB18.out hb HB18.out.size)
  have SJ_19 := hid (SJ_18.out.below hb)
  have SA_19 := hid (SA_18.out.below hb)
  have T7_19 := hid (Sl.of_own ho)
  clear hb ho
  go_wp2_with fail
  refine (HL1.out _ _ _ HB19.out T7_19.out).mono ?_; rintro e w20 ⟨A20, c20, l20, rfl, ho, hb⟩
  have HB20 := hid (below_call HB19.out hb HB19.out.size)
  have SJ_20 := hid (SJ_19.out.below hb)
  have SA_20 := hid (SA_19.out.below hb)
  have T7_20 := hid (T7_19.out.below hb)
  have SK_20 := hid (Sl.of_own ho)
  clear hb ho
  clear T7_19 T7_20
  go_wp2_with fail
  refine (HC2.out.run _ HB20.out).mono ?_; rintro e w21 ⟨A21, c21, rfl, ho, hb⟩
  have HB21 := hid (below_call HB20.out hb HB20.out.size)
  have SJ_21 := hid (SJ_20.out.below hb)
  have SA_21 := hid (SA_20.out.below hb)
  have SK_21 := hid (SK_20.out.below hb)
  have T8_21 := hid (Sl.of_own ho)
  clear hb ho
  go_wp2_with fail
  refine (HJ2.out _ _ _ _ _ _ HB21.out SK_21.out T8_21.out).mono ?_; rintro e w22 ⟨A22, c22, l22, rfl, ho, hb⟩
  have HB22 := hid (below_call HB21.out hb HB21.out.size)
  have SJ_22 := hid (SJ_21.out.below hb)
  have SA_22 := hid (SA_21.out.below hb)
  have SK_22 := hid (SK_21.out.below hb)
  have T8_22 := hid (T8_21.out.below hb)
  have SB_22 := hid (Sl.of_own ho)
  clear hb ho
  clear T8_21 T8_22
  clear SK_20 SK_21 SK_22
  go_wp2_with fail
  refine (HEQ.out _ _ _ _ _ _ _ SA_22.out SB_22.out).mono ?_; rintro e w23 ⟨rfl, hb⟩
  have HB23 := hid (below_call HB22.out hb HB22.out.size)
  have SJ_23 := hid (SJ_22.out.below hb)
  have SA_23 := hid (SA_22.out.below hb)
  have SB_23 := hid (SB_22.out.below hb)
  clear hb
  go_wp2_with fail
  refine (HAW.out _ HB23.out).mono ?_; rintro e w24 ⟨rfl, hb⟩
  have HB24 := hid (below_call HB23.out hb HB23.out.size)
  have SJ_24 := hid (SJ_23.out.below hb)
  have SA_24 := hid (SA_23.out.below hb)
  have SB_24 := hid (SB_23.out.below hb)
  clear hb
  go_wp2
  go_ret
  exact ⟨rfl, HB24.out⟩


set_option maxRecDepth 100000 in
set_option maxHeartbeats 4000000 in
theorem evadeProducts_c (w : World) (hT : Tab w) (n m : Nat) (A : Option Addr) (k c : Nat) (xs : List Int) (hs : Sl w A k c (xs.map (Value.int .i64))) (A2 : Option Addr) (k2 c2 : Nat) (ys : List Int) (ht : Sl w A2 k2 c2 (ys.map (Value.int .i64))) (x : Int) (h1 : Fam n xs) (h2 : Fam m ys) (h3 : n + m ≤ 6) (r : Bool) (hu : earlyB n xs = false) (hv : earlyB m ys = false) (hw : earlyB (n + m) (famL (2 ^ (n + m)) (joinP n (setF xs) (setF ys))) = r) :
    Calls Tryd.prog 9 #[.int .i64 n, .int .i64 m, .slice A k c, .slice A2 k2 c2, .int .i64 x] w fun e w' => e = .returned (.bool true) ∧ Below w.heap.size w w' := by
  obtain ⟨m1, zs1, hC1⟩ := cp_of hs
  obtain ⟨m2, zs2, hC2⟩ := cp_of ht
  have HC1 := hid hC1; have HC2 := hid hC2
  have HAW := hid fun W (hb : Below w.heap.size w W) => awakeF W (hT.below hb)
  obtain ⟨rfl, rfl⟩ := hC1.same ⟨_, h1⟩
  obtain ⟨rfl, rfl⟩ := hC2.same ⟨_, h2⟩
  have hpr := pr_of h1 h2 h3
  have HJ := hid fun A' c' A'' c'' W (hb : Below w.heap.size w W) (s1 : Sl W A' m1 c' (zs1.map (Value.int .i64))) (s2 : Sl W A'' m2 c'' (zs2.map (Value.int .i64))) => joinYes n m A' A'' m1 c' m2 c'' zs1 zs2 W s1 s2 (hT.below hb) h1 h2 h3
  obtain ⟨l, hle⟩ : ∃ l, famL (2 ^ (n + m)) (joinP n (setF zs1) (setF zs2)) = l := ⟨_, rfl⟩
  rw [hle] at HJ hpr hw
  have hcast : ((n + m : Nat) : Int) = (n : Int) + m := by omega
  have HF1 := hid fun W (hb : Below w.heap.size w W) => familyYes n A m1 c zs1 W (hs.below hb) h1
  have HF2 := hid fun W (hb : Below w.heap.size w W) => familyYes m A2 m2 c2 zs2 W (ht.below hb) h2
  have HS1 := hid fun A' c' W (hb : Below w.heap.size w W) (s1 : Sl W A' m1 c' (zs1.map (Value.int .i64))) => sumYes n A' m1 c' zs1 W s1 (hT.below hb) h1
  have HS2 := hid fun A' c' W (hb : Below w.heap.size w W) (s1 : Sl W A' m2 c' (zs2.map (Value.int .i64))) => sumYes m A' m2 c' zs2 W s1 (hT.below hb) h2
  have HS3 := hid fun A' j c' W (hb : Below w.heap.size w W) (s1 : Sl W A' j c' (l.map (Value.int .i64))) => sumYes (n + m) A' j c' l W s1 (hT.below hb) hpr.fam
  have HE1 := hid fun A' c' W (hb : Below w.heap.size w W) (s1 : Sl W A' m1 c' (zs1.map (Value.int .i64))) => earlyYes n A' m1 c' zs1 W s1 (hT.below hb) h1
  have HE2 := hid fun A' c' W (hb : Below w.heap.size w W) (s1 : Sl W A' m2 c' (zs2.map (Value.int .i64))) => earlyYes m A' m2 c' zs2 W s1 (hT.below hb) h2
  have HE3 := hid fun A' j c' W (hb : Below w.heap.size w W) (s1 : Sl W A' j c' (l.map (Value.int .i64))) => earlyYes (n + m) A' j c' l W s1 (hT.below hb) hpr.fam
  rw [hu] at HE1
  rw [hv] at HE2
  rw [hw] at HE3
  rw [hpr.sum] at HS3
  have hn1 := h1.n1n
  have hn6 : n ≤ 6 := h1.n6n
  obtain ⟨y, hxy, hyn⟩ := pick_x x hn1 hn6
  have HL3 := hid fun A' j c' W (hb : Below w.heap.size w W) (s1 : Sl W A' j c' (l.map (Value.int .i64))) => linkYes (n + m) y A' j c' l W s1 (hT.below hb) hpr.fam (by omega)
  have HL1 := hid fun A' c' W (hb : Below w.heap.size w W) (s1 : Sl W A' m1 c' (zs1.map (Value.int .i64))) => linkYes n y A' m1 c' zs1 W s1 (hT.below hb) h1 hyn
  have hfl := fam_link h1 y
  rw [hpr.link y hyn] at HL3
  obtain ⟨lk, hlk⟩ : ∃ lk, famL (2 ^ n) (linkP y (setF zs1)) = lk := ⟨_, rfl⟩
  rw [hlk] at HL3 HL1 hfl
  have HJ2 := hid fun A' j c' A'' c'' W (hb : Below w.heap.size w W) (s1 : Sl W A' j c' (lk.map (Value.int .i64))) (s2 : Sl W A'' m2 c'' (zs2.map (Value.int .i64))) => joinYes n m A' A'' j c' m2 c'' lk zs2 W s1 s2 (hT.below hb) hfl h2 h3
  obtain ⟨l2, hl2⟩ : ∃ l2, famL (2 ^ (n + m)) (joinP n (setF lk) (setF zs2)) = l2 := ⟨_, rfl⟩
  rw [hl2] at HL3 HJ2
  have HEQ := hid fun A' j1 c1 B' k1 d1 W (s1 : Sl W A' j1 c1 (l2.map (Value.int .i64))) s2 => equalYes' A' B' j1 c1 k1 d1 l2 W s1 s2
  rw [hcast] at HS3 HE3 HL3
  have hl64 := hpr.fam.len64
  have HCL := hid fun A' j c' W (s1 : Sl W A' j c' (l.map (Value.int .i64))) => cloneInts A' j c' l (by have := s1.numlen; omega) W s1
  have q1 : decide (6 < (n : Int) + m) = false := decide_eq_false (by omega)
  have q2 : (n : Int) + m ≤ 6 := by omega
  have q0 : (n : Int) ≠ 0 := by omega
  have hk1 := hs.numlen
  have hk2 := ht.numlen
  have b1 : m1 ≤ 64 := by have := h1.len64; omega
  have b2 : m2 ≤ 64 := by have := h2.len64; omega
  have hm := mul64 b1 b2
  have HLQ := hid fun (j : Nat) (hj : l.length = j) => (show j = m1 * m2 from by
    have := hpr.len
    rw [hk1, hk2, hj, ← Int.natCast_mul] at this
    omega)
  have hv1 := sumL_bd zs1
  have hv2 := sumL_bd zs2
  obtain ⟨vc, hvc⟩ : ∃ vc, sumL zs1 * sumL zs2 = vc := ⟨_, rfl⟩
  have hms : wrap64 (sumL zs1 * sumL zs2) = vc := by rw [mulI64 (by omega) (by omega), hvc]
  rw [hvc] at HS3
  clear hvc
  generalize sumL zs1 = va at *
  generalize sumL zs2 = vb at *
  generalize hmm : m1 * m2 = mm at *
  clear hC1 hC2 hs ht hT h1 h2 h3 hpr hle hcast hl64 hk1 hk2 b1 b2 hv1 hv2 hfl hlk hl2 hmm
  have HB0 := hid (Below.refl w.heap.size w)
  go_enter Tryd.func9, Tryd.ntmps9
  go_wp2_with fail
  refine (HC1.out.run _ HB0.out).mono ?_; rintro e w1 ⟨A1, c1, rfl, ho, hb⟩
  have HB1 := hid (below_call HB0.out hb HB0.out.size)
  have S1_1 := hid (Sl.of_own ho)
  clear hb ho
  go_wp2_with fail
  refine (HC2.out.run _ HB1.out).mono ?_; rintro e w2 ⟨A2, c2, rfl, ho, hb⟩
  have HB2 := hid (below_call HB1.out hb HB1.out.size)
  have S1_2 := hid (S1_1.out.below hb)
  have S2_2 := hid (Sl.of_own ho)
  clear hb ho
  go_wp2_with fail
  refine (HJ.out _ _ _ _ _ HB2.out S1_2.out S2_2.out).mono ?_; rintro e w3 ⟨A3, c3, l3, rfl, ho, hb⟩
  have HB3 := hid (below_call HB2.out hb HB2.out.size)
  have S1_3 := hid (S1_2.out.below hb)
  have S2_3 := hid (S2_2.out.below hb)
  have SJ_3 := hid (Sl.of_own ho)
  clear hb ho
  clear S1_1 S1_2 S1_3
  clear S2_2 S2_3
  obtain rfl := HLQ.out _ SJ_3.out.numlen
  go_wp2_with fail
  refine (HF1.out _ HB3.out).mono ?_; rintro e w4 ⟨rfl, hb⟩
  have HB4 := hid (below_call HB3.out hb HB3.out.size)
  have SJ_4 := hid (SJ_3.out.below hb)
  clear hb
  go_wp2_with fail
  refine (HF2.out _ HB4.out).mono ?_; rintro e w5 ⟨rfl, hb⟩
  have HB5 := hid (below_call HB4.out hb HB4.out.size)
  have SJ_5 := hid (SJ_4.out.below hb)
  clear hb
  go_wp2_with fail
  refine (HC1.out.run _ HB5.out).mono ?_; rintro e w6 ⟨A6, c6, rfl, ho, hb⟩
  have HB6 := hid (below_call HB5.out hb HB5.out.size)
  have SJ_6 := hid (SJ_5.out.below hb)
  have T1_6 := hid (Sl.of_own ho)
  clear hb ho
  go_wp2_with fail
  refine (HS1.out _ _ _ HB6.out T1_6.out).mono ?_; rintro e w7 ⟨rfl, hb⟩
  have HB7 := hid (below_call HB6.out hb HB6.out.size)
  have SJ_7 := hid (SJ_6.out.below hb)
  have T1_7 := hid (T1_6.out.below hb)
  clear hb
  clear T1_6 T1_7
  go_wp2_with fail
  refine (HC2.out.run _ HB7.out).mono ?_; rintro e w8 ⟨A8, c8, rfl, ho, hb⟩
  have HB8 := hid (below_call HB7.out hb HB7.out.size)
  have SJ_8 := hid (SJ_7.out.below hb)
  have T2_8 := hid (Sl.of_own ho)
  clear hb ho
  go_wp2_with fail
  refine (HS2.out _ _ _ HB8.out T2_8.out).mono ?_; rintro e w9 ⟨rfl, hb⟩
  have HB9 := hid (below_call HB8.out hb HB8.out.size)
  have SJ_9 := hid (SJ_8.out.below hb)
  have T2_9 := hid (T2_8.out.below hb)
  clear hb
  clear T2_8 T2_9
  go_wp2_with fail
  refine (HCL.out _ _ _ _ SJ_9.out).mono ?_; rintro e w10 ⟨A10, c10, rfl, ho, hb⟩
  have HB10 := hid (below_call HB9.out hb HB9.out.size)
  have SJ_10 := hid (SJ_9.out.below hb)
  have T3_10 := hid (Sl.of_own ho)
  clear hb ho
  go_wp2_with fail
  refine (HS3.out _ _ _ _ HB10.out T3_10.out).mono ?_; rintro e w11 ⟨rfl, hb⟩
  have HB11 := hid (below_call HB10.out hb HB10.out.size)
  have SJ_11 := hid (SJ_10.out.below hb)
  have T3_11 := hid (T3_10.out.below hb)
  clear hb
  clear T3_10 T3_11
  go_wp2_with fail
  refine (HC1.out.run _ HB11.out).mono ?_; rintro e w12 ⟨A12, c12, rfl, ho, hb⟩
  have HB12 := hid (below_call HB11.out hb HB11.out.size)
  have SJ_12 := hid (SJ_11.out.below hb)
  have T4_12 := hid (Sl.of_own ho)
  clear hb ho
  go_wp2_with fail
  refine (HE1.out _ _ _ HB12.out T4_12.out).mono ?_; rintro e w13 ⟨rfl, hb⟩
  have HB13 := hid (below_call HB12.out hb HB12.out.size)
  have SJ_13 := hid (SJ_12.out.below hb)
  have T4_13 := hid (T4_12.out.below hb)
  clear hb
  clear T4_12 T4_13
  go_wp2_with fail
  refine (HC2.out.run _ HB13.out).mono ?_; rintro e w14 ⟨A14, c14, rfl, ho, hb⟩
  have HB14 := hid (below_call HB13.out hb HB13.out.size)
  have SJ_14 := hid (SJ_13.out.below hb)
  have T5_14 := hid (Sl.of_own ho)
  clear hb ho
  go_wp2_with fail
  refine (HE2.out _ _ _ HB14.out T5_14.out).mono ?_; rintro e w15 ⟨rfl, hb⟩
  have HB15 := hid (below_call HB14.out hb HB14.out.size)
  have SJ_15 := hid (SJ_14.out.below hb)
  have T5_15 := hid (T5_14.out.below hb)
  clear hb
  clear T5_14 T5_15
  go_wp2_with fail
  refine (HCL.out _ _ _ _ SJ_15.out).mono ?_; rintro e w16 ⟨A16, c16, rfl, ho, hb⟩
  have HB16 := hid (below_call HB15.out hb HB15.out.size)
  have SJ_16 := hid (SJ_15.out.below hb)
  have T6_16 := hid (Sl.of_own ho)
  clear hb ho
  go_wp2_with fail
  refine (HE3.out _ _ _ _ HB16.out T6_16.out).mono ?_; rintro e w17 ⟨rfl, hb⟩
  have HB17 := hid (below_call HB16.out hb HB16.out.size)
  have SJ_17 := hid (SJ_16.out.below hb)
  have T6_17 := hid (T6_16.out.below hb)
  clear hb
  clear T6_16 T6_17
  go_wp2_with fail
  refine (HL3.out _ _ _ _ HB17.out SJ_17.out).mono ?_; rintro e w18 ⟨A18, c18, l18, rfl, ho, hb⟩
  have HB18 := hid (below_call HB17.out hb HB17.out.size)
  have SJ_18 := hid (SJ_17.out.below hb)
  have SA_18 := hid (Sl.of_own ho)
  clear hb ho
  go_wp2_with fail
  refine (HC1.out.run _ HB18.out).mono ?_; rintro e w19 ⟨A19, c19, rfl, ho, hb⟩
  have HB19 := hid (below_call HB18.out hb HB18.out.size)
  have SJ_19 := hid (SJ_18.out.below hb)
  have SA_19 := hid (SA_18.out.below hb)
  have T7_19 := hid (Sl.of_own ho)
  clear hb ho
  go_wp2_with fail
  refine (HL1.out _ _ _ HB19.out T7_19.out).mono ?_; rintro e w20 ⟨A20, c20, l20, rfl, ho, hb⟩
  have HB20 := hid (below_call HB19.out hb HB19.out.size)
  have SJ_20 := hid (SJ_19.out.below hb)
  have SA_20 := hid (SA_19.out.below hb)
  have T7_20 := hid (T7_19.out.below hb)
  have SK_20 := hid (Sl.of_own ho)
  clear hb ho
  clear T7_19 T7_20
  go_wp2_with fail
  refine (HC2.out.run _ HB20.out).mono ?_; rintro e w21 ⟨A21, c21, rfl, ho, hb⟩
  have HB21 := hid (below_call HB20.out hb HB20.out.size)
  have SJ_21 := hid (SJ_20.out.below hb)
  have SA_21 := hid (SA_20.out.below hb)
  have SK_21 := hid (SK_20.out.below hb)
  have T8_21 := hid (Sl.of_own ho)
  clear hb ho
  go_wp2_with fail
  refine (HJ2.out _ _ _ _ _ _ HB21.out SK_21.out T8_21.out).mono ?_; rintro e w22 ⟨A22, c22, l22, rfl, ho, hb⟩
  have HB22 := hid (below_call HB21.out hb HB21.out.size)
  have SJ_22 := hid (SJ_21.out.below hb)
  have SA_22 := hid (SA_21.out.below hb)
  have SK_22 := hid (SK_21.out.below hb)
  have T8_22 := hid (T8_21.out.below hb)
  have SB_22 := hid (Sl.of_own ho)
  clear hb ho
  clear T8_21 T8_22
  clear SK_20 SK_21 SK_22
  go_wp2_with fail
  refine (HEQ.out _ _ _ _ _ _ _ SA_22.out SB_22.out).mono ?_; rintro e w23 ⟨rfl, hb⟩
  have HB23 := hid (below_call HB22.out hb HB22.out.size)
  have SJ_23 := hid (SJ_22.out.below hb)
  have SA_23 := hid (SA_22.out.below hb)
  have SB_23 := hid (SB_22.out.below hb)
  clear hb
  go_wp2_with fail
  refine (HAW.out _ HB23.out).mono ?_; rintro e w24 ⟨rfl, hb⟩
  have HB24 := hid (below_call HB23.out hb HB23.out.size)
  have SJ_24 := hid (SJ_23.out.below hb)
  have SA_24 := hid (SA_23.out.below hb)
  have SB_24 := hid (SB_23.out.below hb)
  clear hb
  go_wp2
  go_ret
  exact ⟨rfl, HB24.out⟩


theorem evadeProducts_walk (w : World) (hT : Tab w) (n : Int) (_ : (Lit.int .i64 n).wf = true) (m : Int) (_ : (Lit.int .i64 m).wf = true) (A : Option Addr) (k c : Nat) (xs : List Int) (hs : Sl w A k c (xs.map (Value.int .i64))) (_ : ∀ x ∈ xs, -9223372036854775808 ≤ x ∧ x ≤ 9223372036854775807) (A2 : Option Addr) (k2 c2 : Nat) (ys : List Int) (ht : Sl w A2 k2 c2 (ys.map (Value.int .i64))) (_ : ∀ x ∈ ys, -9223372036854775808 ≤ x ∧ x ≤ 9223372036854775807) (x : Int) (_ : (Lit.int .i64 x).wf = true) :
    Calls Tryd.prog 9 #[.int .i64 n, .int .i64 m, .slice A k c, .slice A2 k2 c2, .int .i64 x] w fun e w' => e = .returned (.bool true) ∧ Below w.heap.size w w' := by
  by_cases H : Fam n xs ∧ Fam m ys ∧ n + m ≤ 6
  · obtain ⟨h1, h2, h3⟩ := H
    obtain ⟨n, rfl⟩ := Int.eq_ofNat_of_zero_le (show 0 ≤ n by have := h1.n1; omega)
    obtain ⟨m, rfl⟩ := Int.eq_ofNat_of_zero_le (show 0 ≤ m by have := h2.n1; omega)
    have h3 : n + m ≤ 6 := by omega
    have he := (pr_of h1 h2 h3).early
    cases hu : earlyB n xs with
    | true => exact evadeProducts_a w hT n m A k c xs hs A2 k2 c2 ys ht x h1 h2 h3 _ hu rfl (he (.inl hu))
    | false =>
      cases hv : earlyB m ys with
      | true => exact evadeProducts_b w hT n m A k c xs hs A2 k2 c2 ys ht x h1 h2 h3 hu hv (he (.inr hv))
      | false => exact evadeProducts_c w hT n m A k c xs hs A2 k2 c2 ys ht x h1 h2 h3 _ hu hv rfl
  · exact evadeProducts_bad w hT n m A k c xs hs A2 k2 c2 ys ht x H
end Go.Proofs.YtjddbglbodkihaaDoor
