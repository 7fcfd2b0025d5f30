/- Walk of the law EvadeEarly. Condition: the table of the library stands. -/
import Derived.Test.YtjddbglbodkihaaDoorWalkSums
import Derived.Test.YtjddbglbodkihaaDoorRefE
import Derived.Test.YtjddbglbodkihaaDoorPlanP
import Derived.Test.YtjddbglbodkihaaDoorRefLen
namespace Go.Proofs.YtjddbglbodkihaaDoor
open Go.RowKit

theorem ok_take {n L : Nat} {ts : List Nd} (hl : ts.length = L) (h : ¬ okP n ts) : ¬ okP n (ts.take (min L 80)) := by
  by_cases h80 : L ≤ 80
  · rw [Nat.min_eq_left h80, List.take_of_length_le (by omega)]; exact h
  · rintro ⟨h1, _⟩
    rw [List.length_take] at h1
    omega

set_option maxRecDepth 100000 in
set_option maxHeartbeats 4000000 in
theorem evadeEarly_bad (w : World) (hT : Tab w) (n : Int) (A : Option Addr) (k c : Nat) (xs : List Int) (hs : Sl w A k c (xs.map (Value.int .i64))) (T : Option Addr) (L kk : Nat) (ts : List Nd) (h3 : Sl3 w T L kk ts) (h1 : ¬ Fam n xs) :
    Calls Tryd.prog 7 #[.int .i64 n, .slice A k c, .slice T L kk] w fun e w' => e = .returned (.bool true) ∧ Below w.heap.size w w' := by
  obtain ⟨m1, zs1, hC1⟩ := cp_of hs
  have HC1 := hid hC1
  have HAW := hid fun W (hb : Below w.heap.size w W) => awakeF W (hT.below hb)
  have HPL := hid fun W (hb : Below w.heap.size w W) => lawPlan T L kk ts W (h3.below hb)
  have HE := hid fun A' c' W (hb : Below w.heap.size w W) (s1 : Sl W A' m1 c' (zs1.map (Value.int .i64))) => earlyNo n A' m1 c' zs1 W s1 (hT.below hb) (by rw [hC1.fam]; exact h1)
  have HA := hid fun A' c' W (hb : Below w.heap.size w W) (s1 : Sl W A' m1 c' (zs1.map (Value.int .i64))) => askNo n A' m1 c' zs1 W s1 (hT.below hb) (by rw [hC1.fam]; exact h1)
  have HP := hid fun A' c' W (hb : Below w.heap.size w W) (s1 : Sl W A' m1 c' (zs1.map (Value.int .i64))) => planNo n A' m1 c' zs1 W s1 (hT.below hb) (by rw [hC1.fam]; exact h1)
  have HCH := hid fun A' c' (T' : Option Addr) L' k' W (hb : Below w.heap.size w W) (s1 : Sl W A' m1 c' (zs1.map (Value.int .i64))) => checkNo n A' m1 c' zs1 T' L' k' W s1 (hT.below hb) (by rw [hC1.fam]; exact h1)
  have HF := hid fun W (hb : Below w.heap.size w W) => familyNo n A k c xs W (hs.below hb) h1
  generalize min L 80 = L8 at *
  clear hC1 hs hT h1 h3
  have HB0 := hid (Below.refl w.heap.size w)
  go_enter Tryd.func7, Tryd.ntmps7
  go_wp2_with fail
  refine (HC1.out.run _ HB0.out).mono ?_; rintro e w1 ⟨A1, c1, rfl, ho, hb⟩
  have HB1 := hid (below_call HB0.out hb HB0.out.size)
  have S1_1 := hid (Sl.of_own ho)
  clear hb ho
  go_wp2_with fail
  refine (HE.out _ _ _ HB1.out S1_1.out).mono ?_; rintro e w2 ⟨rfl, hb⟩
  have HB2 := hid (below_call HB1.out hb HB1.out.size)
  have S1_2 := hid (S1_1.out.below hb)
  clear hb
  clear S1_1 S1_2
  go_wp2_with fail
  refine (HC1.out.run _ HB2.out).mono ?_; rintro e w3 ⟨A3, c3, rfl, ho, hb⟩
  have HB3 := hid (below_call HB2.out hb HB2.out.size)
  have S2_3 := hid (Sl.of_own ho)
  clear hb ho
  go_wp2_with fail
  refine (HA.out _ _ _ HB3.out S2_3.out).mono ?_; rintro e w4 ⟨rfl, hb⟩
  have HB4 := hid (below_call HB3.out hb HB3.out.size)
  have S2_4 := hid (S2_3.out.below hb)
  clear hb
  clear S2_3 S2_4
  go_wp2_with fail
  refine (HC1.out.run _ HB4.out).mono ?_; rintro e w5 ⟨A5, c5, rfl, ho, hb⟩
  have HB5 := hid (below_call HB4.out hb HB4.out.size)
  have S3_5 := hid (Sl.of_own ho)
  clear hb ho
  go_wp2_with fail
  refine (HP.out _ _ _ HB5.out S3_5.out).mono ?_; rintro e w6 ⟨rfl, hb⟩
  have HB6 := hid (below_call HB5.out hb HB5.out.size)
  have S3_6 := hid (S3_5.out.below hb)
  clear hb
  clear S3_5 S3_6
  go_wp2_with fail
  refine (HC1.out.run _ HB6.out).mono ?_; rintro e w7 ⟨A7, c7, rfl, ho, hb⟩
  have HB7 := hid (below_call HB6.out hb HB6.out.size)
  have S4_7 := hid (Sl.of_own ho)
  clear hb ho
  go_wp2_with fail
  refine (HPL.out _ HB7.out).mono ?_; rintro e w8 ⟨A8, c8, rfl, ho, hb⟩
  have HB8 := hid (below_call HB7.out hb HB7.out.size)
  have S4_8 := hid (S4_7.out.below hb)
  have SP_8 := hid (Sl3.of_own ho)
  clear hb ho
  go_wp2_with fail
  refine (HCH.out _ _ _ _ _ _ HB8.out S4_8.out).mono ?_; rintro e w9 ⟨rfl, hb⟩
  have HB9 := hid (below_call HB8.out hb HB8.out.size)
  have S4_9 := hid (S4_8.out.below hb)
  have SP_9 := hid (SP_8.out.below hb)
  clear hb
  clear S4_7 S4_8 S4_9
  clear SP_8 SP_9
  go_wp2_with fail
  refine (HF.out _ HB9.out).mono ?_; rintro e w10 ⟨rfl, hb⟩
  have HB10 := hid (below_call HB9.out hb HB9.out.size)
  clear hb
  go_wp2_with fail
  refine (HAW.out _ HB10.out).mono ?_; rintro e w11 ⟨rfl, hb⟩
  have HB11 := hid (below_call HB10.out hb HB10.out.size)
  clear hb
  go_wp2
  go_ret
  exact ⟨rfl, HB11.out⟩


set_option maxRecDepth 100000 in
set_option maxHeartbeats 4000000 in
theorem evadeEarly_t (w : World) (hT : Tab w) (n : Nat) (A : Option Addr) (k c : Nat) (xs : List Int) (hs : Sl w A k c (xs.map (Value.int .i64))) (T : Option Addr) (L kk : Nat) (ts : List Nd) (h3 : Sl3 w T L kk ts) (h1 : Fam n xs) (hp : okP n ts) (l : Nat) (hr : lenN n (setF xs) ts (firstN ts) 0 0 = (l, true)) :
    Calls Tryd.prog 7 #[.int .i64 n, .slice A k c, .slice T L kk] w fun e w' => e = .returned (.bool true) ∧ Below w.heap.size w w' := by
  obtain ⟨m1, zs1, hC1⟩ := cp_of hs
  obtain ⟨rfl, rfl⟩ := hC1.same ⟨_, h1⟩
  have HC1 := hid hC1
  have hn6 := h1.n6n
  have hl3 := h3.len
  have HAW := hid fun W (hb : Below w.heap.size w W) => awakeF W (hT.below hb)
  have HPL := hid fun W (hb : Below w.heap.size w W) => lawPlan T L kk ts W (h3.below hb)
  have HF := hid fun W (hb : Below w.heap.size w W) => familyYes n A m1 c zs1 W (hs.below hb) h1
  have HE := hid fun A' c' W (hb : Below w.heap.size w W) (s1 : Sl W A' m1 c' (zs1.map (Value.int .i64))) => earlyYes n A' m1 c' zs1 W s1 (hT.below hb) h1
  have HA := hid fun A' c' W (hb : Below w.heap.size w W) (s1 : Sl W A' m1 c' (zs1.map (Value.int .i64))) => askYes n A' m1 c' zs1 W s1 (hT.below hb) h1
  have HP := hid fun A' c' W (hb : Below w.heap.size w W) (s1 : Sl W A' m1 c' (zs1.map (Value.int .i64))) => planYes n A' m1 c' zs1 W s1 (hT.below hb) h1
  have HRA := hid fun W (hb : Below w.heap.size w W) => refAsk n A m1 c zs1 W (hs.below hb) h1
  have HRE := hid fun W (hb : Below w.heap.size w W) => refEarly n A m1 c zs1 W (hs.below hb) h1
  obtain ⟨P, hP⟩ : ∃ P, planL n (setF zs1) 0 0 0 = P := ⟨_, rfl⟩
  have hok := plan_okP (n := n) (F := setF zs1) hn6
  have hch := plan_check (n := n) (F := setF zs1)
  have hPl := planL_len n (setF zs1) 0 0 0 hn6
  rw [hP] at HP hok hch hPl
  have HOW := hid fun T' k' W (s3 : Sl3 W T' P.length k' P) => lawOwn T' P.length k' P (by omega) W s3
  have HR1 := hid fun T' k' W (hb : Below w.heap.size w W) (s3 : Sl3 W T' P.length k' P) => refLengthYes n A m1 c zs1 T' P.length k' P W (hs.below hb) s3 h1 hok
  rw [hch] at HR1
  have hL70 := hp.1
  have hm8 : min L 80 = L := Nat.min_eq_left (by omega)
  rw [hm8, List.take_of_length_le (by omega)] at HPL
  have HCH := hid fun A' c' (T' : Option Addr) k' W (hb : Below w.heap.size w W) (s1 : Sl W A' m1 c' (zs1.map (Value.int .i64))) (s3 : Sl3 W T' L k' ts) => checkYes n A' m1 c' zs1 T' L k' ts W s1 s3 (hT.below hb) h1 hp l true hr
  have HR2 := hid fun W (hb : Below w.heap.size w W) => refLengthYes n A m1 c zs1 T L kk ts W (hs.below hb) (h3.below hb) h1 hp
  rw [hr] at HR2
  simp only [if_true] at HCH
  have ql : ((l : Int) == l) = true := by simp
  obtain ⟨q, hq⟩ : ∃ q, askN n (setF zs1).testBit 0 0 = q := ⟨_, rfl⟩
  rw [hq] at HA HRA HR1
  have g7 : ((q : Int) == q) = true := by simp
  generalize earlyB n zs1 = eb at *
  have g8 : (eb == eb) = true := by simp
  have g9 : (eb != eb) = false := by simp
  clear hC1 hs hT h1 hP hok hch hq hp h3 hl3 hr hL70 hm8
  have HB0 := hid (Below.refl w.heap.size w)
  go_enter Tryd.func7, Tryd.ntmps7
  go_wp2_with fail
  refine (HC1.out.run _ HB0.out).mono ?_; rintro e w1 ⟨A1, c1, rfl, ho, hb⟩
  have HB1 := hid (below_call HB0.out hb HB0.out.size)
  have S1_1 := hid (Sl.of_own ho)
  clear hb ho
  go_wp2_with fail
  refine (HE.out _ _ _ HB1.out S1_1.out).mono ?_; rintro e w2 ⟨rfl, hb⟩
  have HB2 := hid (below_call HB1.out hb HB1.out.size)
  have S1_2 := hid (S1_1.out.below hb)
  clear hb
  clear S1_1 S1_2
  go_wp2_with fail
  refine (HC1.out.run _ HB2.out).mono ?_; rintro e w3 ⟨A3, c3, rfl, ho, hb⟩
  have HB3 := hid (below_call HB2.out hb HB2.out.size)
  have S2_3 := hid (Sl.of_own ho)
  clear hb ho
  go_wp2_with fail
  refine (HA.out _ _ _ HB3.out S2_3.out).mono ?_; rintro e w4 ⟨rfl, hb⟩
  have HB4 := hid (below_call HB3.out hb HB3.out.size)
  have S2_4 := hid (S2_3.out.below hb)
  clear hb
  clear S2_3 S2_4
  go_wp2_with fail
  refine (HC1.out.run _ HB4.out).mono ?_; rintro e w5 ⟨A5, c5, rfl, ho, hb⟩
  have HB5 := hid (below_call HB4.out hb HB4.out.size)
  have S3_5 := hid (Sl.of_own ho)
  clear hb ho
  go_wp2_with fail
  refine (HP.out _ _ _ HB5.out S3_5.out).mono ?_; rintro e w6 ⟨A6, c6, rfl, ho, hb⟩
  have HB6 := hid (below_call HB5.out hb HB5.out.size)
  have S3_6 := hid (S3_5.out.below hb)
  have SX_6 := hid (Sl3.of_own ho)
  clear hb ho
  clear S3_5 S3_6
  go_wp2_with fail
  refine (HC1.out.run _ HB6.out).mono ?_; rintro e w7 ⟨A7, c7, rfl, ho, hb⟩
  have HB7 := hid (below_call HB6.out hb HB6.out.size)
  have SX_7 := hid (SX_6.out.below hb)
  have S4_7 := hid (Sl.of_own ho)
  clear hb ho
  go_wp2_with fail
  refine (HPL.out _ HB7.out).mono ?_; rintro e w8 ⟨A8, c8, rfl, ho, hb⟩
  have HB8 := hid (below_call HB7.out hb HB7.out.size)
  have SX_8 := hid (SX_7.out.below hb)
  have S4_8 := hid (S4_7.out.below hb)
  have SP_8 := hid (Sl3.of_own ho)
  clear hb ho
  go_wp2_with fail
  refine (HCH.out _ _ _ _ _ HB8.out S4_8.out SP_8.out).mono ?_; rintro e w9 ⟨rfl, hb⟩
  have HB9 := hid (below_call HB8.out hb HB8.out.size)
  have SX_9 := hid (SX_8.out.below hb)
  have S4_9 := hid (S4_8.out.below hb)
  have SP_9 := hid (SP_8.out.below hb)
  clear hb
  clear S4_7 S4_8 S4_9
  clear SP_8 SP_9
  go_wp2_with fail
  refine (HF.out _ HB9.out).mono ?_; rintro e w10 ⟨rfl, hb⟩
  have HB10 := hid (below_call HB9.out hb HB9.out.size)
  have SX_10 := hid (SX_9.out.below hb)
  clear hb
  go_wp2_with fail
  refine (HRA.out _ HB10.out).mono ?_; rintro e w11 ⟨rfl, hb⟩
  have HB11 := hid (below_call HB10.out hb HB10.out.size)
  have SX_11 := hid (SX_10.out.below hb)
  clear hb
  go_wp2_with fail
  refine (HRE.out _ HB11.out).mono ?_; rintro e w12 ⟨rfl, hb⟩
  have HB12 := hid (below_call HB11.out hb HB11.out.size)
  have SX_12 := hid (SX_11.out.below hb)
  clear hb
  go_wp2_with fail
  refine (HAW.out _ HB12.out).mono ?_; rintro e w13 ⟨rfl, hb⟩
  have HB13 := hid (below_call HB12.out hb HB12.out.size)
  have SX_13 := hid (SX_12.out.below hb)
  clear hb
  go_wp2_with fail
  refine (HOW.out _ _ _ SX_13.out).mono ?_; rintro e w14 ⟨A14, c14, rfl, ho, hb⟩
  have HB14 := hid (below_call HB13.out hb HB13.out.size)
  have SX_14 := hid (SX_13.out.below hb)
  have SO_14 := hid (Sl3.of_own ho)
  clear hb ho
  go_wp2_with fail
  refine (HR1.out _ _ _ HB14.out SO_14.out).mono ?_; rintro e w15 ⟨rfl, hb⟩
  have HB15 := hid (below_call HB14.out hb HB14.out.size)
  have SX_15 := hid (SX_14.out.below hb)
  have SO_15 := hid (SO_14.out.below hb)
  clear hb
  go_wp2_with fail
  refine (HR2.out _ HB15.out).mono ?_; rintro e w16 ⟨rfl, hb⟩
  have HB16 := hid (below_call HB15.out hb HB15.out.size)
  have SX_16 := hid (SX_15.out.below hb)
  have SO_16 := hid (SO_15.out.below hb)
  clear hb
  go_wp2
  go_ret
  exact ⟨rfl, HB16.out⟩


set_option maxRecDepth 100000 in
set_option maxHeartbeats 4000000 in
theorem evadeEarly_f (w : World) (hT : Tab w) (n : Nat) (A : Option Addr) (k c : Nat) (xs : List Int) (hs : Sl w A k c (xs.map (Value.int .i64))) (T : Option Addr) (L kk : Nat) (ts : List Nd) (h3 : Sl3 w T L kk ts) (h1 : Fam n xs) (hp : okP n ts) (l : Nat) (hr : lenN n (setF xs) ts (firstN ts) 0 0 = (l, false)) :
    Calls Tryd.prog 7 #[.int .i64 n, .slice A k c, .slice T L kk] w fun e w' => e = .returned (.bool true) ∧ Below w.heap.size w w' := by
  obtain ⟨m1, zs1, hC1⟩ := cp_of hs
  obtain ⟨rfl, rfl⟩ := hC1.same ⟨_, h1⟩
  have HC1 := hid hC1
  have hn6 := h1.n6n
  have hl3 := h3.len
  have HAW := hid fun W (hb : Below w.heap.size w W) => awakeF W (hT.below hb)
  have HPL := hid fun W (hb : Below w.heap.size w W) => lawPlan T L kk ts W (h3.below hb)
  have HF := hid fun W (hb : Below w.heap.size w W) => familyYes n A m1 c zs1 W (hs.below hb) h1
  have HE := hid fun A' c' W (hb : Below w.heap.size w W) (s1 : Sl W A' m1 c' (zs1.map (Value.int .i64))) => earlyYes n A' m1 c' zs1 W s1 (hT.below hb) h1
  have HA := hid fun A' c' W (hb : Below w.heap.size w W) (s1 : Sl W A' m1 c' (zs1.map (Value.int .i64))) => askYes n A' m1 c' zs1 W s1 (hT.below hb) h1
  have HP := hid fun A' c' W (hb : Below w.heap.size w W) (s1 : Sl W A' m1 c' (zs1.map (Value.int .i64))) => planYes n A' m1 c' zs1 W s1 (hT.below hb) h1
  have HRA := hid fun W (hb : Below w.heap.size w W) => refAsk n A m1 c zs1 W (hs.below hb) h1
  have HRE := hid fun W (hb : Below w.heap.size w W) => refEarly n A m1 c zs1 W (hs.below hb) h1
  obtain ⟨P, hP⟩ : ∃ P, planL n (setF zs1) 0 0 0 = P := ⟨_, rfl⟩
  have hok := plan_okP (n := n) (F := setF zs1) hn6
  have hch := plan_check (n := n) (F := setF zs1)
  have hPl := planL_len n (setF zs1) 0 0 0 hn6
  rw [hP] at HP hok hch hPl
  have HOW := hid fun T' k' W (s3 : Sl3 W T' P.length k' P) => lawOwn T' P.length k' P (by omega) W s3
  have HR1 := hid fun T' k' W (hb : Below w.heap.size w W) (s3 : Sl3 W T' P.length k' P) => refLengthYes n A m1 c zs1 T' P.length k' P W (hs.below hb) s3 h1 hok
  rw [hch] at HR1
  have hL70 := hp.1
  have hm8 : min L 80 = L := Nat.min_eq_left (by omega)
  rw [hm8, List.take_of_length_le (by omega)] at HPL
  have HCH := hid fun A' c' (T' : Option Addr) k' W (hb : Below w.heap.size w W) (s1 : Sl W A' m1 c' (zs1.map (Value.int .i64))) (s3 : Sl3 W T' L k' ts) => checkYes n A' m1 c' zs1 T' L k' ts W s1 s3 (hT.below hb) h1 hp l false hr
  have HR2 := hid fun W (hb : Below w.heap.size w W) => refLengthYes n A m1 c zs1 T L kk ts W (hs.below hb) (h3.below hb) h1 hp
  rw [hr] at HR2
  simp only [Bool.false_eq_true, if_false] at HCH
  have ql : ((l : Int) == l) = true := by simp
  obtain ⟨q, hq⟩ : ∃ q, askN n (setF zs1).testBit 0 0 = q := ⟨_, rfl⟩
  rw [hq] at HA HRA HR1
  have g7 : ((q : Int) == q) = true := by simp
  generalize earlyB n zs1 = eb at *
  have g8 : (eb == eb) = true := by simp
  have g9 : (eb != eb) = false := by simp
  clear hC1 hs hT h1 hP hok hch hq hp h3 hl3 hr hL70 hm8
  have HB0 := hid (Below.refl w.heap.size w)
  go_enter Tryd.func7, Tryd.ntmps7
  go_wp2_with fail
  refine (HC1.out.run _ HB0.out).mono ?_; rintro e w1 ⟨A1, c1, rfl, ho, hb⟩
  have HB1 := hid (below_call HB0.out hb HB0.out.size)
  have S1_1 := hid (Sl.of_own ho)
  clear hb ho
  go_wp2_with fail
  refine (HE.out _ _ _ HB1.out S1_1.out).mono ?_; rintro e w2 ⟨rfl, hb⟩
  have HB2 := hid (below_call HB1.out hb HB1.out.size)
  have S1_2 := hid (S1_1.out.below hb)
  clear hb
  clear S1_1 S1_2
  go_wp2_with fail
  refine (HC1.out.run _ HB2.out).mono ?_; rintro e w3 ⟨A3, c3, rfl, ho, hb⟩
  have HB3 := hid (below_call HB2.out hb HB2.out.size)
  have S2_3 := hid (Sl.of_own ho)
  clear hb ho
  go_wp2_with fail
  refine (HA.out _ _ _ HB3.out S2_3.out).mono ?_; rintro e w4 ⟨rfl, hb⟩
  have HB4 := hid (below_call HB3.out hb HB3.out.size)
  have S2_4 := hid (S2_3.out.below hb)
  clear hb
  clear S2_3 S2_4
  go_wp2_with fail
  refine (HC1.out.run _ HB4.out).mono ?_; rintro e w5 ⟨A5, c5, rfl, ho, hb⟩
  have HB5 := hid (below_call HB4.out hb HB4.out.size)
  have S3_5 := hid (Sl.of_own ho)
  clear hb ho
  go_wp2_with fail
  refine (HP.out _ _ _ HB5.out S3_5.out).mono ?_; rintro e w6 ⟨A6, c6, rfl, ho, hb⟩
  have HB6 := hid (below_call HB5.out hb HB5.out.size)
  have S3_6 := hid (S3_5.out.below hb)
  have SX_6 := hid (Sl3.of_own ho)
  clear hb ho
  clear S3_5 S3_6
  go_wp2_with fail
  refine (HC1.out.run _ HB6.out).mono ?_; rintro e w7 ⟨A7, c7, rfl, ho, hb⟩
  have HB7 := hid (below_call HB6.out hb HB6.out.size)
  have SX_7 := hid (SX_6.out.below hb)
  have S4_7 := hid (Sl.of_own ho)
  clear hb ho
  go_wp2_with fail
  refine (HPL.out _ HB7.out).mono ?_; rintro e w8 ⟨A8, c8, rfl, ho, hb⟩
  have HB8 := hid (below_call HB7.out hb HB7.out.size)
  have SX_8 := hid (SX_7.out.below hb)
  have S4_8 := hid (S4_7.out.below hb)
  have SP_8 := hid (Sl3.of_own ho)
  clear hb ho
  go_wp2_with fail
  refine (HCH.out _ _ _ _ _ HB8.out S4_8.out SP_8.out).mono ?_; rintro e w9 ⟨rfl, hb⟩
  have HB9 := hid (below_call HB8.out hb HB8.out.size)
  have SX_9 := hid (SX_8.out.below hb)
  have S4_9 := hid (S4_8.out.below hb)
  have SP_9 := hid (SP_8.out.below hb)
  clear hb
  clear S4_7 S4_8 S4_9
  clear SP_8 SP_9
  go_wp2_with fail
  refine (HF.out _ HB9.out).mono ?_; rintro e w10 ⟨rfl, hb⟩
  have HB10 := hid (below_call HB9.out hb HB9.out.size)
  have SX_10 := hid (SX_9.out.below hb)
  clear hb
  go_wp2_with fail
  refine (HRA.out _ HB10.out).mono ?_; rintro e w11 ⟨rfl, hb⟩
  have HB11 := hid (below_call HB10.out hb HB10.out.size)
  have SX_11 := hid (SX_10.out.below hb)
  clear hb
  go_wp2_with fail
  refine (HRE.out _ HB11.out).mono ?_; rintro e w12 ⟨rfl, hb⟩
  have HB12 := hid (below_call HB11.out hb HB11.out.size)
  have SX_12 := hid (SX_11.out.below hb)
  clear hb
  go_wp2_with fail
  refine (HAW.out _ HB12.out).mono ?_; rintro e w13 ⟨rfl, hb⟩
  have HB13 := hid (below_call HB12.out hb HB12.out.size)
  have SX_13 := hid (SX_12.out.below hb)
  clear hb
  go_wp2_with fail
  refine (HOW.out _ _ _ SX_13.out).mono ?_; rintro e w14 ⟨A14, c14, rfl, ho, hb⟩
  have HB14 := hid (below_call HB13.out hb HB13.out.size)
  have SX_14 := hid (SX_13.out.below hb)
  have SO_14 := hid (Sl3.of_own ho)
  clear hb ho
  go_wp2_with fail
  refine (HR1.out _ _ _ HB14.out SO_14.out).mono ?_; rintro e w15 ⟨rfl, hb⟩
  have HB15 := hid (below_call HB14.out hb HB14.out.size)
  have SX_15 := hid (SX_14.out.below hb)
  have SO_15 := hid (SO_14.out.below hb)
  clear hb
  go_wp2_with fail
  refine (HR2.out _ HB15.out).mono ?_; rintro e w16 ⟨rfl, hb⟩
  have HB16 := hid (below_call HB15.out hb HB15.out.size)
  have SX_16 := hid (SX_15.out.below hb)
  have SO_16 := hid (SO_15.out.below hb)
  clear hb
  go_wp2
  go_ret
  exact ⟨rfl, HB16.out⟩


set_option maxRecDepth 100000 in
set_option maxHeartbeats 4000000 in
theorem evadeEarly_n (w : World) (hT : Tab w) (n : Nat) (A : Option Addr) (k c : Nat) (xs : List Int) (hs : Sl w A k c (xs.map (Value.int .i64))) (T : Option Addr) (L kk : Nat) (ts : List Nd) (h3 : Sl3 w T L kk ts) (h1 : Fam n xs) (hp : ¬ okP n ts) (hL : L ≤ 9223372036854775807) :
    Calls Tryd.prog 7 #[.int .i64 n, .slice A k c, .slice T L kk] w fun e w' => e = .returned (.bool true) ∧ Below w.heap.size w w' := by
  obtain ⟨m1, zs1, hC1⟩ := cp_of hs
  obtain ⟨rfl, rfl⟩ := hC1.same ⟨_, h1⟩
  have HC1 := hid hC1
  have hn6 := h1.n6n
  have hl3 := h3.len
  have HAW := hid fun W (hb : Below w.heap.size w W) => awakeF W (hT.below hb)
  have HPL := hid fun W (hb : Below w.heap.size w W) => lawPlan T L kk ts W (h3.below hb)
  have HF := hid fun W (hb : Below w.heap.size w W) => familyYes n A m1 c zs1 W (hs.below hb) h1
  have HE := hid fun A' c' W (hb : Below w.heap.size w W) (s1 : Sl W A' m1 c' (zs1.map (Value.int .i64))) => earlyYes n A' m1 c' zs1 W s1 (hT.below hb) h1
  have HA := hid fun A' c' W (hb : Below w.heap.size w W) (s1 : Sl W A' m1 c' (zs1.map (Value.int .i64))) => askYes n A' m1 c' zs1 W s1 (hT.below hb) h1
  have HP := hid fun A' c' W (hb : Below w.heap.size w W) (s1 : Sl W A' m1 c' (zs1.map (Value.int .i64))) => planYes n A' m1 c' zs1 W s1 (hT.below hb) h1
  have HRA := hid fun W (hb : Below w.heap.size w W) => refAsk n A m1 c zs1 W (hs.below hb) h1
  have HRE := hid fun W (hb : Below w.heap.size w W) => refEarly n A m1 c zs1 W (hs.below hb) h1
  obtain ⟨P, hP⟩ : ∃ P, planL n (setF zs1) 0 0 0 = P := ⟨_, rfl⟩
  have hok := plan_okP (n := n) (F := setF zs1) hn6
  have hch := plan_check (n := n) (F := setF zs1)
  have hPl := planL_len n (setF zs1) 0 0 0 hn6
  rw [hP] at HP hok hch hPl
  have HOW := hid fun T' k' W (s3 : Sl3 W T' P.length k' P) => lawOwn T' P.length k' P (by omega) W s3
  have HR1 := hid fun T' k' W (hb : Below w.heap.size w W) (s3 : Sl3 W T' P.length k' P) => refLengthYes n A m1 c zs1 T' P.length k' P W (hs.below hb) s3 h1 hok
  rw [hch] at HR1
  have htk := ok_take hl3 hp
  have HCH := hid fun A' c' (T' : Option Addr) k' W (hb : Below w.heap.size w W) (s1 : Sl W A' m1 c' (zs1.map (Value.int .i64))) (s3 : Sl3 W T' (min L 80) k' (ts.take (min L 80))) => checkBad n A' m1 c' zs1 T' (min L 80) k' (ts.take (min L 80)) W s1 s3 (hT.below hb) h1 htk
  have HR2 := hid fun W (hb : Below w.heap.size w W) => (show Calls Tryd.prog 41 #[.int .i64 n, .slice A m1 c, .slice T L kk] W fun e w' => e = .returned (.tuple #[.int .i64 0, .bool false]) ∧ Below W.heap.size W w' from by
    by_cases h70 : L ≤ 70
    · exact refLengthBad n A m1 c T L kk ts W (h3.below hb) h70 hp
    · exact refLengthLong n A m1 c T L kk W (by omega) hL)
  generalize ts.take (min L 80) = ts8 at *
  generalize min L 80 = L8 at *
  obtain ⟨q, hq⟩ : ∃ q, askN n (setF zs1).testBit 0 0 = q := ⟨_, rfl⟩
  rw [hq] at HA HRA HR1
  have g7 : ((q : Int) == q) = true := by simp
  generalize earlyB n zs1 = eb at *
  have g8 : (eb == eb) = true := by simp
  have g9 : (eb != eb) = false := by simp
  clear hC1 hs hT h1 hP hok hch hq hp h3 hl3 htk hL
  have HB0 := hid (Below.refl w.heap.size w)
  go_enter Tryd.func7, Tryd.ntmps7
  go_wp2_with fail
  refine (HC1.out.run _ HB0.out).mono ?_; rintro e w1 ⟨A1, c1, rfl, ho, hb⟩
  have HB1 := hid (below_call HB0.out hb HB0.out.size)
  have S1_1 := hid (Sl.of_own ho)
  clear hb ho
  go_wp2_with fail
  refine (HE.out _ _ _ HB1.out S1_1.out).mono ?_; rintro e w2 ⟨rfl, hb⟩
  have HB2 := hid (below_call HB1.out hb HB1.out.size)
  have S1_2 := hid (S1_1.out.below hb)
  clear hb
  clear S1_1 S1_2
  go_wp2_with fail
  refine (HC1.out.run _ HB2.out).mono ?_; rintro e w3 ⟨A3, c3, rfl, ho, hb⟩
  have HB3 := hid (below_call HB2.out hb HB2.out.size)
  have S2_3 := hid (Sl.of_own ho)
  clear hb ho
  go_wp2_with fail
  refine (HA.out _ _ _ HB3.out S2_3.out).mono ?_; rintro e w4 ⟨rfl, hb⟩
  have HB4 := hid (below_call HB3.out hb HB3.out.size)
  have S2_4 := hid (S2_3.out.below hb)
  clear hb
  clear S2_3 S2_4
  go_wp2_with fail
  refine (HC1.out.run _ HB4.out).mono ?_; rintro e w5 ⟨A5, c5, rfl, ho, hb⟩
  have HB5 := hid (below_call HB4.out hb HB4.out.size)
  have S3_5 := hid (Sl.of_own ho)
  clear hb ho
  go_wp2_with fail
  refine (HP.out _ _ _ HB5.out S3_5.out).mono ?_; rintro e w6 ⟨A6, c6, rfl, ho, hb⟩
  have HB6 := hid (below_call HB5.out hb HB5.out.size)
  have S3_6 := hid (S3_5.out.below hb)
  have SX_6 := hid (Sl3.of_own ho)
  clear hb ho
  clear S3_5 S3_6
  go_wp2_with fail
  refine (HC1.out.run _ HB6.out).mono ?_; rintro e w7 ⟨A7, c7, rfl, ho, hb⟩
  have HB7 := hid (below_call HB6.out hb HB6.out.size)
  have SX_7 := hid (SX_6.out.below hb)
  have S4_7 := hid (Sl.of_own ho)
  clear hb ho
  go_wp2_with fail
  refine (HPL.out _ HB7.out).mono ?_; rintro e w8 ⟨A8, c8, rfl, ho, hb⟩
  have HB8 := hid (below_call HB7.out hb HB7.out.size)
  have SX_8 := hid (SX_7.out.below hb)
  have S4_8 := hid (S4_7.out.below hb)
  have SP_8 := hid (Sl3.of_own ho)
  clear hb ho
  go_wp2_with fail
  refine (HCH.out _ _ _ _ _ HB8.out S4_8.out SP_8.out).mono ?_; rintro e w9 ⟨rfl, hb⟩
  have HB9 := hid (below_call HB8.out hb HB8.out.size)
  have SX_9 := hid (SX_8.out.below hb)
  have S4_9 := hid (S4_8.out.below hb)
  have SP_9 := hid (SP_8.out.below hb)
  clear hb
  clear S4_7 S4_8 S4_9
  clear SP_8 SP_9
  go_wp2_with fail
  refine (HF.out _ HB9.out).mono ?_; rintro e w10 ⟨rfl, hb⟩
  have HB10 := hid (below_call HB9.out hb HB9.out.size)
  have SX_10 := hid (SX_9.out.below hb)
  clear hb
  go_wp2_with fail
  refine (HRA.out _ HB10.out).mono ?_; rintro e w11 ⟨rfl, hb⟩
  have HB11 := hid (below_call HB10.out hb HB10.out.size)
  have SX_11 := hid (SX_10.out.below hb)
  clear hb
  go_wp2_with fail
  refine (HRE.out _ HB11.out).mono ?_; rintro e w12 ⟨rfl, hb⟩
  have HB12 := hid (below_call HB11.out hb HB11.out.size)
  have SX_12 := hid (SX_11.out.below hb)
  clear hb
  go_wp2_with fail
  refine (HAW.out _ HB12.out).mono ?_; rintro e w13 ⟨rfl, hb⟩
  have HB13 := hid (below_call HB12.out hb HB12.out.size)
  have SX_13 := hid (SX_12.out.below hb)
  clear hb
  go_wp2_with fail
  refine (HOW.out _ _ _ SX_13.out).mono ?_; rintro e w14 ⟨A14, c14, rfl, ho, hb⟩
  have HB14 := hid (below_call HB13.out hb HB13.out.size)
  have SX_14 := hid (SX_13.out.below hb)
  have SO_14 := hid (Sl3.of_own ho)
  clear hb ho
  go_wp2_with fail
  refine (HR1.out _ _ _ HB14.out SO_14.out).mono ?_; rintro e w15 ⟨rfl, hb⟩
  have HB15 := hid (below_call HB14.out hb HB14.out.size)
  have SX_15 := hid (SX_14.out.below hb)
  have SO_15 := hid (SO_14.out.below hb)
  clear hb
  go_wp2_with fail
  refine (HR2.out _ HB15.out).mono ?_; rintro e w16 ⟨rfl, hb⟩
  have HB16 := hid (below_call HB15.out hb HB15.out.size)
  have SX_16 := hid (SX_15.out.below hb)
  have SO_16 := hid (SO_15.out.below hb)
  clear hb
  go_wp2
  go_ret
  exact ⟨rfl, HB16.out⟩


theorem evadeEarly_walk (w : World) (hT : Tab w) (n : Int) (_ : (Lit.int .i64 n).wf = true) (A : Option Addr) (k c : Nat) (xs : List Int) (hs : Sl w A k c (xs.map (Value.int .i64))) (_ : ∀ x ∈ xs, -9223372036854775808 ≤ x ∧ x ≤ 9223372036854775807) (T : Option Addr) (L kk : Nat) (ts : List Nd) (h3 : Sl3 w T L kk ts) (hL : L ≤ 140737488355327) :
    Calls Tryd.prog 7 #[.int .i64 n, .slice A k c, .slice T L kk] w fun e w' => e = .returned (.bool true) ∧ Below w.heap.size w w' := by
  by_cases h1 : Fam n xs
  · obtain ⟨n, rfl⟩ := Int.eq_ofNat_of_zero_le (show 0 ≤ n by have := h1.n1; omega)
    by_cases hp : okP n ts
    · obtain ⟨R, hR⟩ : ∃ R : Nat × Bool, lenN n (setF xs) ts (firstN ts) 0 0 = R := ⟨_, rfl⟩
      obtain ⟨l, b⟩ := R
      cases b
      · exact evadeEarly_f w hT n A k c xs hs T L kk ts h3 h1 hp l hR
      · exact evadeEarly_t w hT n A k c xs hs T L kk ts h3 h1 hp l hR
    · exact evadeEarly_n w hT n A k c xs hs T L kk ts h3 h1 hp (by omega)
  · exact evadeEarly_bad w hT n A k c xs hs T L kk ts h3 h1
end Go.Proofs.YtjddbglbodkihaaDoor
