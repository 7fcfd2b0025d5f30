/- Walk of the law EvadeAway. Condition: the table of the library stands. -/
import Derived.Test.YtjddbglbodkihaaDoorWalkSums
import Derived.Test.YtjddbglbodkihaaDoorEarlyW
import Derived.Test.YtjddbglbodkihaaDoorFoldsW
namespace Go.Proofs.YtjddbglbodkihaaDoor
open Go.RowKit

theorem away_sums {n : Nat} {l : List Int} (h : Fam n l) {ps : List (Int × Int)} {G : Nat} (hr : FRun (setF l) ps G) (hp : Point G.testBit) : sumL l = 0 ∧ l.length = 2 + 2 * ps.length := by
  obtain ⟨h1, h2⟩ := hr.sums (fs_of h)
  obtain ⟨h3, h4⟩ := hp.sums
  have e1 := sumL_fam (setF l).testBit 64
  have e2 := len_fam (setF l).testBit 64
  rw [h.lst] at e1 e2
  refine ⟨by rw [e1, ← h1]; exact h3, by omega⟩
theorem away_early {n : Nat} {l : List Int} (h : Fam n l) (he : askN n (setF l).testBit 0 0 < n) (hl : 0 < l.length) {ps : List (Int × Int)} {G : Nat} (hr : FRun (setF l) ps G) (hs : ∀ s t, ¬ FR G s t) : Point G.testBit := by
  have hf := fs_of h
  refine stuck_point (hr.fs hf) ((hr.whole hf).1 (early_whole h he)) (hr.zero hf ?_) hs
  obtain ⟨x, hx⟩ : ∃ x, x ∈ l := List.exists_mem_of_length_pos hl
  have h0 := (h.nlt hx).1
  have hx2 : (setF l).testBit x.toNat = true := (setF_mem (fun y hy => (h.nlt hy).1) x.toNat).2 (by rw [Int.toNat_of_nonneg h0]; exact hx)
  exact shut_part hf.shut 64 0 x.toNat (fun y hy _ _ => by omega) (fun y hy => by simp at hy) (hf.small _ hx2) hx2

set_option maxRecDepth 100000 in
set_option maxHeartbeats 4000000 in
theorem evadeAway_bad (w : World) (hT : Tab w) (n : Int) (A : Option Addr) (k c : Nat) (xs : List Int) (hs : Sl w A k c (xs.map (Value.int .i64))) (h1 : ¬ Fam n xs) :
    Calls Tryd.prog 11 #[.int .i64 n, .slice A k c] w fun e w' => e = .returned (.bool true) ∧ Below w.heap.size w w' := by
  obtain ⟨m1, zs1, hC1⟩ := cp_of hs
  have HC1 := hid hC1
  have HAW := hid fun W (hb : Below w.heap.size w W) => awakeF W (hT.below hb)
  have HE := hid fun A' c' W (hb : Below w.heap.size w W) (s1 : Sl W A' m1 c' (zs1.map (Value.int .i64))) => earlyNo n A' m1 c' zs1 W s1 (hT.below hb) (by rw [hC1.fam]; exact h1)
  have HP := hid fun A' c' W (hb : Below w.heap.size w W) (s1 : Sl W A' m1 c' (zs1.map (Value.int .i64))) => foldingNo n A' m1 c' zs1 W s1 (hT.below hb) (by rw [hC1.fam]; exact h1)
  have HS := hid fun A' c' W (hb : Below w.heap.size w W) (s1 : Sl W A' m1 c' (zs1.map (Value.int .i64))) => sumNo n A' m1 c' zs1 W s1 (hT.below hb) (by rw [hC1.fam]; exact h1)
  have HF := hid fun W (hb : Below w.heap.size w W) => familyNo n A k c xs W (hs.below hb) h1
  clear hC1 hs hT h1
  have HB0 := hid (Below.refl w.heap.size w)
  go_enter Tryd.func11, Tryd.ntmps11
  go_wp2_with fail
  refine (HC1.out.run _ HB0.out).mono ?_; rintro e w1 ⟨A1, c1, rfl, ho, hb⟩
  have HB1 := hid (below_call HB0.out hb HB0.out.size)
  have S1_1 := hid (Sl.of_own ho)
  clear hb ho
  go_wp2_with fail
  refine (HE.out _ _ _ HB1.out S1_1.out).mono ?_; rintro e w2 ⟨rfl, hb⟩
  have HB2 := hid (below_call HB1.out hb HB1.out.size)
  have S1_2 := hid (S1_1.out.below hb)
  clear hb
  clear S1_1 S1_2
  go_wp2_with fail
  refine (HC1.out.run _ HB2.out).mono ?_; rintro e w3 ⟨A3, c3, rfl, ho, hb⟩
  have HB3 := hid (below_call HB2.out hb HB2.out.size)
  have S2_3 := hid (Sl.of_own ho)
  clear hb ho
  go_wp2_with fail
  refine (HP.out _ _ _ HB3.out S2_3.out).mono ?_; rintro e w4 ⟨rfl, hb⟩
  have HB4 := hid (below_call HB3.out hb HB3.out.size)
  have S2_4 := hid (S2_3.out.below hb)
  clear hb
  clear S2_3 S2_4
  go_wp2_with fail
  refine (HC1.out.run _ HB4.out).mono ?_; rintro e w5 ⟨A5, c5, rfl, ho, hb⟩
  have HB5 := hid (below_call HB4.out hb HB4.out.size)
  have S3_5 := hid (Sl.of_own ho)
  clear hb ho
  go_wp2_with fail
  refine (HS.out _ _ _ HB5.out S3_5.out).mono ?_; rintro e w6 ⟨rfl, hb⟩
  have HB6 := hid (below_call HB5.out hb HB5.out.size)
  have S3_6 := hid (S3_5.out.below hb)
  clear hb
  clear S3_5 S3_6
  go_wp2_with fail
  refine (HAW.out _ HB6.out).mono ?_; rintro e w7 ⟨rfl, hb⟩
  have HB7 := hid (below_call HB6.out hb HB6.out.size)
  clear hb
  go_wp2
  go_ret
  exact ⟨rfl, HB7.out⟩


set_option maxRecDepth 100000 in
set_option maxHeartbeats 4000000 in
theorem evadeAway_t (w : World) (hT : Tab w) (n : Nat) (A : Option Addr) (k c : Nat) (xs : List Int) (hs : Sl w A k c (xs.map (Value.int .i64))) (h1 : Fam n xs) (he : earlyB n xs = true) (hk : 0 < k) :
    Calls Tryd.prog 11 #[.int .i64 n, .slice A k c] w fun e w' => e = .returned (.bool true) ∧ Below w.heap.size w w' := by
  obtain ⟨m1, zs1, hC1⟩ := cp_of hs
  obtain ⟨rfl, rfl⟩ := hC1.same ⟨_, h1⟩
  have HC1 := hid hC1
  have hxl := hs.numlen
  have h64 := h1.len64
  have HAW := hid fun W (hb : Below w.heap.size w W) => awakeF W (hT.below hb)
  have HF := hid fun W (hb : Below w.heap.size w W) => familyYes n A m1 c zs1 W (hs.below hb) h1
  have HE := hid fun A' c' W (hb : Below w.heap.size w W) (s1 : Sl W A' m1 c' (zs1.map (Value.int .i64))) => earlyYes n A' m1 c' zs1 W s1 (hT.below hb) h1
  have HP := hid fun A' c' W (hb : Below w.heap.size w W) (s1 : Sl W A' m1 c' (zs1.map (Value.int .i64))) => foldingYes n A' m1 c' zs1 W s1 (hT.below hb) h1
  have HS := hid fun A' c' W (hb : Below w.heap.size w W) (s1 : Sl W A' m1 c' (zs1.map (Value.int .i64))) => sumYes n A' m1 c' zs1 W s1 (hT.below hb) h1
  have HFD := hid fun A' c' X' k' d' qs W (hb : Below w.heap.size w W) (s1 : Sl W A' m1 c' (zs1.map (Value.int .i64))) (s2 : Sl2 W X' k' d' qs) => foldsYes n A' m1 c' zs1 X' k' d' qs W s1 s2 (hT.below hb) h1
  have HAS := hid fun ps G (hr : FRun (setF zs1) ps G) hp => away_sums h1 hr hp
  have HLN := hid fun ps G (hr : FRun (setF zs1) ps G) => hr.len (fs_of h1)
  have HEA := hid fun ps G (hr : FRun (setF zs1) ps G) hst => away_early h1 (of_decide_eq_true he) (by omega) hr hst
  rw [he] at HE
  have HX := hid hxl
  generalize setF zs1 = F0 at *
  generalize sumL zs1 = v at *
  clear hC1 hs hT h1 he
  have HB0 := hid (Below.refl w.heap.size w)
  go_enter Tryd.func11, Tryd.ntmps11
  go_wp2_with fail
  refine (HC1.out.run _ HB0.out).mono ?_; rintro e w1 ⟨A1, c1, rfl, ho, hb⟩
  have HB1 := hid (below_call HB0.out hb HB0.out.size)
  have S1_1 := hid (Sl.of_own ho)
  clear hb ho
  go_wp2_with fail
  refine (HE.out _ _ _ HB1.out S1_1.out).mono ?_; rintro e w2 ⟨rfl, hb⟩
  have HB2 := hid (below_call HB1.out hb HB1.out.size)
  have S1_2 := hid (S1_1.out.below hb)
  clear hb
  clear S1_1 S1_2
  go_wp2_with fail
  refine (HC1.out.run _ HB2.out).mono ?_; rintro e w3 ⟨A3, c3, rfl, ho, hb⟩
  have HB3 := hid (below_call HB2.out hb HB2.out.size)
  have S2_3 := hid (Sl.of_own ho)
  clear hb ho
  go_wp2_with fail
  refine (HP.out _ _ _ HB3.out S2_3.out).mono ?_; rintro e w4 ⟨⟨ps, G, hfr, hor⟩, hb⟩
  have HB4 := hid (below_call HB3.out hb HB3.out.size)
  have S2_4 := hid (S2_3.out.below hb)
  clear hb
  clear S2_3 S2_4
  have hpl := HLN.out ps G hfr
  rcases hor with ⟨hpt, A', c', rfl, ho⟩ | ⟨hnp, hst, rfl⟩
  · obtain ⟨hv, hL⟩ := HAS.out ps G hfr hpt
    subst hv
    have q3 : ((m1 : Int) == 2 + 2 * (ps.length : Int)) = true := by rw [beq_iff_eq]; have := HX.out; omega
    have q4 : (m1 == 2 + 2 * ps.length) = true := by rw [beq_iff_eq]; have := HX.out; omega
    have q5 : 0 < m1 := by omega
    have SP_4 := hid (Sl2.of_own ho)
    have HPT := hid hpt
    have HFR := hid hfr
    clear ho hpt hL
    go_wp2_with fail
    refine (HC1.out.run _ HB4.out).mono ?_; rintro e w5 ⟨A5, c5, rfl, ho, hb⟩
    have HB5 := hid (below_call HB4.out hb HB4.out.size)
    have SP_5 := hid (SP_4.out.below hb)
    have S3_5 := hid (Sl.of_own ho)
    clear hb ho
    go_wp2_with fail
    refine (HS.out _ _ _ HB5.out S3_5.out).mono ?_; rintro e w6 ⟨rfl, hb⟩
    have HB6 := hid (below_call HB5.out hb HB5.out.size)
    have SP_6 := hid (SP_5.out.below hb)
    have S3_6 := hid (S3_5.out.below hb)
    clear hb
    clear S3_5 S3_6
    go_wp2_with fail
    refine (HF.out _ HB6.out).mono ?_; rintro e w7 ⟨rfl, hb⟩
    have HB7 := hid (below_call HB6.out hb HB6.out.size)
    have SP_7 := hid (SP_6.out.below hb)
    clear hb
    go_wp2_with fail
    refine (HC1.out.run _ HB7.out).mono ?_; rintro e w8 ⟨A8, c8, rfl, ho, hb⟩
    have HB8 := hid (below_call HB7.out hb HB7.out.size)
    have SP_8 := hid (SP_7.out.below hb)
    have S4_8 := hid (Sl.of_own ho)
    clear hb ho
    go_wp2_with fail
    refine (clonePairs _ _ _ _ (by omega) _ SP_8.out).mono ?_; rintro e w9 ⟨A9, c9, rfl, h2, hb⟩
    have HB9 := hid (below_call HB8.out hb HB8.out.size)
    have SP_9 := hid (SP_8.out.below hb)
    have S4_9 := hid (S4_8.out.below hb)
    have SQ_9 := hid (h2)
    clear hb h2
    go_wp2_with fail
    refine (HFD.out _ _ _ _ _ _ _ HB9.out S4_9.out SQ_9.out).mono ?_; rintro e w10 ⟨⟨b, rfl, hbb⟩, hb⟩
    have HB10 := hid (below_call HB9.out hb HB9.out.size)
    have SP_10 := hid (SP_9.out.below hb)
    have S4_10 := hid (S4_9.out.below hb)
    have SQ_10 := hid (SQ_9.out.below hb)
    obtain rfl : b = true := hbb.2 ⟨G, HFR.out, HPT.out⟩
    clear hbb
    clear hb
    go_wp2_with fail
    refine (HAW.out _ HB10.out).mono ?_; rintro e w11 ⟨rfl, hb⟩
    have HB11 := hid (below_call HB10.out hb HB10.out.size)
    have SP_11 := hid (SP_10.out.below hb)
    have S4_11 := hid (S4_10.out.below hb)
    have SQ_11 := hid (SQ_10.out.below hb)
    clear hb
    go_wp2
    go_ret
    exact ⟨rfl, HB11.out⟩

  · exact absurd (HEA.out ps G hfr hst) hnp

set_option maxRecDepth 100000 in
set_option maxHeartbeats 4000000 in
theorem evadeAway_z (w : World) (hT : Tab w) (n : Nat) (A : Option Addr) (k c : Nat) (xs : List Int) (hs : Sl w A k c (xs.map (Value.int .i64))) (h1 : Fam n xs) (he : earlyB n xs = true) (hk : k = 0) :
    Calls Tryd.prog 11 #[.int .i64 n, .slice A k c] w fun e w' => e = .returned (.bool true) ∧ Below w.heap.size w w' := by
  obtain ⟨m1, zs1, hC1⟩ := cp_of hs
  obtain ⟨rfl, rfl⟩ := hC1.same ⟨_, h1⟩
  subst hk
  have HC1 := hid hC1
  have hxl := hs.numlen
  have h64 := h1.len64
  have HAW := hid fun W (hb : Below w.heap.size w W) => awakeF W (hT.below hb)
  have HF := hid fun W (hb : Below w.heap.size w W) => familyYes n A 0 c zs1 W (hs.below hb) h1
  have HE := hid fun A' c' W (hb : Below w.heap.size w W) (s1 : Sl W A' 0 c' (zs1.map (Value.int .i64))) => earlyYes n A' 0 c' zs1 W s1 (hT.below hb) h1
  have HP := hid fun A' c' W (hb : Below w.heap.size w W) (s1 : Sl W A' 0 c' (zs1.map (Value.int .i64))) => foldingYes n A' 0 c' zs1 W s1 (hT.below hb) h1
  have HS := hid fun A' c' W (hb : Below w.heap.size w W) (s1 : Sl W A' 0 c' (zs1.map (Value.int .i64))) => sumYes n A' 0 c' zs1 W s1 (hT.below hb) h1
  have HFD := hid fun A' c' X' k' d' qs W (hb : Below w.heap.size w W) (s1 : Sl W A' 0 c' (zs1.map (Value.int .i64))) (s2 : Sl2 W X' k' d' qs) => foldsYes n A' 0 c' zs1 X' k' d' qs W s1 s2 (hT.below hb) h1
  have HAS := hid fun ps G (hr : FRun (setF zs1) ps G) hp => away_sums h1 hr hp
  have HLN := hid fun ps G (hr : FRun (setF zs1) ps G) => hr.len (fs_of h1)
  rw [he] at HE
  have HX := hid hxl
  generalize setF zs1 = F0 at *
  generalize sumL zs1 = v at *
  clear hC1 hs hT h1 he
  have HB0 := hid (Below.refl w.heap.size w)
  go_enter Tryd.func11, Tryd.ntmps11
  go_wp2_with fail
  refine (HC1.out.run _ HB0.out).mono ?_; rintro e w1 ⟨A1, c1, rfl, ho, hb⟩
  have HB1 := hid (below_call HB0.out hb HB0.out.size)
  have S1_1 := hid (Sl.of_own ho)
  clear hb ho
  go_wp2_with fail
  refine (HE.out _ _ _ HB1.out S1_1.out).mono ?_; rintro e w2 ⟨rfl, hb⟩
  have HB2 := hid (below_call HB1.out hb HB1.out.size)
  have S1_2 := hid (S1_1.out.below hb)
  clear hb
  clear S1_1 S1_2
  go_wp2_with fail
  refine (HC1.out.run _ HB2.out).mono ?_; rintro e w3 ⟨A3, c3, rfl, ho, hb⟩
  have HB3 := hid (below_call HB2.out hb HB2.out.size)
  have S2_3 := hid (Sl.of_own ho)
  clear hb ho
  go_wp2_with fail
  refine (HP.out _ _ _ HB3.out S2_3.out).mono ?_; rintro e w4 ⟨⟨ps, G, hfr, hor⟩, hb⟩
  have HB4 := hid (below_call HB3.out hb HB3.out.size)
  have S2_4 := hid (S2_3.out.below hb)
  clear hb
  clear S2_3 S2_4
  have hpl := HLN.out ps G hfr
  rcases hor with ⟨hpt, A', c', rfl, ho⟩ | ⟨hnp, hst, rfl⟩
  · exfalso
    have := (HAS.out ps G hfr hpt).2
    have := HX.out
    omega
  · clear hnp hst hfr
    go_wp2_with fail
    refine (HC1.out.run _ HB4.out).mono ?_; rintro e w5 ⟨A5, c5, rfl, ho, hb⟩
    have HB5 := hid (below_call HB4.out hb HB4.out.size)
    have S3_5 := hid (Sl.of_own ho)
    clear hb ho
    go_wp2_with fail
    refine (HS.out _ _ _ HB5.out S3_5.out).mono ?_; rintro e w6 ⟨rfl, hb⟩
    have HB6 := hid (below_call HB5.out hb HB5.out.size)
    have S3_6 := hid (S3_5.out.below hb)
    clear hb
    clear S3_5 S3_6
    go_wp2_with fail
    refine (HF.out _ HB6.out).mono ?_; rintro e w7 ⟨rfl, hb⟩
    have HB7 := hid (below_call HB6.out hb HB6.out.size)
    clear hb
    go_wp2_with fail
    refine (HAW.out _ HB7.out).mono ?_; rintro e w8 ⟨rfl, hb⟩
    have HB8 := hid (below_call HB7.out hb HB7.out.size)
    clear hb
    go_wp2
    go_ret
    exact ⟨rfl, HB8.out⟩


set_option maxRecDepth 100000 in
set_option maxHeartbeats 4000000 in
theorem evadeAway_f (w : World) (hT : Tab w) (n : Nat) (A : Option Addr) (k c : Nat) (xs : List Int) (hs : Sl w A k c (xs.map (Value.int .i64))) (h1 : Fam n xs) (he : earlyB n xs = false) :
    Calls Tryd.prog 11 #[.int .i64 n, .slice A k c] w fun e w' => e = .returned (.bool true) ∧ Below w.heap.size w w' := by
  obtain ⟨m1, zs1, hC1⟩ := cp_of hs
  obtain ⟨rfl, rfl⟩ := hC1.same ⟨_, h1⟩
  have HC1 := hid hC1
  have hxl := hs.numlen
  have h64 := h1.len64
  have HAW := hid fun W (hb : Below w.heap.size w W) => awakeF W (hT.below hb)
  have HF := hid fun W (hb : Below w.heap.size w W) => familyYes n A m1 c zs1 W (hs.below hb) h1
  have HE := hid fun A' c' W (hb : Below w.heap.size w W) (s1 : Sl W A' m1 c' (zs1.map (Value.int .i64))) => earlyYes n A' m1 c' zs1 W s1 (hT.below hb) h1
  have HP := hid fun A' c' W (hb : Below w.heap.size w W) (s1 : Sl W A' m1 c' (zs1.map (Value.int .i64))) => foldingYes n A' m1 c' zs1 W s1 (hT.below hb) h1
  have HS := hid fun A' c' W (hb : Below w.heap.size w W) (s1 : Sl W A' m1 c' (zs1.map (Value.int .i64))) => sumYes n A' m1 c' zs1 W s1 (hT.below hb) h1
  have HFD := hid fun A' c' X' k' d' qs W (hb : Below w.heap.size w W) (s1 : Sl W A' m1 c' (zs1.map (Value.int .i64))) (s2 : Sl2 W X' k' d' qs) => foldsYes n A' m1 c' zs1 X' k' d' qs W s1 s2 (hT.below hb) h1
  have HAS := hid fun ps G (hr : FRun (setF zs1) ps G) hp => away_sums h1 hr hp
  have HLN := hid fun ps G (hr : FRun (setF zs1) ps G) => hr.len (fs_of h1)
  rw [he] at HE
  have HX := hid hxl
  generalize setF zs1 = F0 at *
  generalize sumL zs1 = v at *
  clear hC1 hs hT h1 he
  have HB0 := hid (Below.refl w.heap.size w)
  go_enter Tryd.func11, Tryd.ntmps11
  go_wp2_with fail
  refine (HC1.out.run _ HB0.out).mono ?_; rintro e w1 ⟨A1, c1, rfl, ho, hb⟩
  have HB1 := hid (below_call HB0.out hb HB0.out.size)
  have S1_1 := hid (Sl.of_own ho)
  clear hb ho
  go_wp2_with fail
  refine (HE.out _ _ _ HB1.out S1_1.out).mono ?_; rintro e w2 ⟨rfl, hb⟩
  have HB2 := hid (below_call HB1.out hb HB1.out.size)
  have S1_2 := hid (S1_1.out.below hb)
  clear hb
  clear S1_1 S1_2
  go_wp2_with fail
  refine (HC1.out.run _ HB2.out).mono ?_; rintro e w3 ⟨A3, c3, rfl, ho, hb⟩
  have HB3 := hid (below_call HB2.out hb HB2.out.size)
  have S2_3 := hid (Sl.of_own ho)
  clear hb ho
  go_wp2_with fail
  refine (HP.out _ _ _ HB3.out S2_3.out).mono ?_; rintro e w4 ⟨⟨ps, G, hfr, hor⟩, hb⟩
  have HB4 := hid (below_call HB3.out hb HB3.out.size)
  have S2_4 := hid (S2_3.out.below hb)
  clear hb
  clear S2_3 S2_4
  have hpl := HLN.out ps G hfr
  rcases hor with ⟨hpt, A', c', rfl, ho⟩ | ⟨hnp, hst, rfl⟩
  · obtain ⟨hv, hL⟩ := HAS.out ps G hfr hpt
    subst hv
    have q3 : ((m1 : Int) == 2 + 2 * (ps.length : Int)) = true := by rw [beq_iff_eq]; have := HX.out; omega
    have q4 : (m1 == 2 + 2 * ps.length) = true := by rw [beq_iff_eq]; have := HX.out; omega
    have SP_4 := hid (Sl2.of_own ho)
    have HPT := hid hpt
    have HFR := hid hfr
    clear ho hpt hL
    go_wp2_with fail
    refine (HC1.out.run _ HB4.out).mono ?_; rintro e w5 ⟨A5, c5, rfl, ho, hb⟩
    have HB5 := hid (below_call HB4.out hb HB4.out.size)
    have SP_5 := hid (SP_4.out.below hb)
    have S3_5 := hid (Sl.of_own ho)
    clear hb ho
    go_wp2_with fail
    refine (HS.out _ _ _ HB5.out S3_5.out).mono ?_; rintro e w6 ⟨rfl, hb⟩
    have HB6 := hid (below_call HB5.out hb HB5.out.size)
    have SP_6 := hid (SP_5.out.below hb)
    have S3_6 := hid (S3_5.out.below hb)
    clear hb
    clear S3_5 S3_6
    go_wp2_with fail
    refine (HF.out _ HB6.out).mono ?_; rintro e w7 ⟨rfl, hb⟩
    have HB7 := hid (below_call HB6.out hb HB6.out.size)
    have SP_7 := hid (SP_6.out.below hb)
    clear hb
    go_wp2_with fail
    refine (HC1.out.run _ HB7.out).mono ?_; rintro e w8 ⟨A8, c8, rfl, ho, hb⟩
    have HB8 := hid (below_call HB7.out hb HB7.out.size)
    have SP_8 := hid (SP_7.out.below hb)
    have S4_8 := hid (Sl.of_own ho)
    clear hb ho
    go_wp2_with fail
    refine (clonePairs _ _ _ _ (by omega) _ SP_8.out).mono ?_; rintro e w9 ⟨A9, c9, rfl, h2, hb⟩
    have HB9 := hid (below_call HB8.out hb HB8.out.size)
    have SP_9 := hid (SP_8.out.below hb)
    have S4_9 := hid (S4_8.out.below hb)
    have SQ_9 := hid (h2)
    clear hb h2
    go_wp2_with fail
    refine (HFD.out _ _ _ _ _ _ _ HB9.out S4_9.out SQ_9.out).mono ?_; rintro e w10 ⟨⟨b, rfl, hbb⟩, hb⟩
    have HB10 := hid (below_call HB9.out hb HB9.out.size)
    have SP_10 := hid (SP_9.out.below hb)
    have S4_10 := hid (S4_9.out.below hb)
    have SQ_10 := hid (SQ_9.out.below hb)
    obtain rfl : b = true := hbb.2 ⟨G, HFR.out, HPT.out⟩
    clear hbb
    clear hb
    go_wp2_with fail
    refine (HAW.out _ HB10.out).mono ?_; rintro e w11 ⟨rfl, hb⟩
    have HB11 := hid (below_call HB10.out hb HB10.out.size)
    have SP_11 := hid (SP_10.out.below hb)
    have S4_11 := hid (S4_10.out.below hb)
    have SQ_11 := hid (SQ_10.out.below hb)
    clear hb
    go_wp2
    go_ret
    exact ⟨rfl, HB11.out⟩

  · clear hnp hst hfr
    go_wp2_with fail
    refine (HC1.out.run _ HB4.out).mono ?_; rintro e w5 ⟨A5, c5, rfl, ho, hb⟩
    have HB5 := hid (below_call HB4.out hb HB4.out.size)
    have S3_5 := hid (Sl.of_own ho)
    clear hb ho
    go_wp2_with fail
    refine (HS.out _ _ _ HB5.out S3_5.out).mono ?_; rintro e w6 ⟨rfl, hb⟩
    have HB6 := hid (below_call HB5.out hb HB5.out.size)
    have S3_6 := hid (S3_5.out.below hb)
    clear hb
    clear S3_5 S3_6
    go_wp2_with fail
    refine (HF.out _ HB6.out).mono ?_; rintro e w7 ⟨rfl, hb⟩
    have HB7 := hid (below_call HB6.out hb HB6.out.size)
    clear hb
    go_wp2_with fail
    refine (HAW.out _ HB7.out).mono ?_; rintro e w8 ⟨rfl, hb⟩
    have HB8 := hid (below_call HB7.out hb HB7.out.size)
    clear hb
    go_wp2
    go_ret
    exact ⟨rfl, HB8.out⟩


theorem evadeAway_walk (w : World) (hT : Tab w) (n : Int) (_ : (Lit.int .i64 n).wf = true) (A : Option Addr) (k c : Nat) (xs : List Int) (hs : Sl w A k c (xs.map (Value.int .i64))) (_ : ∀ x ∈ xs, -9223372036854775808 ≤ x ∧ x ≤ 9223372036854775807) :
    Calls Tryd.prog 11 #[.int .i64 n, .slice A k c] w fun e w' => e = .returned (.bool true) ∧ Below w.heap.size w w' := by
  by_cases h1 : Fam n xs
  · obtain ⟨n, rfl⟩ := Int.eq_ofNat_of_zero_le (show 0 ≤ n by have := h1.n1; omega)
    cases he : earlyB n xs
    · exact evadeAway_f w hT n A k c xs hs h1 he
    · rcases Nat.eq_zero_or_pos k with hk | hk
      · exact evadeAway_z w hT n A k c xs hs h1 he hk
      · exact evadeAway_t w hT n A k c xs hs h1 he hk
  · exact evadeAway_bad w hT n A k c xs hs h1
end Go.Proofs.YtjddbglbodkihaaDoor
