/- Walk of the law EvadeFolds. Condition: the table of the library stands. -/
import Derived.Test.YtjddbglbodkihaaDoorAw
import Derived.Test.YtjddbglbodkihaaDoorWalkJoins
namespace Go.Proofs.YtjddbglbodkihaaDoor
open Go.RowKit

theorem FRun.sub {F : Nat} (hF : FS F) {l : List (Int × Int)} {G : Nat} (h : FRun F l G) : ∀ u, G.testBit u = true → F.testBit u = true := by
  induction h with
  | nil => exact fun _ h => h
  | snoc hl hr ih => exact fun u hu => ih u (rem_sub (hl.fs hF) u hu)
theorem fa_stuck {F : Nat} (hF : FS F) {ps : List (Int × Int)} {G : Nat} (hr : FRun F ps G) (hs : ∀ s t, ¬ FR G s t) (hn : ¬ Point G.testBit) : ¬ FA F := by
  rintro ⟨qs, H, hq, hp⟩
  have h0 : H.testBit 0 = true := by
    obtain ⟨v, _, e⟩ := hp
    rw [e]; simp
  exact hn (stuck_point (hr.fs hF) ((hr.whole hF).1 ((hq.whole hF).2 hp.whole)) (hr.zero hF (hq.sub hF 0 h0)) hs)
theorem folds_take {F : Nat} (hF : FS F) {qs : List (Int × Int)} {k : Nat} (hk : qs.length = k) : (∃ G, FRun F (qs.take (min k 70)) G ∧ Point G.testBit) ↔ ∃ G, FRun F qs G ∧ Point G.testBit := by
  by_cases h : k ≤ 70
  · rw [Nat.min_eq_left h, List.take_of_length_le (by omega)]
  · constructor
    · rintro ⟨G, h1, _⟩
      have := h1.len hF
      rw [List.length_take] at this
      omega
    · rintro ⟨G, h1, _⟩
      have := h1.len hF
      omega

set_option maxRecDepth 100000 in
set_option maxHeartbeats 4000000 in
theorem evadeFolds_bad (w : World) (hT : Tab w) (n : Int) (A : Option Addr) (k c : Nat) (xs : List Int) (hs : Sl w A k c (xs.map (Value.int .i64))) (X : Option Addr) (k2 c2 : Nat) (qs : List (Int × Int)) (hq : Sl2 w X k2 c2 qs) (h1 : ¬ Fam n xs) :
    Calls Tryd.prog 10 #[.int .i64 n, .slice A k c, .slice X k2 c2] w fun e w' => e = .returned (.bool true) ∧ Below w.heap.size w w' := by
  obtain ⟨m1, zs1, hC1⟩ := cp_of hs
  have HC1 := hid hC1
  have HAW := hid fun W (hb : Below w.heap.size w W) => awakeF W (hT.below hb)
  have HLP := hid fun W (hb : Below w.heap.size w W) => lawPairs X k2 c2 qs W (hq.below hb)
  have HP := hid fun A' c' W (hb : Below w.heap.size w W) (s1 : Sl W A' m1 c' (zs1.map (Value.int .i64))) => foldingNo n A' m1 c' zs1 W s1 (hT.below hb) (by rw [hC1.fam]; exact h1)
  have HO := hid fun A' c' X' k' d' W (hb : Below w.heap.size w W) (s1 : Sl W A' m1 c' (zs1.map (Value.int .i64))) => foldsNo n A' m1 c' zs1 X' k' d' W s1 (hT.below hb) (by rw [hC1.fam]; exact h1)
  have HF := hid fun W (hb : Below w.heap.size w W) => familyNo n A k c xs W (hs.below hb) h1
  clear hC1 hs hT h1 hq
  have HB0 := hid (Below.refl w.heap.size w)
  go_enter Tryd.func10, Tryd.ntmps10
  go_wp2_with fail
  refine (HC1.out.run _ HB0.out).mono ?_; rintro e w1 ⟨A1, c1, rfl, ho, hb⟩
  have HB1 := hid (below_call HB0.out hb HB0.out.size)
  have S1_1 := hid (Sl.of_own ho)
  clear hb ho
  go_wp2_with fail
  refine (HP.out _ _ _ HB1.out S1_1.out).mono ?_; rintro e w2 ⟨rfl, hb⟩
  have HB2 := hid (below_call HB1.out hb HB1.out.size)
  have S1_2 := hid (S1_1.out.below hb)
  clear hb
  clear S1_1 S1_2
  go_wp2_with fail
  refine (HC1.out.run _ HB2.out).mono ?_; rintro e w3 ⟨A3, c3, rfl, ho, hb⟩
  have HB3 := hid (below_call HB2.out hb HB2.out.size)
  have S2_3 := hid (Sl.of_own ho)
  clear hb ho
  go_wp2_with fail
  refine (HLP.out _ HB3.out).mono ?_; rintro e w4 ⟨A4, c4, rfl, hsl, hb⟩
  have HB4 := hid (below_call HB3.out hb HB3.out.size)
  have S2_4 := hid (S2_3.out.below hb)
  have SP_4 := hid (hsl)
  clear hb hsl
  go_wp2_with fail
  refine (HO.out _ _ _ _ _ _ HB4.out S2_4.out).mono ?_; rintro e w5 ⟨rfl, hb⟩
  have HB5 := hid (below_call HB4.out hb HB4.out.size)
  have S2_5 := hid (S2_4.out.below hb)
  have SP_5 := hid (SP_4.out.below hb)
  clear hb
  clear S2_3 S2_4 S2_5
  clear SP_4 SP_5
  go_wp2_with fail
  refine (HF.out _ HB5.out).mono ?_; rintro e w6 ⟨rfl, hb⟩
  have HB6 := hid (below_call HB5.out hb HB5.out.size)
  clear hb
  go_wp2_with fail
  refine (HAW.out _ HB6.out).mono ?_; rintro e w7 ⟨rfl, hb⟩
  have HB7 := hid (below_call HB6.out hb HB6.out.size)
  clear hb
  go_wp2
  go_ret
  exact ⟨rfl, HB7.out⟩


set_option maxRecDepth 100000 in
set_option maxHeartbeats 4000000 in
theorem evadeFolds_yes (w : World) (hT : Tab w) (n : Nat) (A : Option Addr) (k c : Nat) (xs : List Int) (hs : Sl w A k c (xs.map (Value.int .i64))) (X : Option Addr) (k2 c2 : Nat) (qs : List (Int × Int)) (hq : Sl2 w X k2 c2 qs) (h1 : Fam n xs) :
    Calls Tryd.prog 10 #[.int .i64 n, .slice A k c, .slice X k2 c2] w fun e w' => e = .returned (.bool true) ∧ Below w.heap.size w w' := by
  obtain ⟨m1, zs1, hC1⟩ := cp_of hs
  obtain ⟨rfl, rfl⟩ := hC1.same ⟨_, h1⟩
  have HC1 := hid hC1
  have hf := fs_of h1
  have HAW := hid fun W (hb : Below w.heap.size w W) => awakeF W (hT.below hb)
  have HLP := hid fun W (hb : Below w.heap.size w W) => lawPairs X k2 c2 qs W (hq.below hb)
  have HQ := hid fun W (hb : Below w.heap.size w W) => hq.below hb
  have HP := hid fun A' c' W (hb : Below w.heap.size w W) (s1 : Sl W A' m1 c' (zs1.map (Value.int .i64))) => foldingYes n A' m1 c' zs1 W s1 (hT.below hb) h1
  have HO := hid fun A' c' X' k' d' ps W (hb : Below w.heap.size w W) (s1 : Sl W A' m1 c' (zs1.map (Value.int .i64))) (s2 : Sl2 W X' k' d' ps) => foldsYes n A' m1 c' zs1 X' k' d' ps W s1 s2 (hT.below hb) h1
  have HRO := hid fun X' k' d' ps W (hb : Below w.heap.size w W) (s2 : Sl2 W X' k' d' ps) => refFoldsL n A m1 c zs1 X' k' d' ps W (hs.below hb) s2 h1
  have HRA := hid fun W (hb : Below w.heap.size w W) => refAway n A m1 c zs1 W (hs.below hb) h1
  have HF := hid fun W (hb : Below w.heap.size w W) => familyYes n A m1 c zs1 W (hs.below hb) h1
  have HTK := hid (folds_take hf hq.len)
  have HST := hid fun ps G (hr : FRun (setF zs1) ps G) hst hn => fa_stuck hf hr hst hn
  have HLN := hid fun ps G (hr : FRun (setF zs1) ps G) => hr.len hf
  generalize setF zs1 = F0 at *
  clear hC1 hs hT h1 hf hq
  have HB0 := hid (Below.refl w.heap.size w)
  go_enter Tryd.func10, Tryd.ntmps10
  go_wp2_with fail
  refine (HC1.out.run _ HB0.out).mono ?_; rintro e w1 ⟨A1, c1, rfl, ho, hb⟩
  have HB1 := hid (below_call HB0.out hb HB0.out.size)
  have S1_1 := hid (Sl.of_own ho)
  clear hb ho
  go_wp2_with fail
  refine (HP.out _ _ _ HB1.out S1_1.out).mono ?_; rintro e w2 ⟨⟨ps, G, hfr, hor⟩, hb⟩
  have HB2 := hid (below_call HB1.out hb HB1.out.size)
  have S1_2 := hid (S1_1.out.below hb)
  clear hb
  clear S1_1 S1_2
  have hpl := HLN.out ps G hfr
  rcases hor with ⟨hpt, A', c', rfl, ho⟩ | ⟨hnp, hst, rfl⟩
  · have SA_2 := hid (Sl2.of_own ho)
    have HPT := hid hpt
    have HFR := hid hfr
    have HFA : Hid (FA F0) := hid ⟨ps, G, hfr, hpt⟩
    clear ho hpt hfr
    go_wp2_with fail
    refine (HC1.out.run _ HB2.out).mono ?_; rintro e w3 ⟨A3, c3, rfl, ho, hb⟩
    have HB3 := hid (below_call HB2.out hb HB2.out.size)
    have SA_3 := hid (SA_2.out.below hb)
    have S2_3 := hid (Sl.of_own ho)
    clear hb ho
    go_wp2_with fail
    refine (HLP.out _ HB3.out).mono ?_; rintro e w4 ⟨A4, c4, rfl, hsl, hb⟩
    have HB4 := hid (below_call HB3.out hb HB3.out.size)
    have SA_4 := hid (SA_3.out.below hb)
    have S2_4 := hid (S2_3.out.below hb)
    have SP_4 := hid (hsl)
    clear hb hsl
    go_wp2_with fail
    refine (HO.out _ _ _ _ _ _ _ HB4.out S2_4.out SP_4.out).mono ?_; rintro e w5 ⟨⟨b, rfl, hbb⟩, hb⟩
    have HB5 := hid (below_call HB4.out hb HB4.out.size)
    have SA_5 := hid (SA_4.out.below hb)
    have S2_5 := hid (S2_4.out.below hb)
    have SP_5 := hid (SP_4.out.below hb)
    have HBB := hid hbb
    clear hbb
    clear hb
    clear S2_3 S2_4 S2_5
    clear SP_4 SP_5
    go_wp2_with fail
    refine (HF.out _ HB5.out).mono ?_; rintro e w6 ⟨rfl, hb⟩
    have HB6 := hid (below_call HB5.out hb HB5.out.size)
    have SA_6 := hid (SA_5.out.below hb)
    clear hb
    go_wp2_with fail
    refine (HRO.out _ _ _ _ _ HB6.out (HQ.out _ HB6.out)).mono ?_; rintro e w7 ⟨⟨d, rfl, hdd⟩, hb⟩
    have HB7 := hid (below_call HB6.out hb HB6.out.size)
    have SA_7 := hid (SA_6.out.below hb)
    obtain rfl : b = d := by rw [Bool.eq_iff_iff, HBB.out, hdd]; exact HTK.out
    clear hdd
    clear hb
    go_wp2_with fail
    refine (HAW.out _ HB7.out).mono ?_; rintro e w8 ⟨rfl, hb⟩
    have HB8 := hid (below_call HB7.out hb HB7.out.size)
    have SA_8 := hid (SA_7.out.below hb)
    clear hb
    go_wp2_with fail
    refine (HRA.out _ HB8.out).mono ?_; rintro e w9 ⟨⟨a, rfl, haa⟩, hb⟩
    have HB9 := hid (below_call HB8.out hb HB8.out.size)
    have SA_9 := hid (SA_8.out.below hb)
    obtain rfl : a = true := haa.2 HFA.out
    clear haa
    clear hb
    go_wp2_with fail
    refine (HRO.out _ _ _ _ _ HB9.out SA_9.out).mono ?_; rintro e w10 ⟨⟨a, rfl, haa⟩, hb⟩
    have HB10 := hid (below_call HB9.out hb HB9.out.size)
    have SA_10 := hid (SA_9.out.below hb)
    obtain rfl : a = true := haa.2 ⟨G, HFR.out, HPT.out⟩
    clear haa
    clear hb
    go_wp2
    go_ret
    exact ⟨rfl, HB10.out⟩

  · have HFA : Hid (¬ FA F0) := hid (HST.out ps G hfr hst hnp)
    clear hnp hst hfr hpl
    go_wp2_with fail
    refine (HC1.out.run _ HB2.out).mono ?_; rintro e w3 ⟨A3, c3, rfl, ho, hb⟩
    have HB3 := hid (below_call HB2.out hb HB2.out.size)
    have S2_3 := hid (Sl.of_own ho)
    clear hb ho
    go_wp2_with fail
    refine (HLP.out _ HB3.out).mono ?_; rintro e w4 ⟨A4, c4, rfl, hsl, hb⟩
    have HB4 := hid (below_call HB3.out hb HB3.out.size)
    have S2_4 := hid (S2_3.out.below hb)
    have SP_4 := hid (hsl)
    clear hb hsl
    go_wp2_with fail
    refine (HO.out _ _ _ _ _ _ _ HB4.out S2_4.out SP_4.out).mono ?_; rintro e w5 ⟨⟨b, rfl, hbb⟩, hb⟩
    have HB5 := hid (below_call HB4.out hb HB4.out.size)
    have S2_5 := hid (S2_4.out.below hb)
    have SP_5 := hid (SP_4.out.below hb)
    have HBB := hid hbb
    clear hbb
    clear hb
    clear S2_3 S2_4 S2_5
    clear SP_4 SP_5
    go_wp2_with fail
    refine (HF.out _ HB5.out).mono ?_; rintro e w6 ⟨rfl, hb⟩
    have HB6 := hid (below_call HB5.out hb HB5.out.size)
    clear hb
    go_wp2_with fail
    refine (HRO.out _ _ _ _ _ HB6.out (HQ.out _ HB6.out)).mono ?_; rintro e w7 ⟨⟨d, rfl, hdd⟩, hb⟩
    have HB7 := hid (below_call HB6.out hb HB6.out.size)
    obtain rfl : b = d := by rw [Bool.eq_iff_iff, HBB.out, hdd]; exact HTK.out
    clear hdd
    clear hb
    go_wp2_with fail
    refine (HAW.out _ HB7.out).mono ?_; rintro e w8 ⟨rfl, hb⟩
    have HB8 := hid (below_call HB7.out hb HB7.out.size)
    clear hb
    go_wp2_with fail
    refine (HRA.out _ HB8.out).mono ?_; rintro e w9 ⟨⟨a, rfl, haa⟩, hb⟩
    have HB9 := hid (below_call HB8.out hb HB8.out.size)
    obtain rfl : a = false := by cases a; rfl; exact absurd (haa.1 rfl) HFA.out
    clear haa
    clear hb
    go_wp2
    go_ret
    exact ⟨rfl, HB9.out⟩


theorem evadeFolds_walk (w : World) (hT : Tab w) (n : Int) (_ : (Lit.int .i64 n).wf = true) (A : Option Addr) (k c : Nat) (xs : List Int) (hs : Sl w A k c (xs.map (Value.int .i64))) (_ : ∀ x ∈ xs, -9223372036854775808 ≤ x ∧ x ≤ 9223372036854775807) (X : Option Addr) (k2 c2 : Nat) (qs : List (Int × Int)) (hq : Sl2 w X k2 c2 qs) :
    Calls Tryd.prog 10 #[.int .i64 n, .slice A k c, .slice X k2 c2] w fun e w' => e = .returned (.bool true) ∧ Below w.heap.size w w' := by
  by_cases h1 : Fam n xs
  · obtain ⟨n, rfl⟩ := Int.eq_ofNat_of_zero_le (show 0 ≤ n by have := h1.n1; omega)
    exact evadeFolds_yes w hT n A k c xs hs X k2 c2 qs hq h1
  · exact evadeFolds_bad w hT n A k c xs hs X k2 c2 qs hq h1
end Go.Proofs.YtjddbglbodkihaaDoor
