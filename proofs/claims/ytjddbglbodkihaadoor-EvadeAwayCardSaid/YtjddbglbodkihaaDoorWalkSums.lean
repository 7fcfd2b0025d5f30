/- Walk of the law EvadeSums. Condition: the table of the library stands. -/
import Derived.Test.YtjddbglbodkihaaDoorDualW
import Derived.Test.YtjddbglbodkihaaDoorWalkJoins
namespace Go.Proofs.YtjddbglbodkihaaDoor
open Go.RowKit

theorem Fam.bd64 {n : Nat} {l : List Int} (h : Fam n l) : ∀ s ∈ l, 0 ≤ s ∧ s < 64 := fun s hs => by
  have h1 := h.nlt hs
  have h2 := two6 h.n6n
  omega
theorem Fam.len64 {n : Nat} {l : List Int} (h : Fam n l) : l.length ≤ 64 := (SetsP.of_fam h).len

set_option maxRecDepth 100000 in
set_option maxHeartbeats 4000000 in
theorem evadeSums_bad (w : World) (hT : Tab w) (n : Int) (A : Option Addr) (k c : Nat) (xs : List Int) (hs : Sl w A k c (xs.map (Value.int .i64))) (h1 : ¬ Fam n xs) :
    Calls Tryd.prog 5 #[.int .i64 n, .slice A k c] w fun e w' => e = .returned (.bool true) ∧ Below w.heap.size w w' := by
  obtain ⟨m1, zs1, hC1⟩ := cp_of hs
  have HC1 := hid hC1
  have HAW := hid fun W (hb : Below w.heap.size w W) => awakeF W (hT.below hb)
  have HS := hid fun A' c' W (hb : Below w.heap.size w W) (s1 : Sl W A' m1 c' (zs1.map (Value.int .i64))) => sumNo n A' m1 c' zs1 W s1 (hT.below hb) (by rw [hC1.fam]; exact h1)
  have HD := hid fun A' c' W (hb : Below w.heap.size w W) (s1 : Sl W A' m1 c' (zs1.map (Value.int .i64))) => dualNo n A' m1 c' zs1 W s1 (hT.below hb) (by rw [hC1.fam]; exact h1)
  have HF := hid fun W (hb : Below w.heap.size w W) => familyNo n A k c xs W (hs.below hb) h1
  clear hC1 hs hT h1
  have HB0 := hid (Below.refl w.heap.size w)
  go_enter Tryd.func5, Tryd.ntmps5
  go_wp2_with fail
  refine (HC1.out.run _ HB0.out).mono ?_; rintro e w1 ⟨A1, c1, rfl, ho, hb⟩
  have HB1 := hid (below_call HB0.out hb HB0.out.size)
  have S1_1 := hid (Sl.of_own ho)
  clear hb ho
  go_wp2_with fail
  refine (HS.out _ _ _ HB1.out S1_1.out).mono ?_; rintro e w2 ⟨rfl, hb⟩
  have HB2 := hid (below_call HB1.out hb HB1.out.size)
  have S1_2 := hid (S1_1.out.below hb)
  clear hb
  clear S1_1 S1_2
  go_wp2_with fail
  refine (HC1.out.run _ HB2.out).mono ?_; rintro e w3 ⟨A3, c3, rfl, ho, hb⟩
  have HB3 := hid (below_call HB2.out hb HB2.out.size)
  have S2_3 := hid (Sl.of_own ho)
  clear hb ho
  go_wp2_with fail
  refine (HD.out _ _ _ HB3.out S2_3.out).mono ?_; rintro e w4 ⟨rfl, hb⟩
  have HB4 := hid (below_call HB3.out hb HB3.out.size)
  have S2_4 := hid (S2_3.out.below hb)
  clear hb
  clear S2_3 S2_4
  go_wp2_with fail
  refine (HF.out _ HB4.out).mono ?_; rintro e w5 ⟨rfl, hb⟩
  have HB5 := hid (below_call HB4.out hb HB4.out.size)
  clear hb
  go_wp2_with fail
  refine (HAW.out _ HB5.out).mono ?_; rintro e w6 ⟨rfl, hb⟩
  have HB6 := hid (below_call HB5.out hb HB5.out.size)
  clear hb
  go_wp2
  go_ret
  exact ⟨rfl, HB6.out⟩


set_option maxRecDepth 100000 in
set_option maxHeartbeats 4000000 in
theorem evadeSums_good (w : World) (hT : Tab w) (n : Nat) (A : Option Addr) (k c : Nat) (xs : List Int) (hs : Sl w A k c (xs.map (Value.int .i64))) (h1 : Fam n xs) :
    Calls Tryd.prog 5 #[.int .i64 n, .slice A k c] w fun e w' => e = .returned (.bool true) ∧ Below w.heap.size w w' := by
  obtain ⟨m1, zs1, hC1⟩ := cp_of hs
  obtain ⟨rfl, rfl⟩ := hC1.same ⟨_, h1⟩
  have HC1 := hid hC1
  have hl := hs.numlen
  have h64 := h1.len64
  have HAW := hid fun W (hb : Below w.heap.size w W) => awakeF W (hT.below hb)
  have HS := hid fun A' c' W (hb : Below w.heap.size w W) (s1 : Sl W A' m1 c' (zs1.map (Value.int .i64))) => sumYes n A' m1 c' zs1 W s1 (hT.below hb) h1
  have HD := hid fun A' c' W (hb : Below w.heap.size w W) (s1 : Sl W A' m1 c' (zs1.map (Value.int .i64))) => dualYes n A' m1 c' zs1 W s1 (hT.below hb) h1
  have HF := hid fun W (hb : Below w.heap.size w W) => familyYes n A m1 c zs1 W (hs.below hb) h1
  have HRS := hid fun W (hb : Below w.heap.size w W) => refSum A m1 c zs1 W (hs.below hb) h1.bd64 (by omega)
  have HRD := hid fun W (hb : Below w.heap.size w W) => refDual n A m1 c zs1 W (hs.below hb) h1
  generalize famL (2 ^ n) (dualP n (setF zs1).testBit) = l at *
  generalize sumL zs1 = v at *
  have q1 : (v == v) = true := by simp
  have HE := hid fun A' B' k1 c1 k2 d1 W (s1 : Sl W A' k1 c1 (l.map (Value.int .i64))) s2 => equalYes' A' B' k1 c1 k2 d1 l W s1 s2
  clear hC1 hs hT h1 hl h64
  have HB0 := hid (Below.refl w.heap.size w)
  go_enter Tryd.func5, Tryd.ntmps5
  go_wp2_with fail
  refine (HC1.out.run _ HB0.out).mono ?_; rintro e w1 ⟨A1, c1, rfl, ho, hb⟩
  have HB1 := hid (below_call HB0.out hb HB0.out.size)
  have S1_1 := hid (Sl.of_own ho)
  clear hb ho
  go_wp2_with fail
  refine (HS.out _ _ _ HB1.out S1_1.out).mono ?_; rintro e w2 ⟨rfl, hb⟩
  have HB2 := hid (below_call HB1.out hb HB1.out.size)
  have S1_2 := hid (S1_1.out.below hb)
  clear hb
  clear S1_1 S1_2
  go_wp2_with fail
  refine (HC1.out.run _ HB2.out).mono ?_; rintro e w3 ⟨A3, c3, rfl, ho, hb⟩
  have HB3 := hid (below_call HB2.out hb HB2.out.size)
  have S2_3 := hid (Sl.of_own ho)
  clear hb ho
  go_wp2_with fail
  refine (HD.out _ _ _ HB3.out S2_3.out).mono ?_; rintro e w4 ⟨A4, c4, l4, rfl, ho, hb⟩
  have HB4 := hid (below_call HB3.out hb HB3.out.size)
  have S2_4 := hid (S2_3.out.below hb)
  have SD_4 := hid (Sl.of_own ho)
  clear hb ho
  clear S2_3 S2_4
  go_wp2_with fail
  refine (HF.out _ HB4.out).mono ?_; rintro e w5 ⟨rfl, hb⟩
  have HB5 := hid (below_call HB4.out hb HB4.out.size)
  have SD_5 := hid (SD_4.out.below hb)
  clear hb
  go_wp2_with fail
  refine (HRS.out _ HB5.out).mono ?_; rintro e w' ⟨rfl, rfl⟩
  go_wp2_with fail
  refine (HRD.out _ HB5.out).mono ?_; rintro e w6 ⟨A6, c6, l6, rfl, ho, hb⟩
  have HB6 := hid (below_call HB5.out hb HB5.out.size)
  have SD_6 := hid (SD_5.out.below hb)
  have SE_6 := hid (Sl.of_own ho)
  clear hb ho
  go_wp2_with fail
  refine (HE.out _ _ _ _ _ _ _ SD_6.out SE_6.out).mono ?_; rintro e w7 ⟨rfl, hb⟩
  have HB7 := hid (below_call HB6.out hb HB6.out.size)
  have SD_7 := hid (SD_6.out.below hb)
  have SE_7 := hid (SE_6.out.below hb)
  clear hb
  go_wp2_with fail
  refine (HAW.out _ HB7.out).mono ?_; rintro e w8 ⟨rfl, hb⟩
  have HB8 := hid (below_call HB7.out hb HB7.out.size)
  have SD_8 := hid (SD_7.out.below hb)
  have SE_8 := hid (SE_7.out.below hb)
  clear hb
  go_wp2
  go_ret
  exact ⟨rfl, HB8.out⟩


theorem evadeSums_walk (w : World) (hT : Tab w) (n : Int) (_ : (Lit.int .i64 n).wf = true) (A : Option Addr) (k c : Nat) (xs : List Int) (hs : Sl w A k c (xs.map (Value.int .i64))) (_ : ∀ x ∈ xs, -9223372036854775808 ≤ x ∧ x ≤ 9223372036854775807) :
    Calls Tryd.prog 5 #[.int .i64 n, .slice A k c] w fun e w' => e = .returned (.bool true) ∧ Below w.heap.size w w' := by
  by_cases h1 : Fam n xs
  · obtain ⟨n, rfl⟩ := Int.eq_ofNat_of_zero_le (show 0 ≤ n by have := h1.n1; omega)
    exact evadeSums_good w hT n A k c xs hs h1
  · exact evadeSums_bad w hT n A k c xs hs h1
end Go.Proofs.YtjddbglbodkihaaDoor
