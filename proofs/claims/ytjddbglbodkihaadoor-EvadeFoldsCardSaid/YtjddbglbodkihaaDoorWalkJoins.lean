/- Walk of the law EvadeJoins. Condition: the table of the library stands. -/
import Derived.Test.YtjddbglbodkihaaDoorJoinW
import Derived.Test.YtjddbglbodkihaaDoorAskP
namespace Go.Proofs.YtjddbglbodkihaaDoor
open Go.RowKit

theorem fam_take {n : Int} {xs : List Int} {k : Nat} (hl : xs.length = k) : Fam n (xs.take (min k 70)) ↔ Fam n xs := by
  by_cases h : k ≤ 70
  · rw [Nat.min_eq_left h, List.take_of_length_le (by omega)]
  · rw [Nat.min_eq_right (by omega)]
    constructor
    · intro H
      have := (SetsP.of_fam H).len
      simp at this; omega
    · intro H
      have := (SetsP.of_fam H).len
      omega
theorem fam_cut {n : Int} {xs : List Int} {k : Nat} (hl : xs.length = k) (H : Fam n xs) : xs.take (min k 70) = xs ∧ min k 70 = k := by
  have := (SetsP.of_fam H).len
  exact ⟨List.take_of_length_le (by omega), by omega⟩
theorem equalYes (A B : Option Addr) (n c d : Nat) (xs : List Int) (W : World) (hs : Sl W A n c (xs.map (Value.int .i64))) (ht : Sl W B n d (xs.map (Value.int .i64))) :
    Calls Tryd.prog 19 #[.slice A n c, .slice B n d] W fun e w' => e = .returned (.bool true) ∧ Below W.heap.size W w' := by
  have e := equalInts A B n c n d xs xs W hs ht
  rwa [show decide (xs = xs) = true from decide_eq_true rfl] at e
theorem equalYes' (A B : Option Addr) (n c m d : Nat) (xs : List Int) (W : World) (hs : Sl W A n c (xs.map (Value.int .i64))) (ht : Sl W B m d (xs.map (Value.int .i64))) :
    Calls Tryd.prog 19 #[.slice A n c, .slice B m d] W fun e w' => e = .returned (.bool true) ∧ Below W.heap.size W w' := by
  have e := equalInts A B n c m d xs xs W hs ht
  rwa [show decide (xs = xs) = true from decide_eq_true rfl] at e
/-- The law's copy of a slice. -/
structure Cp (w : World) (A : Option Addr) (n c : Nat) (xs : List Int) (m : Nat) (ys : List Int) : Prop where
  run : ∀ W, Below w.heap.size w W → Calls Tryd.prog 16 #[.slice A n c] W fun e w' => ∃ A' c', e = .returned (.slice A' m c') ∧ w'.ownsRow W.heap.size 3 1 (.slice A' m c') m (ys.map (Value.int .i64)) ∧ Below W.heap.size W w'
  fam : ∀ p, Fam p ys ↔ Fam p xs
  same : (∃ p, Fam p xs) → ys = xs ∧ m = n
theorem cp_of {w : World} {A : Option Addr} {n c : Nat} {xs : List Int} (hs : Sl w A n c (xs.map (Value.int .i64))) : ∃ m ys, Cp w A n c xs m ys :=
  ⟨min n 70, xs.take (min n 70), fun W hW => lawList A n c xs W (hs.below hW), fun _ => fam_take hs.numlen, fun ⟨_, h⟩ => fam_cut hs.numlen h⟩

set_option maxRecDepth 100000 in
set_option maxHeartbeats 4000000 in
theorem evadeJoins_f (w : World) (hT : Tab w) (n m : Int) (A : Option Addr) (k c : Nat) (xs : List Int) (hs : Sl w A k c (xs.map (Value.int .i64))) (A2 : Option Addr) (k2 c2 : Nat) (ys : List Int) (ht : Sl w A2 k2 c2 (ys.map (Value.int .i64))) (H : ¬ (Fam n xs ∧ Fam m ys ∧ (n : Int) + m ≤ 6)) (h1 : ¬ Fam n xs) :
    Calls Tryd.prog 3 #[.int .i64 n, .int .i64 m, .slice A k c, .slice A2 k2 c2] w fun e w' => e = .returned (.bool true) ∧ Below w.heap.size w w' := by
  obtain ⟨m1, zs1, hC1⟩ := cp_of hs
  obtain ⟨m2, zs2, hC2⟩ := cp_of ht
  have HC1 := hid hC1; have HC2 := hid hC2
  have HAW := hid fun W (hb : Below w.heap.size w W) => awakeF W (hT.below hb)
  have HJ := hid fun A' c' A'' c'' W (hb : Below w.heap.size w W) (s1 : Sl W A' m1 c' (zs1.map (Value.int .i64))) (s2 : Sl W A'' m2 c'' (zs2.map (Value.int .i64))) => joinNo n m A' A'' m1 c' m2 c'' zs1 zs2 W s1 s2 (hT.below hb) (by rw [hC1.fam, hC2.fam]; exact H)
  have HF1 := hid fun W (hb : Below w.heap.size w W) => familyNo n A k c xs W (hs.below hb) h1
  clear hC1 hC2 hs ht hT H h1
  have HB0 := hid (Below.refl w.heap.size w)
  go_enter Tryd.func3, Tryd.ntmps3
  go_wp2_with fail
  refine (HC1.out.run _ HB0.out).mono ?_; rintro e w1 ⟨A1, c1, rfl, ho, hb⟩
  have HB1 := hid (below_call HB0.out hb HB0.out.size)
  have S1_1 := hid (Sl.of_own ho)
  clear hb ho
  go_wp2_with fail
  refine (HC2.out.run _ HB1.out).mono ?_; rintro e w2 ⟨A2, c2, rfl, ho, hb⟩
  have HB2 := hid (below_call HB1.out hb HB1.out.size)
  have S1_2 := hid (S1_1.out.below hb)
  have S2_2 := hid (Sl.of_own ho)
  clear hb ho
  go_wp2_with fail
  refine (HJ.out _ _ _ _ _ HB2.out S1_2.out S2_2.out).mono ?_; rintro e w3 ⟨rfl, hb⟩
  have HB3 := hid (below_call HB2.out hb HB2.out.size)
  have S1_3 := hid (S1_2.out.below hb)
  have S2_3 := hid (S2_2.out.below hb)
  clear hb
  clear S1_1 S1_2 S1_3
  clear S2_2 S2_3
  go_wp2_with fail
  refine (HF1.out _ HB3.out).mono ?_; rintro e w4 ⟨rfl, hb⟩
  have HB4 := hid (below_call HB3.out hb HB3.out.size)
  clear hb
  go_wp2_with fail
  refine (HAW.out _ HB4.out).mono ?_; rintro e w5 ⟨rfl, hb⟩
  have HB5 := hid (below_call HB4.out hb HB4.out.size)
  clear hb
  go_wp2
  go_ret
  exact ⟨rfl, HB5.out⟩


set_option maxRecDepth 100000 in
set_option maxHeartbeats 4000000 in
theorem evadeJoins_g (w : World) (hT : Tab w) (n : Nat) (m : Int) (A : Option Addr) (k c : Nat) (xs : List Int) (hs : Sl w A k c (xs.map (Value.int .i64))) (A2 : Option Addr) (k2 c2 : Nat) (ys : List Int) (ht : Sl w A2 k2 c2 (ys.map (Value.int .i64))) (H : ¬ (Fam n xs ∧ Fam m ys ∧ (n : Int) + m ≤ 6)) (h1 : Fam n xs) (h2 : ¬ Fam m ys) :
    Calls Tryd.prog 3 #[.int .i64 n, .int .i64 m, .slice A k c, .slice A2 k2 c2] w fun e w' => e = .returned (.bool true) ∧ Below w.heap.size w w' := by
  obtain ⟨m1, zs1, hC1⟩ := cp_of hs
  obtain ⟨m2, zs2, hC2⟩ := cp_of ht
  have HC1 := hid hC1; have HC2 := hid hC2
  have HAW := hid fun W (hb : Below w.heap.size w W) => awakeF W (hT.below hb)
  have HJ := hid fun A' c' A'' c'' W (hb : Below w.heap.size w W) (s1 : Sl W A' m1 c' (zs1.map (Value.int .i64))) (s2 : Sl W A'' m2 c'' (zs2.map (Value.int .i64))) => joinNo n m A' A'' m1 c' m2 c'' zs1 zs2 W s1 s2 (hT.below hb) (by rw [hC1.fam, hC2.fam]; exact H)
  have HF1 := hid fun W (hb : Below w.heap.size w W) => familyYes n A k c xs W (hs.below hb) h1
  have HF2 := hid fun W (hb : Below w.heap.size w W) => familyNo m A2 k2 c2 ys W (ht.below hb) h2
  clear hC1 hC2 hs ht hT H h1 h2
  have HB0 := hid (Below.refl w.heap.size w)
  go_enter Tryd.func3, Tryd.ntmps3
  go_wp2_with fail
  refine (HC1.out.run _ HB0.out).mono ?_; rintro e w1 ⟨A1, c1, rfl, ho, hb⟩
  have HB1 := hid (below_call HB0.out hb HB0.out.size)
  have S1_1 := hid (Sl.of_own ho)
  clear hb ho
  go_wp2_with fail
  refine (HC2.out.run _ HB1.out).mono ?_; rintro e w2 ⟨A2, c2, rfl, ho, hb⟩
  have HB2 := hid (below_call HB1.out hb HB1.out.size)
  have S1_2 := hid (S1_1.out.below hb)
  have S2_2 := hid (Sl.of_own ho)
  clear hb ho
  go_wp2_with fail
  refine (HJ.out _ _ _ _ _ HB2.out S1_2.out S2_2.out).mono ?_; rintro e w3 ⟨rfl, hb⟩
  have HB3 := hid (below_call HB2.out hb HB2.out.size)
  have S1_3 := hid (S1_2.out.below hb)
  have S2_3 := hid (S2_2.out.below hb)
  clear hb
  clear S1_1 S1_2 S1_3
  clear S2_2 S2_3
  go_wp2_with fail
  refine (HF1.out _ HB3.out).mono ?_; rintro e w4 ⟨rfl, hb⟩
  have HB4 := hid (below_call HB3.out hb HB3.out.size)
  clear hb
  go_wp2_with fail
  refine (HF2.out _ HB4.out).mono ?_; rintro e w5 ⟨rfl, hb⟩
  have HB5 := hid (below_call HB4.out hb HB4.out.size)
  clear hb
  go_wp2_with fail
  refine (HAW.out _ HB5.out).mono ?_; rintro e w6 ⟨rfl, hb⟩
  have HB6 := hid (below_call HB5.out hb HB5.out.size)
  clear hb
  go_wp2
  go_ret
  exact ⟨rfl, HB6.out⟩


set_option maxRecDepth 100000 in
set_option maxHeartbeats 4000000 in
theorem evadeJoins_s (w : World) (hT : Tab w) (n m : Nat) (A : Option Addr) (k c : Nat) (xs : List Int) (hs : Sl w A k c (xs.map (Value.int .i64))) (A2 : Option Addr) (k2 c2 : Nat) (ys : List Int) (ht : Sl w A2 k2 c2 (ys.map (Value.int .i64))) (H : ¬ (Fam n xs ∧ Fam m ys ∧ (n : Int) + m ≤ 6)) (h1 : Fam n xs) (h2 : Fam m ys) (h3 : 6 < (n : Int) + m) :
    Calls Tryd.prog 3 #[.int .i64 n, .int .i64 m, .slice A k c, .slice A2 k2 c2] w fun e w' => e = .returned (.bool true) ∧ Below w.heap.size w w' := by
  obtain ⟨m1, zs1, hC1⟩ := cp_of hs
  obtain ⟨m2, zs2, hC2⟩ := cp_of ht
  have HC1 := hid hC1; have HC2 := hid hC2
  have HAW := hid fun W (hb : Below w.heap.size w W) => awakeF W (hT.below hb)
  have HJ := hid fun A' c' A'' c'' W (hb : Below w.heap.size w W) (s1 : Sl W A' m1 c' (zs1.map (Value.int .i64))) (s2 : Sl W A'' m2 c'' (zs2.map (Value.int .i64))) => joinNo n m A' A'' m1 c' m2 c'' zs1 zs2 W s1 s2 (hT.below hb) (by rw [hC1.fam, hC2.fam]; exact H)
  have HF1 := hid fun W (hb : Below w.heap.size w W) => familyYes n A k c xs W (hs.below hb) h1
  have HF2 := hid fun W (hb : Below w.heap.size w W) => familyYes m A2 k2 c2 ys W (ht.below hb) h2
  have g1 := h1.n6; have g2 := h2.n6
  have q1 : decide (6 < (n : Int) + m) = true := decide_eq_true h3
  have q2 : 6 < (n : Int) + m := h3
  clear hC1 hC2 hs ht hT H h1 h2 h3
  have HB0 := hid (Below.refl w.heap.size w)
  go_enter Tryd.func3, Tryd.ntmps3
  go_wp2_with fail
  refine (HC1.out.run _ HB0.out).mono ?_; rintro e w1 ⟨A1, c1, rfl, ho, hb⟩
  have HB1 := hid (below_call HB0.out hb HB0.out.size)
  have S1_1 := hid (Sl.of_own ho)
  clear hb ho
  go_wp2_with fail
  refine (HC2.out.run _ HB1.out).mono ?_; rintro e w2 ⟨A2, c2, rfl, ho, hb⟩
  have HB2 := hid (below_call HB1.out hb HB1.out.size)
  have S1_2 := hid (S1_1.out.below hb)
  have S2_2 := hid (Sl.of_own ho)
  clear hb ho
  go_wp2_with fail
  refine (HJ.out _ _ _ _ _ HB2.out S1_2.out S2_2.out).mono ?_; rintro e w3 ⟨rfl, hb⟩
  have HB3 := hid (below_call HB2.out hb HB2.out.size)
  have S1_3 := hid (S1_2.out.below hb)
  have S2_3 := hid (S2_2.out.below hb)
  clear hb
  clear S1_1 S1_2 S1_3
  clear S2_2 S2_3
  go_wp2_with fail
  refine (HF1.out _ HB3.out).mono ?_; rintro e w4 ⟨rfl, hb⟩
  have HB4 := hid (below_call HB3.out hb HB3.out.size)
  clear hb
  go_wp2_with fail
  refine (HF2.out _ HB4.out).mono ?_; rintro e w5 ⟨rfl, hb⟩
  have HB5 := hid (below_call HB4.out hb HB4.out.size)
  clear hb
  go_wp2_with fail
  refine (HAW.out _ HB5.out).mono ?_; rintro e w6 ⟨rfl, hb⟩
  have HB6 := hid (below_call HB5.out hb HB5.out.size)
  clear hb
  go_wp2
  go_ret
  exact ⟨rfl, HB6.out⟩


set_option maxRecDepth 100000 in
set_option maxHeartbeats 4000000 in
theorem evadeJoins_good (w : World) (hT : Tab w) (n m : Nat) (A : Option Addr) (k c : Nat) (xs : List Int) (hs : Sl w A k c (xs.map (Value.int .i64))) (A2 : Option Addr) (k2 c2 : Nat) (ys : List Int) (ht : Sl w A2 k2 c2 (ys.map (Value.int .i64))) (h1 : Fam n xs) (h2 : Fam m ys) (h3 : n + m ≤ 6) :
    Calls Tryd.prog 3 #[.int .i64 n, .int .i64 m, .slice A k c, .slice A2 k2 c2] w fun e w' => e = .returned (.bool true) ∧ Below w.heap.size w w' := by
  obtain ⟨m1, zs1, hC1⟩ := cp_of hs
  obtain ⟨m2, zs2, hC2⟩ := cp_of ht
  have HC1 := hid hC1; have HC2 := hid hC2
  have HAW := hid fun W (hb : Below w.heap.size w W) => awakeF W (hT.below hb)
  obtain ⟨rfl, rfl⟩ := hC1.same ⟨_, h1⟩
  obtain ⟨rfl, rfl⟩ := hC2.same ⟨_, h2⟩
  have HJ := hid fun A' c' A'' c'' W (hb : Below w.heap.size w W) (s1 : Sl W A' m1 c' (zs1.map (Value.int .i64))) (s2 : Sl W A'' m2 c'' (zs2.map (Value.int .i64))) => joinYes n m A' A'' m1 c' m2 c'' zs1 zs2 W s1 s2 (hT.below hb) h1 h2 h3
  have HR := hid fun W (hb : Below w.heap.size w W) => refJoin n m A A2 m1 c m2 c2 zs1 zs2 W (hs.below hb) (ht.below hb) h1 h2 h3
  have HF1 := hid fun W (hb : Below w.heap.size w W) => familyYes n A m1 c zs1 W (hs.below hb) h1
  have HF2 := hid fun W (hb : Below w.heap.size w W) => familyYes m A2 m2 c2 zs2 W (ht.below hb) h2
  have q1 : decide (6 < (n : Int) + m) = false := decide_eq_false (by omega)
  have q2 : (n : Int) + m ≤ 6 := by omega
  generalize famL (2 ^ (n + m)) (joinP n (setF zs1) (setF zs2)) = l at *
  have HE := hid fun A' B' k1 c1 k2 d1 W (s1 : Sl W A' k1 c1 (l.map (Value.int .i64))) s2 => equalYes' A' B' k1 c1 k2 d1 l W s1 s2
  clear hC1 hC2 hs ht hT h1 h2 h3
  have HB0 := hid (Below.refl w.heap.size w)
  go_enter Tryd.func3, Tryd.ntmps3
  go_wp2_with fail
  refine (HC1.out.run _ HB0.out).mono ?_; rintro e w1 ⟨A1, c1, rfl, ho, hb⟩
  have HB1 := hid (below_call HB0.out hb HB0.out.size)
  have S1_1 := hid (Sl.of_own ho)
  clear hb ho
  go_wp2_with fail
  refine (HC2.out.run _ HB1.out).mono ?_; rintro e w2 ⟨A2, c2, rfl, ho, hb⟩
  have HB2 := hid (below_call HB1.out hb HB1.out.size)
  have S1_2 := hid (S1_1.out.below hb)
  have S2_2 := hid (Sl.of_own ho)
  clear hb ho
  go_wp2_with fail
  refine (HJ.out _ _ _ _ _ HB2.out S1_2.out S2_2.out).mono ?_; rintro e w3 ⟨A3, c3, l3, rfl, ho, hb⟩
  have HB3 := hid (below_call HB2.out hb HB2.out.size)
  have S1_3 := hid (S1_2.out.below hb)
  have S2_3 := hid (S2_2.out.below hb)
  have S3_3 := hid (Sl.of_own ho)
  clear hb ho
  clear S1_1 S1_2 S1_3
  clear S2_2 S2_3
  go_wp2_with fail
  refine (HF1.out _ HB3.out).mono ?_; rintro e w4 ⟨rfl, hb⟩
  have HB4 := hid (below_call HB3.out hb HB3.out.size)
  have S3_4 := hid (S3_3.out.below hb)
  clear hb
  go_wp2_with fail
  refine (HF2.out _ HB4.out).mono ?_; rintro e w5 ⟨rfl, hb⟩
  have HB5 := hid (below_call HB4.out hb HB4.out.size)
  have S3_5 := hid (S3_4.out.below hb)
  clear hb
  go_wp2_with fail
  refine (HR.out _ HB5.out).mono ?_; rintro e w6 ⟨A6, c6, l6, rfl, ho, hb⟩
  have HB6 := hid (below_call HB5.out hb HB5.out.size)
  have S3_6 := hid (S3_5.out.below hb)
  have S4_6 := hid (Sl.of_own ho)
  clear hb ho
  go_wp2_with fail
  refine (HE.out _ _ _ _ _ _ _ S3_6.out S4_6.out).mono ?_; rintro e w7 ⟨rfl, hb⟩
  have HB7 := hid (below_call HB6.out hb HB6.out.size)
  have S3_7 := hid (S3_6.out.below hb)
  have S4_7 := hid (S4_6.out.below hb)
  clear hb
  go_wp2_with fail
  refine (HAW.out _ HB7.out).mono ?_; rintro e w8 ⟨rfl, hb⟩
  have HB8 := hid (below_call HB7.out hb HB7.out.size)
  have S3_8 := hid (S3_7.out.below hb)
  have S4_8 := hid (S4_7.out.below hb)
  clear hb
  go_wp2
  go_ret
  exact ⟨rfl, HB8.out⟩


theorem evadeJoins_walk (w : World) (hT : Tab w) (n : Int) (_ : (Lit.int .i64 n).wf = true) (m : Int) (_ : (Lit.int .i64 m).wf = true) (A : Option Addr) (k c : Nat) (xs : List Int) (hs : Sl w A k c (xs.map (Value.int .i64))) (_ : ∀ x ∈ xs, -9223372036854775808 ≤ x ∧ x ≤ 9223372036854775807) (A2 : Option Addr) (k2 c2 : Nat) (ys : List Int) (ht : Sl w A2 k2 c2 (ys.map (Value.int .i64))) (_ : ∀ x ∈ ys, -9223372036854775808 ≤ x ∧ x ≤ 9223372036854775807) :
    Calls Tryd.prog 3 #[.int .i64 n, .int .i64 m, .slice A k c, .slice A2 k2 c2] w fun e w' => e = .returned (.bool true) ∧ Below w.heap.size w w' := by
  by_cases h1 : Fam n xs
  · obtain ⟨n, rfl⟩ := Int.eq_ofNat_of_zero_le (show 0 ≤ n by have := h1.n1; omega)
    by_cases h2 : Fam m ys
    · obtain ⟨m, rfl⟩ := Int.eq_ofNat_of_zero_le (show 0 ≤ m by have := h2.n1; omega)
      by_cases h3 : n + m ≤ 6
      · exact evadeJoins_good w hT n m A k c xs hs A2 k2 c2 ys ht h1 h2 h3
      · exact evadeJoins_s w hT n m A k c xs hs A2 k2 c2 ys ht (fun h => h3 (by have := h.2.2; omega)) h1 h2 (by omega)
    · exact evadeJoins_g w hT n m A k c xs hs A2 k2 c2 ys ht (fun h => h2 h.2.1) h1 h2
  · exact evadeJoins_f w hT n m A k c xs hs A2 k2 c2 ys ht (fun h => h1 h.1) h1
end Go.Proofs.YtjddbglbodkihaaDoor
