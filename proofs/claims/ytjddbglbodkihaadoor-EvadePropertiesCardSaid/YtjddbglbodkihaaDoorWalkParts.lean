/- Walk of the law EvadeParts. Condition: the table of the library stands. -/
import Derived.Test.YtjddbglbodkihaaDoorRefP
import Derived.Test.YtjddbglbodkihaaDoorWalkJoins
namespace Go.Proofs.YtjddbglbodkihaaDoor
open Go.RowKit

theorem sets_take {n : Int} {xs : List Int} {k : Nat} (hl : xs.length = k) : SetsP n (xs.take (min k 70)) ↔ SetsP n xs := by
  by_cases h : k ≤ 70
  · rw [Nat.min_eq_left h, List.take_of_length_le (by omega)]
  · rw [Nat.min_eq_right (by omega)]
    constructor
    · intro H
      have := H.len
      simp at this; omega
    · intro H
      have := H.len
      omega
/-- The law's copy of a slice of sets. -/
structure CpS (w : World) (A : Option Addr) (n c : Nat) (xs : List Int) (m : Nat) (ys : List Int) : Prop where
  run : ∀ W, Below w.heap.size w W → Calls Tryd.prog 16 #[.slice A n c] W fun e w' => ∃ A' c', e = .returned (.slice A' m c') ∧ w'.ownsRow W.heap.size 3 1 (.slice A' m c') m (ys.map (Value.int .i64)) ∧ Below W.heap.size W w'
  sets : ∀ p, SetsP p ys ↔ SetsP p xs
  same : (∃ p, SetsP p xs) → ys = xs ∧ m = n
theorem cps_of {w : World} {A : Option Addr} {n c : Nat} {xs : List Int} (hs : Sl w A n c (xs.map (Value.int .i64))) : ∃ m ys, CpS w A n c xs m ys :=
  ⟨min n 70, xs.take (min n 70), fun W hW => lawList A n c xs W (hs.below hW), fun _ => sets_take hs.numlen, fun ⟨_, h⟩ => by
    have h1 := h.len
    have h2 := hs.numlen
    exact ⟨List.take_of_length_le (by omega), by omega⟩⟩

set_option maxRecDepth 100000 in
set_option maxHeartbeats 4000000 in
theorem evadeParts_12 (w : World) (hT : Tab w) (n : Nat) (A : Option Addr) (k c : Nat) (xs : List Int) (hs : Sl w A k c (xs.map (Value.int .i64))) (A2 : Option Addr) (k2 c2 : Nat) (ys : List Int) (ht : Sl w A2 k2 c2 (ys.map (Value.int .i64))) (x : Nat) (h1 : SetsP n xs) (h2 : Fam n ys) (h3 : x < n) :
    Calls Tryd.prog 4 #[.int .i64 n, .slice A k c, .slice A2 k2 c2, .int .i64 x] w fun e w' => e = .returned (.bool true) ∧ Below w.heap.size w w' := by
  obtain ⟨m1, zs1, hC1⟩ := cps_of hs
  obtain ⟨m2, zs2, hC2⟩ := cp_of ht
  obtain ⟨rfl, rfl⟩ := hC1.same ⟨_, h1⟩
  have HCL := hid fun A' c' W (hb : Below w.heap.size w W) (s1 : Sl W A' m1 c' (zs1.map (Value.int .i64))) => closeYes n A' m1 c' zs1 W s1 (hT.below hb) h1
  have HST := hid fun W (hb : Below w.heap.size w W) => setsYes n A m1 c zs1 W (hs.below hb) h1
  have HRC := hid fun W (hb : Below w.heap.size w W) => refClose n A m1 c zs1 W (hs.below hb) h1
  generalize famL (2 ^ n) (partsR zs1) = la at *
  have HEA := hid fun A' B' k1 c1 k2 d1 W (s1 : Sl W A' k1 c1 (la.map (Value.int .i64))) s2 => equalYes' A' B' k1 c1 k2 d1 la W s1 s2
  obtain ⟨rfl, rfl⟩ := hC2.same ⟨_, h2⟩
  have h5 : x ≤ 5 := by have := h2.n6n; omega
  have hle := h2.n6n
  have hl64 : m2 ≤ 64 := by have := (SetsP.of_fam h2).len; have := ht.numlen; omega
  have h64 := two6 hle
  have HLK := hid fun A' c' W (hb : Below w.heap.size w W) (s1 : Sl W A' m2 c' (zs2.map (Value.int .i64))) => linkYes n x A' m2 c' zs2 W s1 (hT.below hb) h2 h3
  have HWO := hid fun A' c' W (hb : Below w.heap.size w W) (s1 : Sl W A' m2 c' (zs2.map (Value.int .i64))) => withoutYes n x A' m2 c' zs2 W s1 (hT.below hb) h2 h3
  have HF := hid fun W (hb : Below w.heap.size w W) => familyYes n A2 m2 c2 zs2 W (ht.below hb) h2
  have q1 : (decide (0 ≤ (x : Int)) && decide ((x : Int) < n)) = true := by rw [decide_eq_true (show (0 : Int) ≤ x by omega), decide_eq_true (show (x : Int) < n by omega)]; rfl
  have HEL := hid fun W => elementF n x W
  rw [q1] at HEL
  have HRL := hid fun W (hb : Below w.heap.size w W) => refLink A2 m2 c2 zs2 x W (ht.below hb) (fun s hs => by have := h2.nlt hs; omega) h5 hl64
  have HRO := hid fun W (hb : Below w.heap.size w W) => refOut A2 m2 c2 zs2 x W (ht.below hb) (fun s hs => by have := h2.nlt hs; omega) h5 hl64
  rw [out_ref h2] at HRO
  rw [link_ref h2 h3] at HRL
  generalize famL (2 ^ n) (linkP x (setF zs2)) = lb at *
  generalize famL (2 ^ n) (outP x (setF zs2)) = lc at *
  have HEB := hid fun A' B' k1 c1 k2 d1 W (s1 : Sl W A' k1 c1 (lb.map (Value.int .i64))) s2 => equalYes' A' B' k1 c1 k2 d1 lb W s1 s2
  have HEC := hid fun A' B' k1 c1 k2 d1 W (s1 : Sl W A' k1 c1 (lc.map (Value.int .i64))) s2 => equalYes' A' B' k1 c1 k2 d1 lc W s1 s2
  have HC1 := hid hC1; have HC2 := hid hC2
  have HAW := hid fun W (hb : Below w.heap.size w W) => awakeF W (hT.below hb)
  clear hC1 hC2 hs ht hT h1 h2 h3 h5 hl64 h64 hle q1
  have HB0 := hid (Below.refl w.heap.size w)
  go_enter Tryd.func4, Tryd.ntmps4
  go_wp2_with fail
  refine (HC1.out.run _ HB0.out).mono ?_; rintro e w1 ⟨A1, c1, rfl, ho, hb⟩
  have HB1 := hid (below_call HB0.out hb HB0.out.size)
  have S1_1 := hid (Sl.of_own ho)
  clear hb ho
  go_wp2_with fail
  refine (HCL.out _ _ _ HB1.out S1_1.out).mono ?_; rintro e w2 ⟨A2, c2, l2, rfl, ho, hb⟩
  have HB2 := hid (below_call HB1.out hb HB1.out.size)
  have S1_2 := hid (S1_1.out.below hb)
  have SA_2 := hid (Sl.of_own ho)
  clear hb ho
  clear S1_1 S1_2
  go_wp2_with fail
  refine (HC2.out.run _ HB2.out).mono ?_; rintro e w3 ⟨A3, c3, rfl, ho, hb⟩
  have HB3 := hid (below_call HB2.out hb HB2.out.size)
  have SA_3 := hid (SA_2.out.below hb)
  have S2_3 := hid (Sl.of_own ho)
  clear hb ho
  go_wp2_with fail
  refine (HLK.out _ _ _ HB3.out S2_3.out).mono ?_; rintro e w4 ⟨A4, c4, l4, rfl, ho, hb⟩
  have HB4 := hid (below_call HB3.out hb HB3.out.size)
  have SA_4 := hid (SA_3.out.below hb)
  have S2_4 := hid (S2_3.out.below hb)
  have SB_4 := hid (Sl.of_own ho)
  clear hb ho
  clear S2_3 S2_4
  go_wp2_with fail
  refine (HC2.out.run _ HB4.out).mono ?_; rintro e w5 ⟨A5, c5, rfl, ho, hb⟩
  have HB5 := hid (below_call HB4.out hb HB4.out.size)
  have SA_5 := hid (SA_4.out.below hb)
  have SB_5 := hid (SB_4.out.below hb)
  have S3_5 := hid (Sl.of_own ho)
  clear hb ho
  go_wp2_with fail
  refine (HWO.out _ _ _ HB5.out S3_5.out).mono ?_; rintro e w6 ⟨A6, c6, l6, rfl, ho, hb⟩
  have HB6 := hid (below_call HB5.out hb HB5.out.size)
  have SA_6 := hid (SA_5.out.below hb)
  have SB_6 := hid (SB_5.out.below hb)
  have S3_6 := hid (S3_5.out.below hb)
  have SC_6 := hid (Sl.of_own ho)
  clear hb ho
  clear S3_5 S3_6
  go_wp2_with fail
  refine (HST.out _ HB6.out).mono ?_; rintro e w' ⟨rfl, rfl⟩
  go_wp2_with fail
  refine (HRC.out _ HB6.out).mono ?_; rintro e w7 ⟨A7, c7, l7, rfl, ho, hb⟩
  have HB7 := hid (below_call HB6.out hb HB6.out.size)
  have SA_7 := hid (SA_6.out.below hb)
  have SB_7 := hid (SB_6.out.below hb)
  have SC_7 := hid (SC_6.out.below hb)
  have SD_7 := hid (Sl.of_own ho)
  clear hb ho
  go_wp2_with fail
  refine (HEA.out _ _ _ _ _ _ _ SA_7.out SD_7.out).mono ?_; rintro e w8 ⟨rfl, hb⟩
  have HB8 := hid (below_call HB7.out hb HB7.out.size)
  have SA_8 := hid (SA_7.out.below hb)
  have SB_8 := hid (SB_7.out.below hb)
  have SC_8 := hid (SC_7.out.below hb)
  have SD_8 := hid (SD_7.out.below hb)
  clear hb
  clear SA_2 SA_3 SA_4 SA_5 SA_6 SA_7 SA_8
  clear SD_7 SD_8
  go_wp2_with fail
  refine (HF.out _ HB8.out).mono ?_; rintro e w9 ⟨rfl, hb⟩
  have HB9 := hid (below_call HB8.out hb HB8.out.size)
  have SB_9 := hid (SB_8.out.below hb)
  have SC_9 := hid (SC_8.out.below hb)
  clear hb
  go_wp2_with fail
  refine (HEL.out _).mono ?_; rintro e w' ⟨rfl, rfl⟩
  go_wp2_with fail
  refine (HRL.out _ HB9.out).mono ?_; rintro e w10 ⟨A10, c10, l10, rfl, ho, hb⟩
  have HB10 := hid (below_call HB9.out hb HB9.out.size)
  have SB_10 := hid (SB_9.out.below hb)
  have SC_10 := hid (SC_9.out.below hb)
  have SD_10 := hid (Sl.of_own ho)
  clear hb ho
  go_wp2_with fail
  refine (HEB.out _ _ _ _ _ _ _ SB_10.out SD_10.out).mono ?_; rintro e w11 ⟨rfl, hb⟩
  have HB11 := hid (below_call HB10.out hb HB10.out.size)
  have SB_11 := hid (SB_10.out.below hb)
  have SC_11 := hid (SC_10.out.below hb)
  have SD_11 := hid (SD_10.out.below hb)
  clear hb
  clear SB_4 SB_5 SB_6 SB_7 SB_8 SB_9 SB_10 SB_11
  clear SD_10 SD_11
  go_wp2_with fail
  refine (HRO.out _ HB11.out).mono ?_; rintro e w12 ⟨A12, c12, l12, rfl, ho, hb⟩
  have HB12 := hid (below_call HB11.out hb HB11.out.size)
  have SC_12 := hid (SC_11.out.below hb)
  have SE_12 := hid (Sl.of_own ho)
  clear hb ho
  go_wp2_with fail
  refine (HEC.out _ _ _ _ _ _ _ SC_12.out SE_12.out).mono ?_; rintro e w13 ⟨rfl, hb⟩
  have HB13 := hid (below_call HB12.out hb HB12.out.size)
  have SC_13 := hid (SC_12.out.below hb)
  have SE_13 := hid (SE_12.out.below hb)
  clear hb
  clear SC_6 SC_7 SC_8 SC_9 SC_10 SC_11 SC_12 SC_13
  clear SE_12 SE_13
  go_wp2_with fail
  refine (HAW.out _ HB13.out).mono ?_; rintro e w14 ⟨rfl, hb⟩
  have HB14 := hid (below_call HB13.out hb HB13.out.size)
  clear hb
  go_wp2
  go_ret
  exact ⟨rfl, HB14.out⟩


set_option maxRecDepth 100000 in
set_option maxHeartbeats 4000000 in
theorem evadeParts_11 (w : World) (hT : Tab w) (n : Nat) (A : Option Addr) (k c : Nat) (xs : List Int) (hs : Sl w A k c (xs.map (Value.int .i64))) (A2 : Option Addr) (k2 c2 : Nat) (ys : List Int) (ht : Sl w A2 k2 c2 (ys.map (Value.int .i64))) (x : Int) (h1 : SetsP n xs) (h2 : Fam n ys) (h3 : ¬ (0 ≤ x ∧ x < (n : Int))) :
    Calls Tryd.prog 4 #[.int .i64 n, .slice A k c, .slice A2 k2 c2, .int .i64 x] w fun e w' => e = .returned (.bool true) ∧ Below w.heap.size w w' := by
  obtain ⟨m1, zs1, hC1⟩ := cps_of hs
  obtain ⟨m2, zs2, hC2⟩ := cp_of ht
  obtain ⟨rfl, rfl⟩ := hC1.same ⟨_, h1⟩
  have HCL := hid fun A' c' W (hb : Below w.heap.size w W) (s1 : Sl W A' m1 c' (zs1.map (Value.int .i64))) => closeYes n A' m1 c' zs1 W s1 (hT.below hb) h1
  have HST := hid fun W (hb : Below w.heap.size w W) => setsYes n A m1 c zs1 W (hs.below hb) h1
  have HRC := hid fun W (hb : Below w.heap.size w W) => refClose n A m1 c zs1 W (hs.below hb) h1
  generalize famL (2 ^ n) (partsR zs1) = la at *
  have HEA := hid fun A' B' k1 c1 k2 d1 W (s1 : Sl W A' k1 c1 (la.map (Value.int .i64))) s2 => equalYes' A' B' k1 c1 k2 d1 la W s1 s2
  have HLK := hid fun A' c' W (hb : Below w.heap.size w W) (s1 : Sl W A' m2 c' (zs2.map (Value.int .i64))) => linkNo n x A' m2 c' zs2 W s1 (hT.below hb) (by rw [hC2.fam]; exact fun h => h3 h.2)
  have HWO := hid fun A' c' W (hb : Below w.heap.size w W) (s1 : Sl W A' m2 c' (zs2.map (Value.int .i64))) => withoutNo n x A' m2 c' zs2 W s1 (hT.below hb) (by rw [hC2.fam]; exact fun h => h3 h.2)
  have HF := hid fun W (hb : Below w.heap.size w W) => familyYes n A2 k2 c2 ys W (ht.below hb) h2
  have q1 : (decide (0 ≤ x) && decide (x < (n : Int))) = false := by
    rw [Bool.and_eq_false_iff, decide_eq_false_iff_not, decide_eq_false_iff_not]; omega
  have HEL := hid fun W => elementF n x W
  rw [q1] at HEL
  have HC1 := hid hC1; have HC2 := hid hC2
  have HAW := hid fun W (hb : Below w.heap.size w W) => awakeF W (hT.below hb)
  clear hC1 hC2 hs ht hT h1 h2 h3 q1
  have HB0 := hid (Below.refl w.heap.size w)
  go_enter Tryd.func4, Tryd.ntmps4
  go_wp2_with fail
  refine (HC1.out.run _ HB0.out).mono ?_; rintro e w1 ⟨A1, c1, rfl, ho, hb⟩
  have HB1 := hid (below_call HB0.out hb HB0.out.size)
  have S1_1 := hid (Sl.of_own ho)
  clear hb ho
  go_wp2_with fail
  refine (HCL.out _ _ _ HB1.out S1_1.out).mono ?_; rintro e w2 ⟨A2, c2, l2, rfl, ho, hb⟩
  have HB2 := hid (below_call HB1.out hb HB1.out.size)
  have S1_2 := hid (S1_1.out.below hb)
  have SA_2 := hid (Sl.of_own ho)
  clear hb ho
  clear S1_1 S1_2
  go_wp2_with fail
  refine (HC2.out.run _ HB2.out).mono ?_; rintro e w3 ⟨A3, c3, rfl, ho, hb⟩
  have HB3 := hid (below_call HB2.out hb HB2.out.size)
  have SA_3 := hid (SA_2.out.below hb)
  have S2_3 := hid (Sl.of_own ho)
  clear hb ho
  go_wp2_with fail
  refine (HLK.out _ _ _ HB3.out S2_3.out).mono ?_; rintro e w4 ⟨rfl, hb⟩
  have HB4 := hid (below_call HB3.out hb HB3.out.size)
  have SA_4 := hid (SA_3.out.below hb)
  have S2_4 := hid (S2_3.out.below hb)
  clear hb
  clear S2_3 S2_4
  go_wp2_with fail
  refine (HC2.out.run _ HB4.out).mono ?_; rintro e w5 ⟨A5, c5, rfl, ho, hb⟩
  have HB5 := hid (below_call HB4.out hb HB4.out.size)
  have SA_5 := hid (SA_4.out.below hb)
  have S3_5 := hid (Sl.of_own ho)
  clear hb ho
  go_wp2_with fail
  refine (HWO.out _ _ _ HB5.out S3_5.out).mono ?_; rintro e w6 ⟨rfl, hb⟩
  have HB6 := hid (below_call HB5.out hb HB5.out.size)
  have SA_6 := hid (SA_5.out.below hb)
  have S3_6 := hid (S3_5.out.below hb)
  clear hb
  clear S3_5 S3_6
  go_wp2_with fail
  refine (HST.out _ HB6.out).mono ?_; rintro e w' ⟨rfl, rfl⟩
  go_wp2_with fail
  refine (HRC.out _ HB6.out).mono ?_; rintro e w7 ⟨A7, c7, l7, rfl, ho, hb⟩
  have HB7 := hid (below_call HB6.out hb HB6.out.size)
  have SA_7 := hid (SA_6.out.below hb)
  have SD_7 := hid (Sl.of_own ho)
  clear hb ho
  go_wp2_with fail
  refine (HEA.out _ _ _ _ _ _ _ SA_7.out SD_7.out).mono ?_; rintro e w8 ⟨rfl, hb⟩
  have HB8 := hid (below_call HB7.out hb HB7.out.size)
  have SA_8 := hid (SA_7.out.below hb)
  have SD_8 := hid (SD_7.out.below hb)
  clear hb
  clear SA_2 SA_3 SA_4 SA_5 SA_6 SA_7 SA_8
  clear SD_7 SD_8
  go_wp2_with fail
  refine (HF.out _ HB8.out).mono ?_; rintro e w9 ⟨rfl, hb⟩
  have HB9 := hid (below_call HB8.out hb HB8.out.size)
  clear hb
  go_wp2_with fail
  refine (HEL.out _).mono ?_; rintro e w' ⟨rfl, rfl⟩
  go_wp2_with fail
  refine (HAW.out _ HB9.out).mono ?_; rintro e w10 ⟨rfl, hb⟩
  have HB10 := hid (below_call HB9.out hb HB9.out.size)
  clear hb
  go_wp2
  go_ret
  exact ⟨rfl, HB10.out⟩


set_option maxRecDepth 100000 in
set_option maxHeartbeats 4000000 in
theorem evadeParts_10 (w : World) (hT : Tab w) (n : Nat) (A : Option Addr) (k c : Nat) (xs : List Int) (hs : Sl w A k c (xs.map (Value.int .i64))) (A2 : Option Addr) (k2 c2 : Nat) (ys : List Int) (ht : Sl w A2 k2 c2 (ys.map (Value.int .i64))) (x : Int) (h1 : SetsP n xs) (h2 : ¬ Fam n ys) :
    Calls Tryd.prog 4 #[.int .i64 n, .slice A k c, .slice A2 k2 c2, .int .i64 x] w fun e w' => e = .returned (.bool true) ∧ Below w.heap.size w w' := by
  obtain ⟨m1, zs1, hC1⟩ := cps_of hs
  obtain ⟨m2, zs2, hC2⟩ := cp_of ht
  obtain ⟨rfl, rfl⟩ := hC1.same ⟨_, h1⟩
  have HCL := hid fun A' c' W (hb : Below w.heap.size w W) (s1 : Sl W A' m1 c' (zs1.map (Value.int .i64))) => closeYes n A' m1 c' zs1 W s1 (hT.below hb) h1
  have HST := hid fun W (hb : Below w.heap.size w W) => setsYes n A m1 c zs1 W (hs.below hb) h1
  have HRC := hid fun W (hb : Below w.heap.size w W) => refClose n A m1 c zs1 W (hs.below hb) h1
  generalize famL (2 ^ n) (partsR zs1) = la at *
  have HEA := hid fun A' B' k1 c1 k2 d1 W (s1 : Sl W A' k1 c1 (la.map (Value.int .i64))) s2 => equalYes' A' B' k1 c1 k2 d1 la W s1 s2
  have HLK := hid fun A' c' W (hb : Below w.heap.size w W) (s1 : Sl W A' m2 c' (zs2.map (Value.int .i64))) => linkNo n x A' m2 c' zs2 W s1 (hT.below hb) (by rw [hC2.fam]; exact fun h => h2 h.1)
  have HWO := hid fun A' c' W (hb : Below w.heap.size w W) (s1 : Sl W A' m2 c' (zs2.map (Value.int .i64))) => withoutNo n x A' m2 c' zs2 W s1 (hT.below hb) (by rw [hC2.fam]; exact fun h => h2 h.1)
  have HF := hid fun W (hb : Below w.heap.size w W) => familyNo n A2 k2 c2 ys W (ht.below hb) h2
  have HC1 := hid hC1; have HC2 := hid hC2
  have HAW := hid fun W (hb : Below w.heap.size w W) => awakeF W (hT.below hb)
  clear hC1 hC2 hs ht hT h1 h2
  have HB0 := hid (Below.refl w.heap.size w)
  go_enter Tryd.func4, Tryd.ntmps4
  go_wp2_with fail
  refine (HC1.out.run _ HB0.out).mono ?_; rintro e w1 ⟨A1, c1, rfl, ho, hb⟩
  have HB1 := hid (below_call HB0.out hb HB0.out.size)
  have S1_1 := hid (Sl.of_own ho)
  clear hb ho
  go_wp2_with fail
  refine (HCL.out _ _ _ HB1.out S1_1.out).mono ?_; rintro e w2 ⟨A2, c2, l2, rfl, ho, hb⟩
  have HB2 := hid (below_call HB1.out hb HB1.out.size)
  have S1_2 := hid (S1_1.out.below hb)
  have SA_2 := hid (Sl.of_own ho)
  clear hb ho
  clear S1_1 S1_2
  go_wp2_with fail
  refine (HC2.out.run _ HB2.out).mono ?_; rintro e w3 ⟨A3, c3, rfl, ho, hb⟩
  have HB3 := hid (below_call HB2.out hb HB2.out.size)
  have SA_3 := hid (SA_2.out.below hb)
  have S2_3 := hid (Sl.of_own ho)
  clear hb ho
  go_wp2_with fail
  refine (HLK.out _ _ _ HB3.out S2_3.out).mono ?_; rintro e w4 ⟨rfl, hb⟩
  have HB4 := hid (below_call HB3.out hb HB3.out.size)
  have SA_4 := hid (SA_3.out.below hb)
  have S2_4 := hid (S2_3.out.below hb)
  clear hb
  clear S2_3 S2_4
  go_wp2_with fail
  refine (HC2.out.run _ HB4.out).mono ?_; rintro e w5 ⟨A5, c5, rfl, ho, hb⟩
  have HB5 := hid (below_call HB4.out hb HB4.out.size)
  have SA_5 := hid (SA_4.out.below hb)
  have S3_5 := hid (Sl.of_own ho)
  clear hb ho
  go_wp2_with fail
  refine (HWO.out _ _ _ HB5.out S3_5.out).mono ?_; rintro e w6 ⟨rfl, hb⟩
  have HB6 := hid (below_call HB5.out hb HB5.out.size)
  have SA_6 := hid (SA_5.out.below hb)
  have S3_6 := hid (S3_5.out.below hb)
  clear hb
  clear S3_5 S3_6
  go_wp2_with fail
  refine (HST.out _ HB6.out).mono ?_; rintro e w' ⟨rfl, rfl⟩
  go_wp2_with fail
  refine (HRC.out _ HB6.out).mono ?_; rintro e w7 ⟨A7, c7, l7, rfl, ho, hb⟩
  have HB7 := hid (below_call HB6.out hb HB6.out.size)
  have SA_7 := hid (SA_6.out.below hb)
  have SD_7 := hid (Sl.of_own ho)
  clear hb ho
  go_wp2_with fail
  refine (HEA.out _ _ _ _ _ _ _ SA_7.out SD_7.out).mono ?_; rintro e w8 ⟨rfl, hb⟩
  have HB8 := hid (below_call HB7.out hb HB7.out.size)
  have SA_8 := hid (SA_7.out.below hb)
  have SD_8 := hid (SD_7.out.below hb)
  clear hb
  clear SA_2 SA_3 SA_4 SA_5 SA_6 SA_7 SA_8
  clear SD_7 SD_8
  go_wp2_with fail
  refine (HF.out _ HB8.out).mono ?_; rintro e w9 ⟨rfl, hb⟩
  have HB9 := hid (below_call HB8.out hb HB8.out.size)
  clear hb
  go_wp2_with fail
  refine (HAW.out _ HB9.out).mono ?_; rintro e w10 ⟨rfl, hb⟩
  have HB10 := hid (below_call HB9.out hb HB9.out.size)
  clear hb
  go_wp2
  go_ret
  exact ⟨rfl, HB10.out⟩


set_option maxRecDepth 100000 in
set_option maxHeartbeats 4000000 in
theorem evadeParts_02 (w : World) (hT : Tab w) (n : Nat) (A : Option Addr) (k c : Nat) (xs : List Int) (hs : Sl w A k c (xs.map (Value.int .i64))) (A2 : Option Addr) (k2 c2 : Nat) (ys : List Int) (ht : Sl w A2 k2 c2 (ys.map (Value.int .i64))) (x : Nat) (h1 : ¬ SetsP n xs) (h2 : Fam n ys) (h3 : x < n) :
    Calls Tryd.prog 4 #[.int .i64 n, .slice A k c, .slice A2 k2 c2, .int .i64 x] w fun e w' => e = .returned (.bool true) ∧ Below w.heap.size w w' := by
  obtain ⟨m1, zs1, hC1⟩ := cps_of hs
  obtain ⟨m2, zs2, hC2⟩ := cp_of ht
  have HCL := hid fun A' c' W (hb : Below w.heap.size w W) (s1 : Sl W A' m1 c' (zs1.map (Value.int .i64))) => closeNo n A' m1 c' zs1 W s1 (by rw [hC1.sets]; exact h1)
  have HST := hid fun W (hb : Below w.heap.size w W) => setsNo n A k c xs W (hs.below hb) h1
  obtain ⟨rfl, rfl⟩ := hC2.same ⟨_, h2⟩
  have h5 : x ≤ 5 := by have := h2.n6n; omega
  have hle := h2.n6n
  have hl64 : m2 ≤ 64 := by have := (SetsP.of_fam h2).len; have := ht.numlen; omega
  have h64 := two6 hle
  have HLK := hid fun A' c' W (hb : Below w.heap.size w W) (s1 : Sl W A' m2 c' (zs2.map (Value.int .i64))) => linkYes n x A' m2 c' zs2 W s1 (hT.below hb) h2 h3
  have HWO := hid fun A' c' W (hb : Below w.heap.size w W) (s1 : Sl W A' m2 c' (zs2.map (Value.int .i64))) => withoutYes n x A' m2 c' zs2 W s1 (hT.below hb) h2 h3
  have HF := hid fun W (hb : Below w.heap.size w W) => familyYes n A2 m2 c2 zs2 W (ht.below hb) h2
  have q1 : (decide (0 ≤ (x : Int)) && decide ((x : Int) < n)) = true := by rw [decide_eq_true (show (0 : Int) ≤ x by omega), decide_eq_true (show (x : Int) < n by omega)]; rfl
  have HEL := hid fun W => elementF n x W
  rw [q1] at HEL
  have HRL := hid fun W (hb : Below w.heap.size w W) => refLink A2 m2 c2 zs2 x W (ht.below hb) (fun s hs => by have := h2.nlt hs; omega) h5 hl64
  have HRO := hid fun W (hb : Below w.heap.size w W) => refOut A2 m2 c2 zs2 x W (ht.below hb) (fun s hs => by have := h2.nlt hs; omega) h5 hl64
  rw [out_ref h2] at HRO
  rw [link_ref h2 h3] at HRL
  generalize famL (2 ^ n) (linkP x (setF zs2)) = lb at *
  generalize famL (2 ^ n) (outP x (setF zs2)) = lc at *
  have HEB := hid fun A' B' k1 c1 k2 d1 W (s1 : Sl W A' k1 c1 (lb.map (Value.int .i64))) s2 => equalYes' A' B' k1 c1 k2 d1 lb W s1 s2
  have HEC := hid fun A' B' k1 c1 k2 d1 W (s1 : Sl W A' k1 c1 (lc.map (Value.int .i64))) s2 => equalYes' A' B' k1 c1 k2 d1 lc W s1 s2
  have HC1 := hid hC1; have HC2 := hid hC2
  have HAW := hid fun W (hb : Below w.heap.size w W) => awakeF W (hT.below hb)
  clear hC1 hC2 hs ht hT h1 h2 h3 h5 hl64 h64 hle q1
  have HB0 := hid (Below.refl w.heap.size w)
  go_enter Tryd.func4, Tryd.ntmps4
  go_wp2_with fail
  refine (HC1.out.run _ HB0.out).mono ?_; rintro e w1 ⟨A1, c1, rfl, ho, hb⟩
  have HB1 := hid (below_call HB0.out hb HB0.out.size)
  have S1_1 := hid (Sl.of_own ho)
  clear hb ho
  go_wp2_with fail
  refine (HCL.out _ _ _ HB1.out S1_1.out).mono ?_; rintro e w2 ⟨rfl, hb⟩
  have HB2 := hid (below_call HB1.out hb HB1.out.size)
  have S1_2 := hid (S1_1.out.below hb)
  clear hb
  clear S1_1 S1_2
  go_wp2_with fail
  refine (HC2.out.run _ HB2.out).mono ?_; rintro e w3 ⟨A3, c3, rfl, ho, hb⟩
  have HB3 := hid (below_call HB2.out hb HB2.out.size)
  have S2_3 := hid (Sl.of_own ho)
  clear hb ho
  go_wp2_with fail
  refine (HLK.out _ _ _ HB3.out S2_3.out).mono ?_; rintro e w4 ⟨A4, c4, l4, rfl, ho, hb⟩
  have HB4 := hid (below_call HB3.out hb HB3.out.size)
  have S2_4 := hid (S2_3.out.below hb)
  have SB_4 := hid (Sl.of_own ho)
  clear hb ho
  clear S2_3 S2_4
  go_wp2_with fail
  refine (HC2.out.run _ HB4.out).mono ?_; rintro e w5 ⟨A5, c5, rfl, ho, hb⟩
  have HB5 := hid (below_call HB4.out hb HB4.out.size)
  have SB_5 := hid (SB_4.out.below hb)
  have S3_5 := hid (Sl.of_own ho)
  clear hb ho
  go_wp2_with fail
  refine (HWO.out _ _ _ HB5.out S3_5.out).mono ?_; rintro e w6 ⟨A6, c6, l6, rfl, ho, hb⟩
  have HB6 := hid (below_call HB5.out hb HB5.out.size)
  have SB_6 := hid (SB_5.out.below hb)
  have S3_6 := hid (S3_5.out.below hb)
  have SC_6 := hid (Sl.of_own ho)
  clear hb ho
  clear S3_5 S3_6
  go_wp2_with fail
  refine (HST.out _ HB6.out).mono ?_; rintro e w' ⟨rfl, rfl⟩
  go_wp2_with fail
  refine (HF.out _ HB6.out).mono ?_; rintro e w7 ⟨rfl, hb⟩
  have HB7 := hid (below_call HB6.out hb HB6.out.size)
  have SB_7 := hid (SB_6.out.below hb)
  have SC_7 := hid (SC_6.out.below hb)
  clear hb
  go_wp2_with fail
  refine (HEL.out _).mono ?_; rintro e w' ⟨rfl, rfl⟩
  go_wp2_with fail
  refine (HRL.out _ HB7.out).mono ?_; rintro e w8 ⟨A8, c8, l8, rfl, ho, hb⟩
  have HB8 := hid (below_call HB7.out hb HB7.out.size)
  have SB_8 := hid (SB_7.out.below hb)
  have SC_8 := hid (SC_7.out.below hb)
  have SD_8 := hid (Sl.of_own ho)
  clear hb ho
  go_wp2_with fail
  refine (HEB.out _ _ _ _ _ _ _ SB_8.out SD_8.out).mono ?_; rintro e w9 ⟨rfl, hb⟩
  have HB9 := hid (below_call HB8.out hb HB8.out.size)
  have SB_9 := hid (SB_8.out.below hb)
  have SC_9 := hid (SC_8.out.below hb)
  have SD_9 := hid (SD_8.out.below hb)
  clear hb
  clear SB_4 SB_5 SB_6 SB_7 SB_8 SB_9
  clear SD_8 SD_9
  go_wp2_with fail
  refine (HRO.out _ HB9.out).mono ?_; rintro e w10 ⟨A10, c10, l10, rfl, ho, hb⟩
  have HB10 := hid (below_call HB9.out hb HB9.out.size)
  have SC_10 := hid (SC_9.out.below hb)
  have SE_10 := hid (Sl.of_own ho)
  clear hb ho
  go_wp2_with fail
  refine (HEC.out _ _ _ _ _ _ _ SC_10.out SE_10.out).mono ?_; rintro e w11 ⟨rfl, hb⟩
  have HB11 := hid (below_call HB10.out hb HB10.out.size)
  have SC_11 := hid (SC_10.out.below hb)
  have SE_11 := hid (SE_10.out.below hb)
  clear hb
  clear SC_6 SC_7 SC_8 SC_9 SC_10 SC_11
  clear SE_10 SE_11
  go_wp2_with fail
  refine (HAW.out _ HB11.out).mono ?_; rintro e w12 ⟨rfl, hb⟩
  have HB12 := hid (below_call HB11.out hb HB11.out.size)
  clear hb
  go_wp2
  go_ret
  exact ⟨rfl, HB12.out⟩


set_option maxRecDepth 100000 in
set_option maxHeartbeats 4000000 in
theorem evadeParts_01 (w : World) (hT : Tab w) (n : Nat) (A : Option Addr) (k c : Nat) (xs : List Int) (hs : Sl w A k c (xs.map (Value.int .i64))) (A2 : Option Addr) (k2 c2 : Nat) (ys : List Int) (ht : Sl w A2 k2 c2 (ys.map (Value.int .i64))) (x : Int) (h1 : ¬ SetsP n xs) (h2 : Fam n ys) (h3 : ¬ (0 ≤ x ∧ x < (n : Int))) :
    Calls Tryd.prog 4 #[.int .i64 n, .slice A k c, .slice A2 k2 c2, .int .i64 x] w fun e w' => e = .returned (.bool true) ∧ Below w.heap.size w w' := by
  obtain ⟨m1, zs1, hC1⟩ := cps_of hs
  obtain ⟨m2, zs2, hC2⟩ := cp_of ht
  have HCL := hid fun A' c' W (hb : Below w.heap.size w W) (s1 : Sl W A' m1 c' (zs1.map (Value.int .i64))) => closeNo n A' m1 c' zs1 W s1 (by rw [hC1.sets]; exact h1)
  have HST := hid fun W (hb : Below w.heap.size w W) => setsNo n A k c xs W (hs.below hb) h1
  have HLK := hid fun A' c' W (hb : Below w.heap.size w W) (s1 : Sl W A' m2 c' (zs2.map (Value.int .i64))) => linkNo n x A' m2 c' zs2 W s1 (hT.below hb) (by rw [hC2.fam]; exact fun h => h3 h.2)
  have HWO := hid fun A' c' W (hb : Below w.heap.size w W) (s1 : Sl W A' m2 c' (zs2.map (Value.int .i64))) => withoutNo n x A' m2 c' zs2 W s1 (hT.below hb) (by rw [hC2.fam]; exact fun h => h3 h.2)
  have HF := hid fun W (hb : Below w.heap.size w W) => familyYes n A2 k2 c2 ys W (ht.below hb) h2
  have q1 : (decide (0 ≤ x) && decide (x < (n : Int))) = false := by
    rw [Bool.and_eq_false_iff, decide_eq_false_iff_not, decide_eq_false_iff_not]; omega
  have HEL := hid fun W => elementF n x W
  rw [q1] at HEL
  have HC1 := hid hC1; have HC2 := hid hC2
  have HAW := hid fun W (hb : Below w.heap.size w W) => awakeF W (hT.below hb)
  clear hC1 hC2 hs ht hT h1 h2 h3 q1
  have HB0 := hid (Below.refl w.heap.size w)
  go_enter Tryd.func4, Tryd.ntmps4
  go_wp2_with fail
  refine (HC1.out.run _ HB0.out).mono ?_; rintro e w1 ⟨A1, c1, rfl, ho, hb⟩
  have HB1 := hid (below_call HB0.out hb HB0.out.size)
  have S1_1 := hid (Sl.of_own ho)
  clear hb ho
  go_wp2_with fail
  refine (HCL.out _ _ _ HB1.out S1_1.out).mono ?_; rintro e w2 ⟨rfl, hb⟩
  have HB2 := hid (below_call HB1.out hb HB1.out.size)
  have S1_2 := hid (S1_1.out.below hb)
  clear hb
  clear S1_1 S1_2
  go_wp2_with fail
  refine (HC2.out.run _ HB2.out).mono ?_; rintro e w3 ⟨A3, c3, rfl, ho, hb⟩
  have HB3 := hid (below_call HB2.out hb HB2.out.size)
  have S2_3 := hid (Sl.of_own ho)
  clear hb ho
  go_wp2_with fail
  refine (HLK.out _ _ _ HB3.out S2_3.out).mono ?_; rintro e w4 ⟨rfl, hb⟩
  have HB4 := hid (below_call HB3.out hb HB3.out.size)
  have S2_4 := hid (S2_3.out.below hb)
  clear hb
  clear S2_3 S2_4
  go_wp2_with fail
  refine (HC2.out.run _ HB4.out).mono ?_; rintro e w5 ⟨A5, c5, rfl, ho, hb⟩
  have HB5 := hid (below_call HB4.out hb HB4.out.size)
  have S3_5 := hid (Sl.of_own ho)
  clear hb ho
  go_wp2_with fail
  refine (HWO.out _ _ _ HB5.out S3_5.out).mono ?_; rintro e w6 ⟨rfl, hb⟩
  have HB6 := hid (below_call HB5.out hb HB5.out.size)
  have S3_6 := hid (S3_5.out.below hb)
  clear hb
  clear S3_5 S3_6
  go_wp2_with fail
  refine (HST.out _ HB6.out).mono ?_; rintro e w' ⟨rfl, rfl⟩
  go_wp2_with fail
  refine (HF.out _ HB6.out).mono ?_; rintro e w7 ⟨rfl, hb⟩
  have HB7 := hid (below_call HB6.out hb HB6.out.size)
  clear hb
  go_wp2_with fail
  refine (HEL.out _).mono ?_; rintro e w' ⟨rfl, rfl⟩
  go_wp2_with fail
  refine (HAW.out _ HB7.out).mono ?_; rintro e w8 ⟨rfl, hb⟩
  have HB8 := hid (below_call HB7.out hb HB7.out.size)
  clear hb
  go_wp2
  go_ret
  exact ⟨rfl, HB8.out⟩


set_option maxRecDepth 100000 in
set_option maxHeartbeats 4000000 in
theorem evadeParts_00 (w : World) (hT : Tab w) (n : Int) (A : Option Addr) (k c : Nat) (xs : List Int) (hs : Sl w A k c (xs.map (Value.int .i64))) (A2 : Option Addr) (k2 c2 : Nat) (ys : List Int) (ht : Sl w A2 k2 c2 (ys.map (Value.int .i64))) (x : Int) (h1 : ¬ SetsP n xs) (h2 : ¬ Fam n ys) :
    Calls Tryd.prog 4 #[.int .i64 n, .slice A k c, .slice A2 k2 c2, .int .i64 x] w fun e w' => e = .returned (.bool true) ∧ Below w.heap.size w w' := by
  obtain ⟨m1, zs1, hC1⟩ := cps_of hs
  obtain ⟨m2, zs2, hC2⟩ := cp_of ht
  have HCL := hid fun A' c' W (hb : Below w.heap.size w W) (s1 : Sl W A' m1 c' (zs1.map (Value.int .i64))) => closeNo n A' m1 c' zs1 W s1 (by rw [hC1.sets]; exact h1)
  have HST := hid fun W (hb : Below w.heap.size w W) => setsNo n A k c xs W (hs.below hb) h1
  have HLK := hid fun A' c' W (hb : Below w.heap.size w W) (s1 : Sl W A' m2 c' (zs2.map (Value.int .i64))) => linkNo n x A' m2 c' zs2 W s1 (hT.below hb) (by rw [hC2.fam]; exact fun h => h2 h.1)
  have HWO := hid fun A' c' W (hb : Below w.heap.size w W) (s1 : Sl W A' m2 c' (zs2.map (Value.int .i64))) => withoutNo n x A' m2 c' zs2 W s1 (hT.below hb) (by rw [hC2.fam]; exact fun h => h2 h.1)
  have HF := hid fun W (hb : Below w.heap.size w W) => familyNo n A2 k2 c2 ys W (ht.below hb) h2
  have HC1 := hid hC1; have HC2 := hid hC2
  have HAW := hid fun W (hb : Below w.heap.size w W) => awakeF W (hT.below hb)
  clear hC1 hC2 hs ht hT h1 h2
  have HB0 := hid (Below.refl w.heap.size w)
  go_enter Tryd.func4, Tryd.ntmps4
  go_wp2_with fail
  refine (HC1.out.run _ HB0.out).mono ?_; rintro e w1 ⟨A1, c1, rfl, ho, hb⟩
  have HB1 := hid (below_call HB0.out hb HB0.out.size)
  have S1_1 := hid (Sl.of_own ho)
  clear hb ho
  go_wp2_with fail
  refine (HCL.out _ _ _ HB1.out S1_1.out).mono ?_; rintro e w2 ⟨rfl, hb⟩
  have HB2 := hid (below_call HB1.out hb HB1.out.size)
  have S1_2 := hid (S1_1.out.below hb)
  clear hb
  clear S1_1 S1_2
  go_wp2_with fail
  refine (HC2.out.run _ HB2.out).mono ?_; rintro e w3 ⟨A3, c3, rfl, ho, hb⟩
  have HB3 := hid (below_call HB2.out hb HB2.out.size)
  have S2_3 := hid (Sl.of_own ho)
  clear hb ho
  go_wp2_with fail
  refine (HLK.out _ _ _ HB3.out S2_3.out).mono ?_; rintro e w4 ⟨rfl, hb⟩
  have HB4 := hid (below_call HB3.out hb HB3.out.size)
  have S2_4 := hid (S2_3.out.below hb)
  clear hb
  clear S2_3 S2_4
  go_wp2_with fail
  refine (HC2.out.run _ HB4.out).mono ?_; rintro e w5 ⟨A5, c5, rfl, ho, hb⟩
  have HB5 := hid (below_call HB4.out hb HB4.out.size)
  have S3_5 := hid (Sl.of_own ho)
  clear hb ho
  go_wp2_with fail
  refine (HWO.out _ _ _ HB5.out S3_5.out).mono ?_; rintro e w6 ⟨rfl, hb⟩
  have HB6 := hid (below_call HB5.out hb HB5.out.size)
  have S3_6 := hid (S3_5.out.below hb)
  clear hb
  clear S3_5 S3_6
  go_wp2_with fail
  refine (HST.out _ HB6.out).mono ?_; rintro e w' ⟨rfl, rfl⟩
  go_wp2_with fail
  refine (HF.out _ HB6.out).mono ?_; rintro e w7 ⟨rfl, hb⟩
  have HB7 := hid (below_call HB6.out hb HB6.out.size)
  clear hb
  go_wp2_with fail
  refine (HAW.out _ HB7.out).mono ?_; rintro e w8 ⟨rfl, hb⟩
  have HB8 := hid (below_call HB7.out hb HB7.out.size)
  clear hb
  go_wp2
  go_ret
  exact ⟨rfl, HB8.out⟩


theorem evadeParts_walk (w : World) (hT : Tab w) (n : Int) (_ : (Lit.int .i64 n).wf = true) (A : Option Addr) (k c : Nat) (xs : List Int) (hs : Sl w A k c (xs.map (Value.int .i64))) (_ : ∀ x ∈ xs, -9223372036854775808 ≤ x ∧ x ≤ 9223372036854775807) (A2 : Option Addr) (k2 c2 : Nat) (ys : List Int) (ht : Sl w A2 k2 c2 (ys.map (Value.int .i64))) (_ : ∀ x ∈ ys, -9223372036854775808 ≤ x ∧ x ≤ 9223372036854775807) (x : Int) (_ : (Lit.int .i64 x).wf = true) :
    Calls Tryd.prog 4 #[.int .i64 n, .slice A k c, .slice A2 k2 c2, .int .i64 x] w fun e w' => e = .returned (.bool true) ∧ Below w.heap.size w w' := by
  by_cases h1 : SetsP n xs
  · obtain ⟨n, rfl⟩ := Int.eq_ofNat_of_zero_le (show 0 ≤ n by have := h1.n1; omega)
    by_cases h2 : Fam n ys
    · by_cases h3 : 0 ≤ x ∧ x < (n : Int)
      · obtain ⟨x, rfl⟩ := Int.eq_ofNat_of_zero_le h3.1
        exact evadeParts_12 w hT n A k c xs hs A2 k2 c2 ys ht x h1 h2 (by omega)
      · exact evadeParts_11 w hT n A k c xs hs A2 k2 c2 ys ht x h1 h2 h3
    · exact evadeParts_10 w hT n A k c xs hs A2 k2 c2 ys ht x h1 h2
  · by_cases h2 : Fam n ys
    · obtain ⟨n, rfl⟩ := Int.eq_ofNat_of_zero_le (show 0 ≤ n by have := h2.n1; omega)
      by_cases h3 : 0 ≤ x ∧ x < (n : Int)
      · obtain ⟨x, rfl⟩ := Int.eq_ofNat_of_zero_le h3.1
        exact evadeParts_02 w hT n A k c xs hs A2 k2 c2 ys ht x h1 h2 (by omega)
      · exact evadeParts_01 w hT n A k c xs hs A2 k2 c2 ys ht x h1 h2 h3
    · exact evadeParts_00 w hT n A k c xs hs A2 k2 c2 ys ht x h1 h2
end Go.Proofs.YtjddbglbodkihaaDoor
