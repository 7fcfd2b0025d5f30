/- Walk of the law EvadeProperties. Condition: the table of the library stands. -/
import Derived.Test.YtjddbglbodkihaaDoorWalkParts
import Derived.Test.YtjddbglbodkihaaDoorPropW
import Derived.Test.YtjddbglbodkihaaDoorSpreadW
import Derived.Test.YtjddbglbodkihaaDoorRefSpr
namespace Go.Proofs.YtjddbglbodkihaaDoor
open Go.RowKit

theorem spr_lists {m F G H : Nat} (hn : nP m ≤ 6) (h : Spr m F G) (k : Spr m F H) : famL (2 ^ nP m) H.testBit = famL 64 G.testBit := by
  obtain rfl := h.one k
  exact (famL_wide (two64 hn) fun i hi => bit_lt h.lt hi).symm
theorem quietB {P : Program} {f : FuncId} {args : Array Value} {w : World} {v : Value} (h : Calls P f args w fun e w' => e = .returned v ∧ w = w') : Calls P f args w fun e w' => e = .returned v ∧ Below w.heap.size w w' :=
  h.mono fun _ _ ⟨he, hm⟩ => ⟨he, hm ▸ Below.refl _ _⟩

set_option maxRecDepth 100000 in
set_option maxHeartbeats 4000000 in
theorem evadeProperties_off (w : World) (hT : Tab w) (m : Int) (A : Option Addr) (k c : Nat) (xs : List Int) (hs : Sl w A k c (xs.map (Value.int .i64))) (A2 : Option Addr) (k2 c2 : Nat) (ys : List Int) (ht : Sl w A2 k2 c2 (ys.map (Value.int .i64))) (h : ¬ (2 ≤ m ∧ m ≤ 4)) :
    Calls Tryd.prog 8 #[.int .i64 m, .slice A k c, .slice A2 k2 c2] w fun e w' => e = .returned (.bool true) ∧ Below w.heap.size w w' := by
  obtain ⟨m1, zs1, hC1⟩ := cp_of hs
  obtain ⟨m2, zs2, hC2⟩ := cps_of ht
  have HC1 := hid hC1; have HC2 := hid hC2
  have HAW := hid fun W (hb : Below w.heap.size w W) => awakeF W (hT.below hb)
  have HP := hid fun v W => propertyOff m v W h
  have HS := hid fun v W => spreadOff m v W h
  have HN := hid fun W => refNodes m W
  rw [decide_eq_false h] at HN
  clear hC1 hC2 hs ht hT h
  have HB0 := hid (Below.refl w.heap.size w)
  go_enter Tryd.func8, Tryd.ntmps8
  go_wp2_with fail
  refine (HC1.out.run _ HB0.out).mono ?_; rintro e w1 ⟨A1, c1, rfl, ho, hb⟩
  have HB1 := hid (below_call HB0.out hb HB0.out.size)
  have S1_1 := hid (Sl.of_own ho)
  clear hb ho
  go_wp2_with fail
  refine (HP.out _ _).mono ?_; rintro e w' ⟨rfl, rfl⟩
  clear S1_1
  go_wp2_with fail
  refine (HC2.out.run _ HB1.out).mono ?_; rintro e w2 ⟨A2, c2, rfl, ho, hb⟩
  have HB2 := hid (below_call HB1.out hb HB1.out.size)
  have S2_2 := hid (Sl.of_own ho)
  clear hb ho
  go_wp2_with fail
  refine (HS.out _ _).mono ?_; rintro e w' ⟨rfl, rfl⟩
  clear S2_2
  go_wp2_with fail
  refine (HN.out _).mono ?_; rintro e w' ⟨rfl, rfl⟩
  go_wp2_with fail
  refine (HAW.out _ HB2.out).mono ?_; rintro e w3 ⟨rfl, hb⟩
  have HB3 := hid (below_call HB2.out hb HB2.out.size)
  clear hb
  go_wp2
  go_ret
  exact ⟨rfl, HB3.out⟩


set_option maxRecDepth 100000 in
set_option maxHeartbeats 4000000 in
theorem evadeProperties_11 (w : World) (hT : Tab w) (m : Nat) (A : Option Addr) (k c : Nat) (xs : List Int) (hs : Sl w A k c (xs.map (Value.int .i64))) (A2 : Option Addr) (k2 c2 : Nat) (ys : List Int) (ht : Sl w A2 k2 c2 (ys.map (Value.int .i64))) (h2 : 2 ≤ m) (h4 : m ≤ 4) (h1 : SetsP (nP m : Nat) ys) (h3 : Fam (nP m : Nat) xs) :
    Calls Tryd.prog 8 #[.int .i64 m, .slice A k c, .slice A2 k2 c2] w fun e w' => e = .returned (.bool true) ∧ Below w.heap.size w w' := by
  obtain ⟨m1, zs1, hC1⟩ := cp_of hs
  obtain ⟨m2, zs2, hC2⟩ := cps_of ht
  obtain ⟨rfl, rfl⟩ := hC2.same ⟨_, h1⟩
  obtain ⟨rfl, rfl⟩ := hC1.same ⟨_, h3⟩
  have HC1 := hid hC1; have HC2 := hid hC2
  have HAW := hid fun W (hb : Below w.heap.size w W) => awakeF W (hT.below hb)
  have HN := hid fun W => refNodes m W
  rw [decide_eq_true (show (2 : Int) ≤ m ∧ (m : Int) ≤ 4 by omega)] at HN
  have HPA := hid fun W => refPairs m W h2 h4
  have hn6 := nP_bd ⟨m, by omega⟩
  simp only at hn6
  have HP := hid fun A' c' W (hb : Below w.heap.size w W) (s1 : Sl W A' m1 c' (zs1.map (Value.int .i64))) => propertyYes m A' m1 c' zs1 W h2 h4 s1 (hT.below hb) h3
  have HF := hid fun W (hb : Below w.heap.size w W) => familyYes (nP m) A m1 c zs1 W (hs.below hb) h3
  have HR := hid fun W (hb : Below w.heap.size w W) => refProperty m A m1 c zs1 W h2 h4 (hs.below hb) h3
  have HEQ := hid fun (b d : Bool) (hb : b = true ↔ Exch m (setF zs1)) (hd : d = true ↔ ExchA m (setF zs1)) => (show b = d from by rw [Bool.eq_iff_iff, hb, hd]; exact exch_all h2 h4 (setF_lt fun x hx => by have := h3.nlt hx; omega))
  have HS := hid fun A' c' W (hb : Below w.heap.size w W) (s1 : Sl W A' m2 c' (zs2.map (Value.int .i64))) => spreadYes m A' m2 c' zs2 W h2 h4 s1 (hT.below hb) h1
  have HG := hid fun W (hb : Below w.heap.size w W) => setsYes (nP m : Nat) A2 m2 c2 zs2 W (ht.below hb) h1
  have HRS := hid fun W (hb : Below w.heap.size w W) => refSpread m A2 m2 c2 zs2 W h2 h4 (ht.below hb) h1
  have HSL := hid fun G H hg hh => spr_lists (m := m) (F := setF zs2) (G := G) (H := H) hn6 hg hh
  generalize setF zs2 = F2 at *
  generalize setF zs1 = F1 at *
  have HNP : Hid (nP m = nP m) := hid rfl
  clear hC1 hC2 hs ht hT h1 h2 h3 h4 hn6
  have HB0 := hid (Below.refl w.heap.size w)
  go_enter Tryd.func8, Tryd.ntmps8
  go_wp2_with fail
  refine (HC1.out.run _ HB0.out).mono ?_; rintro e w1 ⟨A1, c1, rfl, ho, hb⟩
  have HB1 := hid (below_call HB0.out hb HB0.out.size)
  have S1_1 := hid (Sl.of_own ho)
  clear hb ho
  go_wp2_with fail
  refine (HP.out _ _ _ HB1.out S1_1.out).mono ?_; rintro e w2 ⟨⟨b, rfl, hbb⟩, hb⟩
  have HB2 := hid (below_call HB1.out hb HB1.out.size)
  have S1_2 := hid (S1_1.out.below hb)
  have HBB := hid hbb
  clear hbb
  clear hb
  clear S1_1 S1_2
  go_wp2_with fail
  refine (HC2.out.run _ HB2.out).mono ?_; rintro e w3 ⟨A3, c3, rfl, ho, hb⟩
  have HB3 := hid (below_call HB2.out hb HB2.out.size)
  have S2_3 := hid (Sl.of_own ho)
  clear hb ho
  go_wp2_with fail
  refine (HS.out _ _ _ HB3.out S2_3.out).mono ?_; rintro e w4 ⟨⟨G, A4, c4, rfl, hsp, ho⟩, hb⟩
  have HB4 := hid (below_call HB3.out hb HB3.out.size)
  have S2_4 := hid (S2_3.out.below hb)
  have SA_4 := hid (Sl.of_own ho)
  have HSP := hid hsp
  have HSL2 := hid fun H hh => HSL.out G H hsp hh
  generalize famL 64 G.testBit = la at *
  generalize hln : la.length = ln at *
  clear hb ho hsp hln
  clear S2_3 S2_4
  go_wp2_with fail
  refine (HN.out _).mono ?_; rintro e w' ⟨rfl, rfl⟩
  go_wp2_with fail
  refine (HPA.out _).mono ?_; rintro e w' ⟨rfl, rfl⟩
  go_wp2_with fail
  refine (HG.out _ HB4.out).mono ?_; rintro e w' ⟨rfl, rfl⟩
  go_wp2_with fail
  refine (HRS.out _ HB4.out).mono ?_; rintro e w5 ⟨G2, A5, c5, l5, rfl, hsp, ho, hb⟩
  have HB5 := hid (below_call HB4.out hb HB4.out.size)
  have SA_5 := hid (SA_4.out.below hb)
  rw [HSL2.out _ hsp] at ho
  have SB_5 := hid (Sl.of_own ho)
  clear hb
  clear ho hsp
  go_wp2_with fail
  refine (equalYes' _ _ _ _ _ _ _ _ SA_5.out SB_5.out).mono ?_; rintro e w6 ⟨rfl, hb⟩
  have HB6 := hid (below_call HB5.out hb HB5.out.size)
  have SA_6 := hid (SA_5.out.below hb)
  have SB_6 := hid (SB_5.out.below hb)
  clear hb
  clear SA_4 SA_5 SA_6
  clear SB_5 SB_6
  go_wp2_with fail
  refine (HPA.out _).mono ?_; rintro e w' ⟨rfl, rfl⟩
  go_wp2_with fail
  refine (HF.out _ HB6.out).mono ?_; rintro e w7 ⟨rfl, hb⟩
  have HB7 := hid (below_call HB6.out hb HB6.out.size)
  clear hb
  go_wp2_with fail
  refine (HR.out _ HB7.out).mono ?_; rintro e w8 ⟨⟨d, rfl, hdd⟩, hb⟩
  have HB8 := hid (below_call HB7.out hb HB7.out.size)
  obtain rfl := HEQ.out b d HBB.out hdd
  clear hdd
  clear hb
  go_wp2_with fail
  refine (HAW.out _ HB8.out).mono ?_; rintro e w9 ⟨rfl, hb⟩
  have HB9 := hid (below_call HB8.out hb HB8.out.size)
  clear hb
  go_wp2
  go_ret
  exact ⟨rfl, HB9.out⟩


set_option maxRecDepth 100000 in
set_option maxHeartbeats 4000000 in
theorem evadeProperties_10 (w : World) (hT : Tab w) (m : Nat) (A : Option Addr) (k c : Nat) (xs : List Int) (hs : Sl w A k c (xs.map (Value.int .i64))) (A2 : Option Addr) (k2 c2 : Nat) (ys : List Int) (ht : Sl w A2 k2 c2 (ys.map (Value.int .i64))) (h2 : 2 ≤ m) (h4 : m ≤ 4) (h1 : SetsP (nP m : Nat) ys) (h3 : ¬ Fam (nP m : Nat) xs) :
    Calls Tryd.prog 8 #[.int .i64 m, .slice A k c, .slice A2 k2 c2] w fun e w' => e = .returned (.bool true) ∧ Below w.heap.size w w' := by
  obtain ⟨m1, zs1, hC1⟩ := cp_of hs
  obtain ⟨m2, zs2, hC2⟩ := cps_of ht
  obtain ⟨rfl, rfl⟩ := hC2.same ⟨_, h1⟩
  have HC1 := hid hC1; have HC2 := hid hC2
  have HAW := hid fun W (hb : Below w.heap.size w W) => awakeF W (hT.below hb)
  have HN := hid fun W => refNodes m W
  rw [decide_eq_true (show (2 : Int) ≤ m ∧ (m : Int) ≤ 4 by omega)] at HN
  have HPA := hid fun W => refPairs m W h2 h4
  have hn6 := nP_bd ⟨m, by omega⟩
  simp only at hn6
  have HP := hid fun A' c' W (hb : Below w.heap.size w W) (s1 : Sl W A' m1 c' (zs1.map (Value.int .i64))) => propertyNo m A' m1 c' zs1 W h2 h4 s1 (hT.below hb) (by rw [hC1.fam]; exact h3)
  have HF := hid fun W (hb : Below w.heap.size w W) => familyNo (nP m : Nat) A k c xs W (hs.below hb) h3
  have HS := hid fun A' c' W (hb : Below w.heap.size w W) (s1 : Sl W A' m2 c' (zs2.map (Value.int .i64))) => spreadYes m A' m2 c' zs2 W h2 h4 s1 (hT.below hb) h1
  have HG := hid fun W (hb : Below w.heap.size w W) => setsYes (nP m : Nat) A2 m2 c2 zs2 W (ht.below hb) h1
  have HRS := hid fun W (hb : Below w.heap.size w W) => refSpread m A2 m2 c2 zs2 W h2 h4 (ht.below hb) h1
  have HSL := hid fun G H hg hh => spr_lists (m := m) (F := setF zs2) (G := G) (H := H) hn6 hg hh
  generalize setF zs2 = F2 at *
  have HNP : Hid (nP m = nP m) := hid rfl
  clear hC1 hC2 hs ht hT h1 h2 h3 h4 hn6
  have HB0 := hid (Below.refl w.heap.size w)
  go_enter Tryd.func8, Tryd.ntmps8
  go_wp2_with fail
  refine (HC1.out.run _ HB0.out).mono ?_; rintro e w1 ⟨A1, c1, rfl, ho, hb⟩
  have HB1 := hid (below_call HB0.out hb HB0.out.size)
  have S1_1 := hid (Sl.of_own ho)
  clear hb ho
  go_wp2_with fail
  refine (HP.out _ _ _ HB1.out S1_1.out).mono ?_; rintro e w2 ⟨rfl, hb⟩
  have HB2 := hid (below_call HB1.out hb HB1.out.size)
  have S1_2 := hid (S1_1.out.below hb)
  clear hb
  clear S1_1 S1_2
  go_wp2_with fail
  refine (HC2.out.run _ HB2.out).mono ?_; rintro e w3 ⟨A3, c3, rfl, ho, hb⟩
  have HB3 := hid (below_call HB2.out hb HB2.out.size)
  have S2_3 := hid (Sl.of_own ho)
  clear hb ho
  go_wp2_with fail
  refine (HS.out _ _ _ HB3.out S2_3.out).mono ?_; rintro e w4 ⟨⟨G, A4, c4, rfl, hsp, ho⟩, hb⟩
  have HB4 := hid (below_call HB3.out hb HB3.out.size)
  have S2_4 := hid (S2_3.out.below hb)
  have SA_4 := hid (Sl.of_own ho)
  have HSP := hid hsp
  have HSL2 := hid fun H hh => HSL.out G H hsp hh
  generalize famL 64 G.testBit = la at *
  generalize hln : la.length = ln at *
  clear hb ho hsp hln
  clear S2_3 S2_4
  go_wp2_with fail
  refine (HN.out _).mono ?_; rintro e w' ⟨rfl, rfl⟩
  go_wp2_with fail
  refine (HPA.out _).mono ?_; rintro e w' ⟨rfl, rfl⟩
  go_wp2_with fail
  refine (HG.out _ HB4.out).mono ?_; rintro e w' ⟨rfl, rfl⟩
  go_wp2_with fail
  refine (HRS.out _ HB4.out).mono ?_; rintro e w5 ⟨G2, A5, c5, l5, rfl, hsp, ho, hb⟩
  have HB5 := hid (below_call HB4.out hb HB4.out.size)
  have SA_5 := hid (SA_4.out.below hb)
  rw [HSL2.out _ hsp] at ho
  have SB_5 := hid (Sl.of_own ho)
  clear hb
  clear ho hsp
  go_wp2_with fail
  refine (equalYes' _ _ _ _ _ _ _ _ SA_5.out SB_5.out).mono ?_; rintro e w6 ⟨rfl, hb⟩
  have HB6 := hid (below_call HB5.out hb HB5.out.size)
  have SA_6 := hid (SA_5.out.below hb)
  have SB_6 := hid (SB_5.out.below hb)
  clear hb
  clear SA_4 SA_5 SA_6
  clear SB_5 SB_6
  go_wp2_with fail
  refine (HPA.out _).mono ?_; rintro e w' ⟨rfl, rfl⟩
  go_wp2_with fail
  refine (HF.out _ HB6.out).mono ?_; rintro e w7 ⟨rfl, hb⟩
  have HB7 := hid (below_call HB6.out hb HB6.out.size)
  clear hb
  go_wp2_with fail
  refine (HAW.out _ HB7.out).mono ?_; rintro e w8 ⟨rfl, hb⟩
  have HB8 := hid (below_call HB7.out hb HB7.out.size)
  clear hb
  go_wp2
  go_ret
  exact ⟨rfl, HB8.out⟩


set_option maxRecDepth 100000 in
set_option maxHeartbeats 4000000 in
theorem evadeProperties_01 (w : World) (hT : Tab w) (m : Nat) (A : Option Addr) (k c : Nat) (xs : List Int) (hs : Sl w A k c (xs.map (Value.int .i64))) (A2 : Option Addr) (k2 c2 : Nat) (ys : List Int) (ht : Sl w A2 k2 c2 (ys.map (Value.int .i64))) (h2 : 2 ≤ m) (h4 : m ≤ 4) (h1 : ¬ SetsP (nP m : Nat) ys) (h3 : Fam (nP m : Nat) xs) :
    Calls Tryd.prog 8 #[.int .i64 m, .slice A k c, .slice A2 k2 c2] w fun e w' => e = .returned (.bool true) ∧ Below w.heap.size w w' := by
  obtain ⟨m1, zs1, hC1⟩ := cp_of hs
  obtain ⟨m2, zs2, hC2⟩ := cps_of ht
  obtain ⟨rfl, rfl⟩ := hC1.same ⟨_, h3⟩
  have HC1 := hid hC1; have HC2 := hid hC2
  have HAW := hid fun W (hb : Below w.heap.size w W) => awakeF W (hT.below hb)
  have HN := hid fun W => refNodes m W
  rw [decide_eq_true (show (2 : Int) ≤ m ∧ (m : Int) ≤ 4 by omega)] at HN
  have HPA := hid fun W => refPairs m W h2 h4
  have hn6 := nP_bd ⟨m, by omega⟩
  simp only at hn6
  have HP := hid fun A' c' W (hb : Below w.heap.size w W) (s1 : Sl W A' m1 c' (zs1.map (Value.int .i64))) => propertyYes m A' m1 c' zs1 W h2 h4 s1 (hT.below hb) h3
  have HF := hid fun W (hb : Below w.heap.size w W) => familyYes (nP m) A m1 c zs1 W (hs.below hb) h3
  have HR := hid fun W (hb : Below w.heap.size w W) => refProperty m A m1 c zs1 W h2 h4 (hs.below hb) h3
  have HEQ := hid fun (b d : Bool) (hb : b = true ↔ Exch m (setF zs1)) (hd : d = true ↔ ExchA m (setF zs1)) => (show b = d from by rw [Bool.eq_iff_iff, hb, hd]; exact exch_all h2 h4 (setF_lt fun x hx => by have := h3.nlt hx; omega))
  have HS := hid fun A' c' W (hb : Below w.heap.size w W) (s1 : Sl W A' m2 c' (zs2.map (Value.int .i64))) => spreadNo m A' m2 c' zs2 W h2 h4 s1 (by rw [hC2.sets]; exact h1)
  have HG := hid fun W (hb : Below w.heap.size w W) => setsNo (nP m : Nat) A2 k2 c2 ys W (ht.below hb) h1
  generalize setF zs1 = F1 at *
  generalize nP m = np at *
  clear hC1 hC2 hs ht hT h1 h2 h3 h4 hn6
  have HB0 := hid (Below.refl w.heap.size w)
  go_enter Tryd.func8, Tryd.ntmps8
  go_wp2_with fail
  refine (HC1.out.run _ HB0.out).mono ?_; rintro e w1 ⟨A1, c1, rfl, ho, hb⟩
  have HB1 := hid (below_call HB0.out hb HB0.out.size)
  have S1_1 := hid (Sl.of_own ho)
  clear hb ho
  go_wp2_with fail
  refine (HP.out _ _ _ HB1.out S1_1.out).mono ?_; rintro e w2 ⟨⟨b, rfl, hbb⟩, hb⟩
  have HB2 := hid (below_call HB1.out hb HB1.out.size)
  have S1_2 := hid (S1_1.out.below hb)
  have HBB := hid hbb
  clear hbb
  clear hb
  clear S1_1 S1_2
  go_wp2_with fail
  refine (HC2.out.run _ HB2.out).mono ?_; rintro e w3 ⟨A3, c3, rfl, ho, hb⟩
  have HB3 := hid (below_call HB2.out hb HB2.out.size)
  have S2_3 := hid (Sl.of_own ho)
  clear hb ho
  go_wp2_with fail
  refine (HS.out _ _ _ HB3.out S2_3.out).mono ?_; rintro e w4 ⟨rfl, hb⟩
  have HB4 := hid (below_call HB3.out hb HB3.out.size)
  have S2_4 := hid (S2_3.out.below hb)
  clear hb
  clear S2_3 S2_4
  go_wp2_with fail
  refine (HN.out _).mono ?_; rintro e w' ⟨rfl, rfl⟩
  go_wp2_with fail
  refine (HPA.out _).mono ?_; rintro e w' ⟨rfl, rfl⟩
  go_wp2_with fail
  refine (HG.out _ HB4.out).mono ?_; rintro e w' ⟨rfl, rfl⟩
  go_wp2_with fail
  refine (HPA.out _).mono ?_; rintro e w' ⟨rfl, rfl⟩
  go_wp2_with fail
  refine (HF.out _ HB4.out).mono ?_; rintro e w5 ⟨rfl, hb⟩
  have HB5 := hid (below_call HB4.out hb HB4.out.size)
  clear hb
  go_wp2_with fail
  refine (HR.out _ HB5.out).mono ?_; rintro e w6 ⟨⟨d, rfl, hdd⟩, hb⟩
  have HB6 := hid (below_call HB5.out hb HB5.out.size)
  obtain rfl := HEQ.out b d HBB.out hdd
  clear hdd
  clear hb
  go_wp2_with fail
  refine (HAW.out _ HB6.out).mono ?_; rintro e w7 ⟨rfl, hb⟩
  have HB7 := hid (below_call HB6.out hb HB6.out.size)
  clear hb
  go_wp2
  go_ret
  exact ⟨rfl, HB7.out⟩


set_option maxRecDepth 100000 in
set_option maxHeartbeats 4000000 in
theorem evadeProperties_00 (w : World) (hT : Tab w) (m : Nat) (A : Option Addr) (k c : Nat) (xs : List Int) (hs : Sl w A k c (xs.map (Value.int .i64))) (A2 : Option Addr) (k2 c2 : Nat) (ys : List Int) (ht : Sl w A2 k2 c2 (ys.map (Value.int .i64))) (h2 : 2 ≤ m) (h4 : m ≤ 4) (h1 : ¬ SetsP (nP m : Nat) ys) (h3 : ¬ Fam (nP m : Nat) xs) :
    Calls Tryd.prog 8 #[.int .i64 m, .slice A k c, .slice A2 k2 c2] w fun e w' => e = .returned (.bool true) ∧ Below w.heap.size w w' := by
  obtain ⟨m1, zs1, hC1⟩ := cp_of hs
  obtain ⟨m2, zs2, hC2⟩ := cps_of ht
  have HC1 := hid hC1; have HC2 := hid hC2
  have HAW := hid fun W (hb : Below w.heap.size w W) => awakeF W (hT.below hb)
  have HN := hid fun W => refNodes m W
  rw [decide_eq_true (show (2 : Int) ≤ m ∧ (m : Int) ≤ 4 by omega)] at HN
  have HPA := hid fun W => refPairs m W h2 h4
  have hn6 := nP_bd ⟨m, by omega⟩
  simp only at hn6
  have HP := hid fun A' c' W (hb : Below w.heap.size w W) (s1 : Sl W A' m1 c' (zs1.map (Value.int .i64))) => propertyNo m A' m1 c' zs1 W h2 h4 s1 (hT.below hb) (by rw [hC1.fam]; exact h3)
  have HF := hid fun W (hb : Below w.heap.size w W) => familyNo (nP m : Nat) A k c xs W (hs.below hb) h3
  have HS := hid fun A' c' W (hb : Below w.heap.size w W) (s1 : Sl W A' m2 c' (zs2.map (Value.int .i64))) => spreadNo m A' m2 c' zs2 W h2 h4 s1 (by rw [hC2.sets]; exact h1)
  have HG := hid fun W (hb : Below w.heap.size w W) => setsNo (nP m : Nat) A2 k2 c2 ys W (ht.below hb) h1
  generalize nP m = np at *
  clear hC1 hC2 hs ht hT h1 h2 h3 h4 hn6
  have HB0 := hid (Below.refl w.heap.size w)
  go_enter Tryd.func8, Tryd.ntmps8
  go_wp2_with fail
  refine (HC1.out.run _ HB0.out).mono ?_; rintro e w1 ⟨A1, c1, rfl, ho, hb⟩
  have HB1 := hid (below_call HB0.out hb HB0.out.size)
  have S1_1 := hid (Sl.of_own ho)
  clear hb ho
  go_wp2_with fail
  refine (HP.out _ _ _ HB1.out S1_1.out).mono ?_; rintro e w2 ⟨rfl, hb⟩
  have HB2 := hid (below_call HB1.out hb HB1.out.size)
  have S1_2 := hid (S1_1.out.below hb)
  clear hb
  clear S1_1 S1_2
  go_wp2_with fail
  refine (HC2.out.run _ HB2.out).mono ?_; rintro e w3 ⟨A3, c3, rfl, ho, hb⟩
  have HB3 := hid (below_call HB2.out hb HB2.out.size)
  have S2_3 := hid (Sl.of_own ho)
  clear hb ho
  go_wp2_with fail
  refine (HS.out _ _ _ HB3.out S2_3.out).mono ?_; rintro e w4 ⟨rfl, hb⟩
  have HB4 := hid (below_call HB3.out hb HB3.out.size)
  have S2_4 := hid (S2_3.out.below hb)
  clear hb
  clear S2_3 S2_4
  go_wp2_with fail
  refine (HN.out _).mono ?_; rintro e w' ⟨rfl, rfl⟩
  go_wp2_with fail
  refine (HPA.out _).mono ?_; rintro e w' ⟨rfl, rfl⟩
  go_wp2_with fail
  refine (HG.out _ HB4.out).mono ?_; rintro e w' ⟨rfl, rfl⟩
  go_wp2_with fail
  refine (HPA.out _).mono ?_; rintro e w' ⟨rfl, rfl⟩
  go_wp2_with fail
  refine (HF.out _ HB4.out).mono ?_; rintro e w5 ⟨rfl, hb⟩
  have HB5 := hid (below_call HB4.out hb HB4.out.size)
  clear hb
  go_wp2_with fail
  refine (HAW.out _ HB5.out).mono ?_; rintro e w6 ⟨rfl, hb⟩
  have HB6 := hid (below_call HB5.out hb HB5.out.size)
  clear hb
  go_wp2
  go_ret
  exact ⟨rfl, HB6.out⟩


theorem evadeProperties_walk (w : World) (hT : Tab w) (m : Int) (_ : (Lit.int .i64 m).wf = true) (A : Option Addr) (k c : Nat) (xs : List Int) (hs : Sl w A k c (xs.map (Value.int .i64))) (_ : ∀ x ∈ xs, -9223372036854775808 ≤ x ∧ x ≤ 9223372036854775807) (A2 : Option Addr) (k2 c2 : Nat) (ys : List Int) (ht : Sl w A2 k2 c2 (ys.map (Value.int .i64))) (_ : ∀ x ∈ ys, -9223372036854775808 ≤ x ∧ x ≤ 9223372036854775807) :
    Calls Tryd.prog 8 #[.int .i64 m, .slice A k c, .slice A2 k2 c2] w fun e w' => e = .returned (.bool true) ∧ Below w.heap.size w w' := by
  by_cases h : 2 ≤ m ∧ m ≤ 4
  · obtain ⟨m, rfl⟩ := Int.eq_ofNat_of_zero_le (show 0 ≤ m by omega)
    have h2 : 2 ≤ m := by omega
    have h4 : m ≤ 4 := by omega
    by_cases h1 : SetsP (nP m : Nat) ys <;> by_cases h3 : Fam (nP m : Nat) xs
    · exact evadeProperties_11 w hT m A k c xs hs A2 k2 c2 ys ht h2 h4 h1 h3
    · exact evadeProperties_10 w hT m A k c xs hs A2 k2 c2 ys ht h2 h4 h1 h3
    · exact evadeProperties_01 w hT m A k c xs hs A2 k2 c2 ys ht h2 h4 h1 h3
    · exact evadeProperties_00 w hT m A k c xs hs A2 k2 c2 ys ht h2 h4 h1 h3
  · exact evadeProperties_off w hT m A k c xs hs A2 k2 c2 ys ht h
end Go.Proofs.YtjddbglbodkihaaDoor
