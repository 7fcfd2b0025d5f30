/- Walk of evade.read. Conditions: the slice reads as numbers; the table of the library stands. -/
import Derived.Test.YtjddbglbodkihaaDoorClone
import Derived.Test.YtjddbglbodkihaaDoorSumM
import Derived.Deep.RegionHeld3
namespace Go.Proofs.YtjddbglbodkihaaDoor
open Go.RowKit
attribute [local go_sem ↓] shl_p2 shl_u or_u shr_u and_shrF shr_v and_shr andNot_v

theorem Fam.len {n : Nat} {l : List Int} (h : Fam n l) : l.length ≤ 2 ^ n := by
  rw [← h.same]; exact famL_len _ _
theorem Fam.ok {n : Nat} {l : List Int} (h : Fam n l) : setsOk n l = true := sets_iff.2 fun x hx => by
  have := h.bd x hx; rw [p2_nat] at this; exact this
theorem Fam.lst {n : Nat} {l : List Int} (h : Fam n l) : famL 64 (setF l).testBit = l := by
  have h6 := h.n6
  rw [famL_wide (two64 (show n ≤ 6 by omega)) fun i hi => bit_lt h.lt hi]
  exact h.same
theorem Fam.clo {n : Nat} {l : List Int} (h : Fam n l) {G : Nat} (hG : Clo n (setF l) G) : G = setF l :=
  (hG.same h.lt).2 fun _ _ hx hs => h.rm hx hs

set_option maxRecDepth 100000 in
set_option maxHeartbeats 4000000 in
theorem readYes (n : Nat) (A : Option Addr) (m c : Nat) (xs : List Int) (w : World) (hs : Sl w A m c (xs.map (Value.int .i64))) (hT : Tab w) (H : Fam n xs) :
    Calls Tryd.prog 57 #[.int .i64 n, .slice A m c] w fun e w' => e = .returned (.tuple #[.agg #[.int .i64 n, .int .u64 (setF xs : Nat)], .bool true]) ∧ Below w.heap.size w w' := by
  have h1 := H.n1; have h6 := H.n6
  have hn1 : 1 ≤ n := by omega
  have hn6 : n ≤ 6 := by omega
  have hml : xs.length = m := hs.numlen
  have h64 := two64 hn6
  have hm64 : m ≤ 64 := by have := H.len; omega
  have hF64 : setF xs < 18446744073709551616 := fam64 hn6 H.lt
  have HOK := hid H.ok
  have HC := hid fun W (hW : Below w.heap.size w W) => collectF n A m c xs W hn1 hn6 hm64 (hs.below hW)
  have HLI := hid fun W (hW : Below w.heap.size w W) => listF n (setF xs) W hF64 (hT.below hW)
  have HEQ := hid fun A3 c3 W (hW : Below w.heap.size w W) (h3 : Sl W A3 m c3 (xs.map (Value.int .i64))) => show Calls Tryd.prog 19 #[.slice A3 m c3, .slice A m c] W fun e w' => e = .returned (.bool true) ∧ Below W.heap.size W w' from by
    have e := equalInts A3 A m c3 m c xs xs W h3 (hs.below hW)
    rw [show decide (xs = xs) = true from decide_eq_true rfl] at e
    exact e
  have HCL := hid fun W => closedF n (setF xs) W hn6 H.lt
  have HCE := hid fun G (hG : Clo n (setF xs) G) => H.clo hG
  have hlst := H.lst
  rw [hlst, hml] at HLI
  have gF : ((setF xs : Int) == (setF xs : Int)) = true := by simp
  have gn : ((n : Int) == (n : Int)) = true := by simp
  clear H h1 h6 hn1 hn6 hml h64 hm64 hF64 hlst hs hT
  go_enter Tryd.func57, Tryd.ntmps57
  go_wp2_with (go_at_call 64; refine (HC.out _ ((Below.refl _ _).alloc (Nat.le_refl _) _)).mono ?_; rintro e w1 ⟨⟨G, rfl, hG⟩, hb1⟩; obtain rfl := hG HOK.out; rw [HOK.out]; have hz1 := hb1.size; have B1 := hid ((Blk.new w 72 #[.int .i64 0, .int .u64 0]).keep hb1); have HB1 := hid (((Below.refl w.heap.size w).alloc (Nat.le_refl _) (.cells #[.int .i64 0, .int .u64 0] 72)).trans (hb1.mono (by simp))); clear hb1 hG)
  have HB2 := hid (HB1.out.alloc HB1.out.size (.cells #[.int .i64 n, .int .u64 (setF xs : Nat)] 72))
  have B2 := hid (B1.out.alloc (.cells #[.int .i64 n, .int .u64 (setF xs : Nat)] 72))
  have b6 := Blk.new w1 72 #[.int .i64 n, .int .u64 (setF xs : Nat)]
  refine at_world fun w2 hw2 => ?_
  rw [← hw2] at HB2 B2 b6
  have B6 := hid b6
  have c0 := b6.cell 0; have c1 := b6.cell 1
  simp only [List.getElem?_toArray, List.getElem?_cons_zero, List.getElem?_cons_succ] at c0 c1
  have d0 : w2.drew.cell? ⟨w1.heap.size, 0, none⟩ = some (.int .i64 n) := c0
  have d1 : w2.drew.cell? ⟨w1.heap.size, 1, none⟩ = some (.int .u64 (setF xs : Nat)) := c1
  have hne : w1.heap.size ≠ w.heap.size := by simp at hz1; omega
  have HNE := hid hne
  clear hw2 b6 hz1 hne
  go_region_held3 (fun w' => w'.cell? ⟨w1.heap.size, 0, none⟩ = some (.int .i64 n) ∧ w'.cell? ⟨w1.heap.size, 1, none⟩ = some (.int .u64 (setF xs : Nat))) (first | assumption | go_keep)
    ((first
      | (go_at_call 65; have _q := HX4.out; refine (HCL.out _).mono ?_; rintro e w5 ⟨⟨G, rfl, hG⟩, hb5⟩; obtain rfl := HCE.out _ hG; have hk5 : w5.cell? ⟨w1.heap.size, 0, none⟩ = some (.int .i64 n) ∧ w5.cell? ⟨w1.heap.size, 1, none⟩ = some (.int .u64 (setF xs : Nat)) := ⟨cell_keep hb5 hk4.1, cell_keep hb5 hk4.2⟩; have b5 := X4.out.keep hb5; have s5 := ((C4.out.keep hb5).far (p := ⟨w.heap.size, 0, none⟩) HNE.out (.int .i64 n)).far (p := ⟨w.heap.size, 1, none⟩) HNE.out (.int .u64 (setF xs : Nat)); have u0 := s5.cell 0; have u1 := s5.cell 1; clear s5; have y0 := b5.cell 0; have y1 := b5.cell 1; have f0 := b5.free 0; have f1 := b5.free 1; simp only [List.getElem?_toArray, List.getElem?_cons_zero, List.getElem?_cons_succ] at y0 y1 u0 u1; have X5 := hid b5; have HX5 := hid (below_call HX4.out hb5 HX4.out.size); clear hb5 b5)
      | (go_at_call 19; have _q := HX3.out; refine (HEQ.out _ _ _ HX3.out HO3.out).mono ?_; rintro e w4 ⟨rfl, hb4⟩; have hk4 : w4.cell? ⟨w1.heap.size, 0, none⟩ = some (.int .i64 n) ∧ w4.cell? ⟨w1.heap.size, 1, none⟩ = some (.int .u64 (setF xs : Nat)) := ⟨cell_keep hb4 hk3.1, cell_keep hb4 hk3.2⟩; have X4 := hid (X3.out.keep hb4); have C4 := hid (C3.out.keep hb4); have HX4 := hid (below_call HX3.out hb4 HX3.out.size); clear hb4)
      | (go_at_call 61; refine (HLI.out _ HB2.out.drew).mono ?_; rintro e w3 ⟨A3, c3, rfl, ho3, hb3⟩; have hk3 : w3.cell? ⟨w1.heap.size, 0, none⟩ = some (.int .i64 n) ∧ w3.cell? ⟨w1.heap.size, 1, none⟩ = some (.int .u64 (setF xs : Nat)) := ⟨cell_keep hb3 d0, cell_keep hb3 d1⟩; have HO3 := hid (Sl.of_own ho3); have X3 := hid (B2.out.drew.keep hb3); have C3 := hid (B6.out.drew.keep hb3); have HX3 := hid (below_call HB2.out.drew hb3 HB2.out.drew.size); clear hb3 ho3)))
  have kf := hid ((X5.out.set 0 (.int .i64 n)).set 1 (.int .u64 (setF xs : Nat)))
  go_wp2
  refine bodyPost_ret (results_row_tmp rfl _ _ w.heap.size 72 #[.int .i64 n, .int .u64 (setF xs : Nat)] (0, 0) _ rfl kf.out Tryd.underlying72 rfl (by kernel_rfl)) rfl ⟨rfl, ?_⟩
  exact ((HX5.out.setCell (p := ⟨w.heap.size, 0, none⟩) (by simp) _).setCell (p := ⟨w.heap.size, 1, none⟩) (by simp) _)

set_option maxRecDepth 100000 in
set_option maxHeartbeats 4000000 in
theorem readBad (n : Int) (A : Option Addr) (m c : Nat) (w : World) (HC : Hid (∀ W, Below w.heap.size w W → Calls Tryd.prog 64 #[.int .i64 n, .slice A m c] W fun e w' => (∃ G : Nat, e = .returned (.tuple #[.agg #[.int .i64 n, .int .u64 G], .bool false])) ∧ Below W.heap.size W w')) :
    Calls Tryd.prog 57 #[.int .i64 n, .slice A m c] w fun e w' => (∃ G : Nat, e = .returned (.tuple #[.agg #[.int .i64 n, .int .u64 G], .bool false])) ∧ Below w.heap.size w w' := by
  go_enter Tryd.func57, Tryd.ntmps57
  go_wp2_with (go_at_call 64; refine (HC.out _ ((Below.refl _ _).alloc (Nat.le_refl _) _)).mono ?_; rintro e w1 ⟨⟨G, rfl⟩, hb1⟩; have hz1 := hb1.size; have B1 := hid ((Blk.new w 72 #[.int .i64 0, .int .u64 0]).keep hb1); have HB1 := hid (((Below.refl w.heap.size w).alloc (Nat.le_refl _) (.cells #[.int .i64 0, .int .u64 0] 72)).trans (hb1.mono (by simp))); clear hb1)
  have HB2 := hid (HB1.out.alloc HB1.out.size (.cells #[.int .i64 n, .int .u64 G] 72))
  have B2 := hid (B1.out.alloc (.cells #[.int .i64 n, .int .u64 G] 72))
  have b6 := Blk.new w1 72 #[.int .i64 n, .int .u64 G]
  refine at_world fun w2 hw2 => ?_
  rw [← hw2] at HB2 B2 b6
  have c0 := b6.cell 0; have c1 := b6.cell 1
  have y0 := B2.out.cell 0; have y1 := B2.out.cell 1
  have f0 := B2.out.free 0; have f1 := B2.out.free 1
  simp only [List.getElem?_toArray, List.getElem?_cons_zero, List.getElem?_cons_succ] at c0 c1 y0 y1
  clear hw2 b6
  have kf := hid ((B2.out.set 0 (.int .i64 n)).set 1 (.int .u64 G))
  have hB := hid ((HB2.out.setCell (p := ⟨w.heap.size, 0, none⟩) (by simp) (.int .i64 n)).setCell (p := ⟨w.heap.size, 1, none⟩) (by simp) (.int .u64 G))
  go_region
  all_goals go_wp2
  all_goals first
    | (refine bodyPost_ret (results_row_tmp rfl _ _ w.heap.size 72 #[.int .i64 n, .int .u64 G] (0, 0) _ rfl kf.out Tryd.underlying72 rfl (by kernel_rfl)) rfl ⟨⟨G, rfl⟩, ?_⟩; first | exact hB.out | exact hB.out.drew)
    | (refine bodyPost_ret (results_row_tmp rfl _ _ w.heap.size 72 #[.int .i64 n, .int .u64 G] (0, 0) _ rfl kf.out.drew Tryd.underlying72 rfl (by kernel_rfl)) rfl ⟨⟨G, rfl⟩, ?_⟩; first | exact hB.out | exact hB.out.drew)
set_option maxRecDepth 100000 in
set_option maxHeartbeats 4000000 in
theorem readOpen (n : Nat) (A : Option Addr) (m c : Nat) (xs : List Int) (w : World) (hs : Sl w A m c (xs.map (Value.int .i64))) (hT : Tab w) (hn1 : 1 ≤ n) (hn6 : n ≤ 6) (hok : setsOk n xs = true) (hlst : famL 64 (setF xs).testBit = xs) (H : ¬ Fam n xs) :
    Calls Tryd.prog 57 #[.int .i64 n, .slice A m c] w fun e w' => e = .returned (.tuple #[.agg #[.int .i64 n, .int .u64 (setF xs : Nat)], .bool false]) ∧ Below w.heap.size w w' := by
  have hml : xs.length = m := hs.numlen
  have h64 := two64 hn6
  have hb := sets_iff.1 hok
  have hlt : setF xs < 2 ^ (2 ^ n) := setF_lt hb
  have hm64 : m ≤ 64 := by have := famL_len 64 (setF xs).testBit; rw [hlst] at this; omega
  have hF64 : setF xs < 18446744073709551616 := fam64 hn6 hlt
  have HOK := hid hok
  have HC := hid fun W (hW : Below w.heap.size w W) => collectF n A m c xs W hn1 hn6 hm64 (hs.below hW)
  have HLI := hid fun W (hW : Below w.heap.size w W) => listF n (setF xs) W hF64 (hT.below hW)
  have HEQ := hid fun A3 c3 W (hW : Below w.heap.size w W) (h3 : Sl W A3 m c3 (xs.map (Value.int .i64))) => show Calls Tryd.prog 19 #[.slice A3 m c3, .slice A m c] W fun e w' => e = .returned (.bool true) ∧ Below W.heap.size W w' from by
    have e := equalInts A3 A m c3 m c xs xs W h3 (hs.below hW)
    rw [show decide (xs = xs) = true from decide_eq_true rfl] at e
    exact e
  have HCL := hid fun W => closedF n (setF xs) W hn6 hlt
  have HCE := hid fun G (hG : Clo n (setF xs) G) => show ((G : Int) == (setF xs : Int)) = false from by
    rw [beq_eq_false_iff_ne]
    intro e
    exact H ((fam_read hn1 hn6 hb G hG).2 ⟨hlst, by omega⟩)
  rw [hlst, hml] at HLI
  have gn : ((n : Int) == (n : Int)) = true := by simp
  clear H hn1 hn6 hml h64 hm64 hF64 hlst hs hT hok hb hlt
  go_enter Tryd.func57, Tryd.ntmps57
  go_wp2_with (go_at_call 64; refine (HC.out _ ((Below.refl _ _).alloc (Nat.le_refl _) _)).mono ?_; rintro e w1 ⟨⟨G, rfl, hG⟩, hb1⟩; obtain rfl := hG HOK.out; rw [HOK.out]; have hz1 := hb1.size; have B1 := hid ((Blk.new w 72 #[.int .i64 0, .int .u64 0]).keep hb1); have HB1 := hid (((Below.refl w.heap.size w).alloc (Nat.le_refl _) (.cells #[.int .i64 0, .int .u64 0] 72)).trans (hb1.mono (by simp))); clear hb1 hG)
  have HB2 := hid (HB1.out.alloc HB1.out.size (.cells #[.int .i64 n, .int .u64 (setF xs : Nat)] 72))
  have B2 := hid (B1.out.alloc (.cells #[.int .i64 n, .int .u64 (setF xs : Nat)] 72))
  have b6 := Blk.new w1 72 #[.int .i64 n, .int .u64 (setF xs : Nat)]
  refine at_world fun w2 hw2 => ?_
  rw [← hw2] at HB2 B2 b6
  have B6 := hid b6
  have c0 := b6.cell 0; have c1 := b6.cell 1
  simp only [List.getElem?_toArray, List.getElem?_cons_zero, List.getElem?_cons_succ] at c0 c1
  have d0 : w2.drew.cell? ⟨w1.heap.size, 0, none⟩ = some (.int .i64 n) := c0
  have d1 : w2.drew.cell? ⟨w1.heap.size, 1, none⟩ = some (.int .u64 (setF xs : Nat)) := c1
  have hne : w1.heap.size ≠ w.heap.size := by simp at hz1; omega
  have HNE := hid hne
  clear hw2 b6 hz1 hne
  go_region_held3 (fun w' => w'.cell? ⟨w1.heap.size, 0, none⟩ = some (.int .i64 n) ∧ w'.cell? ⟨w1.heap.size, 1, none⟩ = some (.int .u64 (setF xs : Nat))) (first | assumption | go_keep)
    ((first
      | (go_at_call 65; have _q := HX4.out; refine (HCL.out _).mono ?_; rintro e w5 ⟨⟨G, rfl, hG⟩, hb5⟩; have gF := HCE.out _ hG; have hk5 : w5.cell? ⟨w1.heap.size, 0, none⟩ = some (.int .i64 n) ∧ w5.cell? ⟨w1.heap.size, 1, none⟩ = some (.int .u64 (setF xs : Nat)) := ⟨cell_keep hb5 hk4.1, cell_keep hb5 hk4.2⟩; have b5 := X4.out.keep hb5; have s5 := ((C4.out.keep hb5).far (p := ⟨w.heap.size, 0, none⟩) HNE.out (.int .i64 n)).far (p := ⟨w.heap.size, 1, none⟩) HNE.out (.int .u64 (setF xs : Nat)); have u0 := s5.cell 0; have u1 := s5.cell 1; clear s5; have y0 := b5.cell 0; have y1 := b5.cell 1; have f0 := b5.free 0; have f1 := b5.free 1; simp only [List.getElem?_toArray, List.getElem?_cons_zero, List.getElem?_cons_succ] at y0 y1 u0 u1; have X5 := hid b5; have HX5 := hid (below_call HX4.out hb5 HX4.out.size); clear hb5 b5)
      | (go_at_call 19; have _q := HX3.out; refine (HEQ.out _ _ _ HX3.out HO3.out).mono ?_; rintro e w4 ⟨rfl, hb4⟩; have hk4 : w4.cell? ⟨w1.heap.size, 0, none⟩ = some (.int .i64 n) ∧ w4.cell? ⟨w1.heap.size, 1, none⟩ = some (.int .u64 (setF xs : Nat)) := ⟨cell_keep hb4 hk3.1, cell_keep hb4 hk3.2⟩; have X4 := hid (X3.out.keep hb4); have C4 := hid (C3.out.keep hb4); have HX4 := hid (below_call HX3.out hb4 HX3.out.size); clear hb4)
      | (go_at_call 61; refine (HLI.out _ HB2.out.drew).mono ?_; rintro e w3 ⟨A3, c3, rfl, ho3, hb3⟩; have hk3 : w3.cell? ⟨w1.heap.size, 0, none⟩ = some (.int .i64 n) ∧ w3.cell? ⟨w1.heap.size, 1, none⟩ = some (.int .u64 (setF xs : Nat)) := ⟨cell_keep hb3 d0, cell_keep hb3 d1⟩; have HO3 := hid (Sl.of_own ho3); have X3 := hid (B2.out.drew.keep hb3); have C3 := hid (B6.out.drew.keep hb3); have HX3 := hid (below_call HB2.out.drew hb3 HB2.out.drew.size); clear hb3 ho3)))
  have kf := hid ((X5.out.set 0 (.int .i64 n)).set 1 (.int .u64 (setF xs : Nat)))
  go_wp2
  refine bodyPost_ret (results_row_tmp rfl _ _ w.heap.size 72 #[.int .i64 n, .int .u64 (setF xs : Nat)] (0, 0) _ rfl kf.out Tryd.underlying72 rfl (by kernel_rfl)) rfl ⟨rfl, ?_⟩
  exact ((HX5.out.setCell (p := ⟨w.heap.size, 0, none⟩) (by simp) _).setCell (p := ⟨w.heap.size, 1, none⟩) (by simp) _)

end Go.Proofs.YtjddbglbodkihaaDoor
