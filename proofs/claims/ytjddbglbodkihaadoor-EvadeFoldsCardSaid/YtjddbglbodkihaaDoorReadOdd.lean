/- Walk of evade.read where the list is not in order. Conditions: the slice reads as numbers; the table of the library stands. -/
import Derived.Test.YtjddbglbodkihaaDoorRead
namespace Go.Proofs.YtjddbglbodkihaaDoor
open Go.RowKit
attribute [local go_sem ↓] shl_p2 shl_u or_u shr_u and_shrF shr_v and_shr andNot_v

set_option maxRecDepth 100000 in
set_option maxHeartbeats 4000000 in
theorem readOdd (n : Nat) (A : Option Addr) (m c : Nat) (xs : List Int) (w : World) (hs : Sl w A m c (xs.map (Value.int .i64))) (hT : Tab w) (hn1 : 1 ≤ n) (hn6 : n ≤ 6) (hm64 : m ≤ 64) (hok : setsOk n xs = true) (hlst : famL 64 (setF xs).testBit ≠ xs) :
    Calls Tryd.prog 57 #[.int .i64 n, .slice A m c] w fun e w' => e = .returned (.tuple #[.agg #[.int .i64 n, .int .u64 (setF xs : Nat)], .bool false]) ∧ Below w.heap.size w w' := by
  have hml : xs.length = m := hs.numlen
  have hlt : setF xs < 2 ^ (2 ^ n) := setF_lt (sets_iff.1 hok)
  have hF64 : setF xs < 18446744073709551616 := fam64 hn6 hlt
  have HOK := hid hok
  have HC := hid fun W (hW : Below w.heap.size w W) => collectF n A m c xs W hn1 hn6 hm64 (hs.below hW)
  have HLI := hid fun W (hW : Below w.heap.size w W) => listF n (setF xs) W hF64 (hT.below hW)
  have HEQ := hid fun A3 c3 W (hW : Below w.heap.size w W) (h3 : Sl W A3 (famL 64 (setF xs).testBit).length c3 ((famL 64 (setF xs).testBit).map (Value.int .i64))) => show Calls Tryd.prog 19 #[.slice A3 (famL 64 (setF xs).testBit).length c3, .slice A m c] W fun e w' => e = .returned (.bool false) ∧ Below W.heap.size W w' from by
    have e := equalInts A3 A _ c3 m c _ xs W h3 (hs.below hW)
    rw [decide_eq_false hlst] at e
    exact e
  clear hn1 hn6 hml hm64 hF64 hlst hs hT hok hlt
  generalize famL 64 (setF xs).testBit = L at *
  go_enter Tryd.func57, Tryd.ntmps57
  go_wp2_with (go_at_call 64; refine (HC.out _ ((Below.refl _ _).alloc (Nat.le_refl _) _)).mono ?_; rintro e w1 ⟨⟨G, rfl, hG⟩, hb1⟩; obtain rfl := hG HOK.out; rw [HOK.out]; have hz1 := hb1.size; have B1 := hid ((Blk.new w 72 #[.int .i64 0, .int .u64 0]).keep hb1); have HB1 := hid (((Below.refl w.heap.size w).alloc (Nat.le_refl _) (.cells #[.int .i64 0, .int .u64 0] 72)).trans (hb1.mono (by simp))); clear hb1 hG)
  have HB2 := hid (HB1.out.alloc HB1.out.size (.cells #[.int .i64 n, .int .u64 (setF xs : Nat)] 72))
  have B2 := hid (B1.out.alloc (.cells #[.int .i64 n, .int .u64 (setF xs : Nat)] 72))
  have b6 := Blk.new w1 72 #[.int .i64 n, .int .u64 (setF xs : Nat)]
  refine at_world fun w2 hw2 => ?_
  rw [← hw2] at HB2 B2 b6
  have B6 := hid b6
  have c0 := b6.cell 0; have c1 := b6.cell 1
  simp only [List.getElem?_toArray, List.getElem?_cons_zero, List.getElem?_cons_succ] at c0 c1
  have d0 : w2.drew.cell? ⟨w1.heap.size, 0, none⟩ = some (.int .i64 n) := c0
  have d1 : w2.drew.cell? ⟨w1.heap.size, 1, none⟩ = some (.int .u64 (setF xs : Nat)) := c1
  have hne : w1.heap.size ≠ w.heap.size := by simp at hz1; omega
  have HNE := hid hne
  clear hw2 b6 hz1 hne
  go_region_with
    ((first
      | (go_at_call 19; have _q := HX3.out; refine (HEQ.out _ _ _ HX3.out HO3.out).mono ?_; rintro e w4 ⟨rfl, hb4⟩; have hk4 : w4.cell? ⟨w1.heap.size, 0, none⟩ = some (.int .i64 n) ∧ w4.cell? ⟨w1.heap.size, 1, none⟩ = some (.int .u64 (setF xs : Nat)) := ⟨cell_keep hb4 hk3.1, cell_keep hb4 hk3.2⟩; have X4 := hid (X3.out.keep hb4); have C4 := hid (C3.out.keep hb4); have HX4 := hid (below_call HX3.out hb4 HX3.out.size); have b5 := X4.out; have s5 := (C4.out.far (p := ⟨w.heap.size, 0, none⟩) HNE.out (.int .i64 n)).far (p := ⟨w.heap.size, 1, none⟩) HNE.out (.int .u64 (setF xs : Nat)); have u0 := s5.cell 0; have u1 := s5.cell 1; clear s5; have y0 := b5.cell 0; have y1 := b5.cell 1; have f0 := b5.free 0; have f1 := b5.free 1; simp only [List.getElem?_toArray, List.getElem?_cons_zero, List.getElem?_cons_succ] at y0 y1 u0 u1; have X5 := hid b5; have HX5 := hid HX4.out; clear hb4 b5)
      | (go_at_call 61; refine (HLI.out _ (by first | exact HB2.out.drew | exact HB2.out)).mono ?_; rintro e w3 ⟨A3, c3, rfl, ho3, hb3⟩; have hk3 : w3.cell? ⟨w1.heap.size, 0, none⟩ = some (.int .i64 n) ∧ w3.cell? ⟨w1.heap.size, 1, none⟩ = some (.int .u64 (setF xs : Nat)) := ⟨cell_keep hb3 d0, cell_keep hb3 d1⟩; have HO3 := hid (Sl.of_own ho3); have X3 := hid (B2.out.drew.keep hb3); have C3 := hid (B6.out.drew.keep hb3); have HX3 := hid (below_call HB2.out.drew hb3 HB2.out.drew.size); clear hb3 ho3)))
  all_goals go_wp2
  all_goals first
    | (refine bodyPost_ret (results_row_tmp rfl _ _ w.heap.size 72 #[.int .i64 n, .int .u64 (setF xs : Nat)] (0, 0) _ rfl ((X5.out.set 0 (.int .i64 n)).set 1 (.int .u64 (setF xs : Nat))) Tryd.underlying72 rfl (by kernel_rfl)) rfl ⟨rfl, ?_⟩
       first
         | exact ((HX5.out.setCell (p := ⟨w.heap.size, 0, none⟩) (by simp) _).setCell (p := ⟨w.heap.size, 1, none⟩) (by simp) _)
         | exact ((HX5.out.setCell (p := ⟨w.heap.size, 0, none⟩) (by simp) _).setCell (p := ⟨w.heap.size, 1, none⟩) (by simp) _).drew)
    | (refine bodyPost_ret (results_row_tmp rfl _ _ w.heap.size 72 #[.int .i64 n, .int .u64 (setF xs : Nat)] (0, 0) _ rfl ((X5.out.set 0 (.int .i64 n)).set 1 (.int .u64 (setF xs : Nat))).drew Tryd.underlying72 rfl (by kernel_rfl)) rfl ⟨rfl, ?_⟩
       first
         | exact ((HX5.out.setCell (p := ⟨w.heap.size, 0, none⟩) (by simp) _).setCell (p := ⟨w.heap.size, 1, none⟩) (by simp) _)
         | exact ((HX5.out.setCell (p := ⟨w.heap.size, 0, none⟩) (by simp) _).setCell (p := ⟨w.heap.size, 1, none⟩) (by simp) _).drew)
end Go.Proofs.YtjddbglbodkihaaDoor
