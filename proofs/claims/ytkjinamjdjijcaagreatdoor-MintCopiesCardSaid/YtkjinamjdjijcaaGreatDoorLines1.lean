/- Walks of order's lines and Lines, and of roll, at one element. Condition: the library's table of 64 numbers stands in its variable. -/
import Derived.Test.YtkjinamjdjijcaaGreatDoorOrder3
namespace Go.Proofs.YtkjinamjdjijcaaGreatDoor
open Go.RowKit Go.Shelf

set_option maxRecDepth 100000 in
set_option maxHeartbeats 4000000 in
theorem linesOne (w : World) (hT : Tab w) :
    Calls Tryz.prog 132 #[.agg ord1] w fun e w' => ∃ O oc R rc, e = .returned (.slice O 1 oc) ∧ w'.ownsRow w.heap.size 98 1 (.slice O 1 oc) 1 [.slice R 1 rc] ∧ w'.ownsRow w.heap.size 3 1 (.slice R 1 rc) 1 [.int .i64 0] ∧ Below w.heap.size w w' := by
  have he : ∀ args W, (callFunc 182 args).run Tryz.prog W = .ok (.enter 182 args) W := fun args W => enters Tryz.func182 (by kernel_rfl) rfl args W
  have HT := hid hT
  clear hT
  unfold ord1
  go_enter Tryz.func132, Tryz.ntmps132
  go_wp2_with fail
  have HLN := hid (show LnS ((((w.alloc (.cells #[.int .i64 1, .int .i64 0, .int .i64 0, .int .i64 0, .int .i64 0, .int .i64 0, .int .i64 0] 174)).alloc (.cells #[.slice none 0 0] 151)).alloc (.cells #[.slice none 0 0] 98)).alloc (.cells #[.func (.func 182) #[] #[.pointer (some ⟨w.heap.size + 1, 0, none⟩), .pointer (some ⟨w.heap.size + 1 + 1, 0, none⟩), .pointer (some ⟨w.heap.size, 0, none⟩), .pointer (some ⟨w.heap.size + 1 + 1 + 1, 0, none⟩)]] 266)) w.heap.size (w.heap.size + 1) (w.heap.size + 1 + 1) (w.heap.size + 1 + 1 + 1) (.slice none 0 0) (.slice none 0 0) from
    ⟨(((Blk.new w _ _).alloc _).alloc _).alloc _, ((Blk.new_at _ _ _ (by simp)).alloc _).alloc _, (Blk.new_at _ _ _ (by simp)).alloc _, Blk.new_at _ _ _ (by simp)⟩)
  have HLO := hid (show Below w.heap.size w ((((w.alloc (.cells #[.int .i64 1, .int .i64 0, .int .i64 0, .int .i64 0, .int .i64 0, .int .i64 0, .int .i64 0] 174)).alloc (.cells #[.slice none 0 0] 151)).alloc (.cells #[.slice none 0 0] 98)).alloc (.cells #[.func (.func 182) #[] #[.pointer (some ⟨w.heap.size + 1, 0, none⟩), .pointer (some ⟨w.heap.size + 1 + 1, 0, none⟩), .pointer (some ⟨w.heap.size, 0, none⟩), .pointer (some ⟨w.heap.size + 1 + 1 + 1, 0, none⟩)]] 266)) from ((((Below.refl _ w).alloc (Nat.le_refl _) _).alloc (by simp) _).alloc (by simp; omega) _).alloc (by simp; omega) _)
  generalize ((((w.alloc (.cells #[.int .i64 1, .int .i64 0, .int .i64 0, .int .i64 0, .int .i64 0, .int .i64 0, .int .i64 0] 174)).alloc (.cells #[.slice none 0 0] 151)).alloc (.cells #[.slice none 0 0] 98)).alloc (.cells #[.func (.func 182) #[] #[.pointer (some ⟨w.heap.size + 1, 0, none⟩), .pointer (some ⟨w.heap.size + 1 + 1, 0, none⟩), .pointer (some ⟨w.heap.size, 0, none⟩), .pointer (some ⟨w.heap.size + 1 + 1 + 1, 0, none⟩)]] 266)) = W at *
  have HP := hid HT.out.pos
  have HTW := hid (HT.out.below HLO.out)
  have z := HLN.out.grow.cell 0
  have o0 := HLN.out.ord.cell 0
  have o1 := HLN.out.ord.cell 1
  have o2 := HLN.out.ord.cell 2
  have o3 := HLN.out.ord.cell 3
  have o4 := HLN.out.ord.cell 4
  have o5 := HLN.out.ord.cell 5
  have o6 := HLN.out.ord.cell 6
  simp only [ord1, List.getElem?_toArray, List.getElem?_cons_zero, List.getElem?_cons_succ] at z o0 o1 o2 o3 o4 o5 o6
  have HAL := hid (allOne W.drew)
  unfold ord1 at HAL
  go_region_held3 (fun w' => w'.cell? ⟨w.heap.size + 1 + 1 + 1, 0, none⟩ = some (.func (.func 182) #[] #[.pointer (some ⟨w.heap.size + 1, 0, none⟩), .pointer (some ⟨w.heap.size + 1 + 1, 0, none⟩), .pointer (some ⟨w.heap.size, 0, none⟩), .pointer (some ⟨w.heap.size + 1 + 1 + 1, 0, none⟩)]) ∧ w'.cell? ⟨w.heap.size, 0, none⟩ = some (.int .i64 1) ∧ w'.cell? ⟨w.heap.size, 1, none⟩ = some (.int .i64 0) ∧ w'.cell? ⟨w.heap.size, 2, none⟩ = some (.int .i64 0) ∧ w'.cell? ⟨w.heap.size, 3, none⟩ = some (.int .i64 0) ∧ w'.cell? ⟨w.heap.size, 4, none⟩ = some (.int .i64 0) ∧ w'.cell? ⟨w.heap.size, 5, none⟩ = some (.int .i64 0) ∧ w'.cell? ⟨w.heap.size, 6, none⟩ = some (.int .i64 0)) (first | exact ⟨z, o0, o1, o2, o3, o4, o5, o6⟩ | exact HK.out | exact HK2.out) (first
    | (go_at_call 183; refine (HAL.out).mono ?_; rintro e w5 ⟨rfl, b5⟩; have B5 := hid b5; have HK : Hid (w5.cell? ⟨w.heap.size + 1 + 1 + 1, 0, none⟩ = some (.func (.func 182) #[] #[.pointer (some ⟨w.heap.size + 1, 0, none⟩), .pointer (some ⟨w.heap.size + 1 + 1, 0, none⟩), .pointer (some ⟨w.heap.size, 0, none⟩), .pointer (some ⟨w.heap.size + 1 + 1 + 1, 0, none⟩)]) ∧ w5.cell? ⟨w.heap.size, 0, none⟩ = some (.int .i64 1) ∧ w5.cell? ⟨w.heap.size, 1, none⟩ = some (.int .i64 0) ∧ w5.cell? ⟨w.heap.size, 2, none⟩ = some (.int .i64 0) ∧ w5.cell? ⟨w.heap.size, 3, none⟩ = some (.int .i64 0) ∧ w5.cell? ⟨w.heap.size, 4, none⟩ = some (.int .i64 0) ∧ w5.cell? ⟨w.heap.size, 5, none⟩ = some (.int .i64 0) ∧ w5.cell? ⟨w.heap.size, 6, none⟩ = some (.int .i64 0)) := hid (And.intro (cell_keep b5 z) (And.intro (cell_keep b5 o0) (And.intro (cell_keep b5 o1) (And.intro (cell_keep b5 o2) (And.intro (cell_keep b5 o3) (And.intro (cell_keep b5 o4) (And.intro (cell_keep b5 o5) (cell_keep b5 o6)))))))); clear b5)
    | (go_at_call 182; refine (growOne w.heap.size (w.heap.size + 1) (w.heap.size + 1 + 1) (w.heap.size + 1 + 1 + 1) w5 (HLN.out.keep ((Below.refl _ W).drew.trans B5.out)) (HTW.out.below ((Below.refl _ W).drew.trans B5.out)) (by have := HP.out; omega)).mono ?_; rintro e w6 ⟨rfl, hO, hC⟩; have HO := hid hO; have HC := hid hC; have KO := hid (hC.blk (HLN.out.keep ((Below.refl _ W).drew.trans B5.out)).ord (by omega)); have KG := hid (hC.blk (HLN.out.keep ((Below.refl _ W).drew.trans B5.out)).grow (by omega)); have HK2 : Hid (w6.cell? ⟨w.heap.size + 1 + 1 + 1, 0, none⟩ = some (.func (.func 182) #[] #[.pointer (some ⟨w.heap.size + 1, 0, none⟩), .pointer (some ⟨w.heap.size + 1 + 1, 0, none⟩), .pointer (some ⟨w.heap.size, 0, none⟩), .pointer (some ⟨w.heap.size + 1 + 1 + 1, 0, none⟩)]) ∧ w6.cell? ⟨w.heap.size, 0, none⟩ = some (.int .i64 1) ∧ w6.cell? ⟨w.heap.size, 1, none⟩ = some (.int .i64 0) ∧ w6.cell? ⟨w.heap.size, 2, none⟩ = some (.int .i64 0) ∧ w6.cell? ⟨w.heap.size, 3, none⟩ = some (.int .i64 0) ∧ w6.cell? ⟨w.heap.size, 4, none⟩ = some (.int .i64 0) ∧ w6.cell? ⟨w.heap.size, 5, none⟩ = some (.int .i64 0) ∧ w6.cell? ⟨w.heap.size, 6, none⟩ = some (.int .i64 0)) := hid ⟨KG.out.cell 0, KO.out.cell 0, KO.out.cell 1, KO.out.cell 2, KO.out.cell 3, KO.out.cell 4, KO.out.cell 5, KO.out.cell 6⟩; clear hO hC))
  obtain ⟨O, oc, R, rc, h1, h2, h3⟩ := HO.out
  have x0 := h1.cell 0
  simp only [List.getElem?_toArray, List.getElem?_cons_zero] at x0
  have hlow := HC.out.below (HLO.out.drew.trans (B5.out.mono HLO.out.size)) (Nat.le_trans HLO.out.size B5.out.size) (fun i e => by omega)
  have HLW := hid hlow
  have H2 := hid h2
  have H3 := hid h3
  have H5S := hid (show w.heap.size ≤ w5.heap.size from Nat.le_trans HLO.out.size B5.out.size)
  clear hlow h1 h2 h3
  go_wp2
  go_ret
  exact ⟨O, oc, R, rc, rfl, own_more H2.out H5S.out, own_more H3.out H5S.out, HLW.out⟩
end Go.Proofs.YtkjinamjdjijcaaGreatDoor
