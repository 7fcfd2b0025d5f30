/- Walk of clone at the first state: all of its slices are nil. No condition. -/
import Derived.Test.YtkjinamjdjijcaaGreatDoorName
import Derived.BigRegion
import Derived.Deep.CutRange
import Derived.Deep.RegionHeld3
namespace Go.Proofs.YtkjinamjdjijcaaGreatDoor
open Go.RowKit Go.Maps

theorem cloneS0 (w : World) : Calls Tryz.prog 38 #[.slice none 0 0] w fun e w' => e = .returned (.slice none 0 0) ∧ w = w' := by
  have qT : ∀ (w : World) (a : Option Addr) (n c n' c' : Nat), (binOp .eql 53 (.slice a n c) (.slice none n' c')).run Tryz.prog w = .ok (.bool a.isNone) w := fun w a n c n' c' => Lib.run_eql_slice_nil w _ _ a n c n' c' Tryz.underlying53
  go_enter Tryz.func38, Tryz.ntmps38
  go_wp2
  go_ret
  exact ⟨rfl, rfl⟩
theorem cloneI0 (w : World) : Calls Tryz.prog 59 #[.slice none 0 0] w fun e w' => e = .returned (.slice none 0 0) ∧ w = w' := by
  have qT : ∀ (w : World) (a : Option Addr) (n c n' c' : Nat), (binOp .eql 98 (.slice a n c) (.slice none n' c')).run Tryz.prog w = .ok (.bool a.isNone) w := fun w a n c n' c' => Lib.run_eql_slice_nil w _ _ a n c n' c' Tryz.underlying98
  go_enter Tryz.func59, Tryz.ntmps59
  go_wp2
  go_ret
  exact ⟨rfl, rfl⟩
theorem cloneB0 (w : World) : Calls Tryz.prog 60 #[.slice none 0 0] w fun e w' => e = .returned (.slice none 0 0) ∧ w = w' := by
  have qT : ∀ (w : World) (a : Option Addr) (n c n' c' : Nat), (binOp .eql 99 (.slice a n c) (.slice none n' c')).run Tryz.prog w = .ok (.bool a.isNone) w := fun w a n c n' c' => Lib.run_eql_slice_nil w _ _ a n c n' c' Tryz.underlying99
  go_enter Tryz.func60, Tryz.ntmps60
  go_wp2
  go_ret
  exact ⟨rfl, rfl⟩
set_option maxRecDepth 100000 in
set_option maxHeartbeats 4000000 in
theorem cloneBeg (sb : Nat) (w : World) (h : Blk w sb 101 begC) :
    Calls Tryz.prog 46 #[.pointer (some ⟨sb, 0, none⟩)] w fun e w' => ∃ nb, e = .returned (.pointer (some ⟨nb, 0, none⟩)) ∧ Blk w' nb 101 begC ∧ w.heap.size ≤ nb ∧ Below w.heap.size w w' := by
  have HS0 := hid fun W => cloneS0 W
  have HI0 := hid fun W => cloneI0 W
  have HB0 := hid fun W => cloneB0 W
  have c0 := h.cell 0
  have c1 := h.cell 1
  have c2 := h.cell 2
  have c3 := h.cell 3
  have c4 := h.cell 4
  have c5 := h.cell 5
  have c6 := h.cell 6
  have c7 := h.cell 7
  have c8 := h.cell 8
  have c9 := h.cell 9
  simp only [begC, List.getElem?_toArray, List.getElem?_cons_zero, List.getElem?_cons_succ] at c0 c1 c2 c3 c4 c5 c6 c7 c8 c9
  have HB := hid h
  have HLT := hid h.lt
  clear h
  go_enter Tryz.func46, Tryz.ntmps46
  have K1 := hid (Blk.new w 101 begC)
  have HLO := hid ((Below.refl _ w).alloc (Nat.le_refl _) (.cells begC 101))
  go_wp2_with fail
  refine at_world fun W1 hW1 => ?_
  have HK1 := hid (show Blk W1 w.heap.size 101 begC from by rw [hW1]; exact K1.out)
  have HLO1 := hid (show Below w.heap.size w W1 from by rw [hW1]; exact HLO.out)
  clear hW1 K1 HLO c0 c1 c2 c3 c4 c5 c6 c7 c8 c9
  go_cut [2] from 7 to 18 (fun t wx => t = .pointer none ∧ Hid (Blk wx w.heap.size 101 begC) ∧ Hid (Below w.heap.size w wx))
  case first =>
    have c0 := (HB.out.keep HLO1.out).cell 0
    have c1 := (HB.out.keep HLO1.out).cell 1
    have d0 := HK1.out.cell 0
    have d1 := HK1.out.cell 1
    have f0 := HK1.out.free 0
    have f1 := HK1.out.free 1
    simp only [begC, List.getElem?_toArray, List.getElem?_cons_zero, List.getElem?_cons_succ] at c0 c1 d0 d1
    have hne : ¬ sb = w.heap.size := by have := HLT.out; omega
    have hne2 : ¬ w.heap.size = sb := fun e => hne e.symm
    go_region_held3 (fun w' => w'.cell? ⟨sb, 0, none⟩ = some (.slice none 0 0) ∧ w'.cell? ⟨sb, 1, none⟩ = some (.slice none 0 0)) (first | assumption | go_keep | (simp [hne, hne2, c0, c1]; done) | (exact ⟨c0, c1⟩)) (first
      | (go_at_call 38; refine (HS0.out _).mono ?_; rintro e w' ⟨rfl, rfl⟩)
      | (go_at_call 59; refine (HI0.out _).mono ?_; rintro e w' ⟨rfl, rfl⟩))
    all_goals go_wp2_with fail
    all_goals go_meet
    case rel => exact ⟨rfl, hid (((HK1.out.drew).set 0 (.slice none 0 0)).set 1 (.slice none 0 0)), hid (((HLO1.out.drew).setCell (p := ⟨w.heap.size, 0, none⟩) (Nat.le_refl _) _).setCell (p := ⟨w.heap.size, 1, none⟩) (Nat.le_refl _) _)⟩
  case rest =>
    obtain ⟨rfl, HK2, HLO2⟩ := hcut
    have c2 := (HB.out.keep HLO2.out).cell 2
    have c3 := (HB.out.keep HLO2.out).cell 3
    have c9 := (HB.out.keep HLO2.out).cell 9
    have d2 := HK2.out.cell 2
    have d3 := HK2.out.cell 3
    have d9 := HK2.out.cell 9
    have f2 := HK2.out.free 2
    have f3 := HK2.out.free 3
    have f9 := HK2.out.free 9
    simp only [begC, List.getElem?_toArray, List.getElem?_cons_zero, List.getElem?_cons_succ] at c2 c3 c9 d2 d3 d9
    have hne : ¬ sb = w.heap.size := by have := HLT.out; omega
    have hne2 : ¬ w.heap.size = sb := fun e => hne e.symm
    go_wp2_with fail
    go_region_held3 (fun w' => w'.cell? ⟨sb, 2, none⟩ = some (.slice none 0 0) ∧ w'.cell? ⟨sb, 3, none⟩ = some (.slice none 0 0) ∧ w'.cell? ⟨sb, 9, none⟩ = some (.slice none 0 0)) (first | assumption | go_keep | (simp [hne, hne2, c2, c3, c9]; done) | (exact ⟨c2, c3, c9⟩)) (first
      | (go_at_call 38; refine (HS0.out _).mono ?_; rintro e w' ⟨rfl, rfl⟩)
      | (go_at_call 59; refine (HI0.out _).mono ?_; rintro e w' ⟨rfl, rfl⟩)
      | (go_at_call 60; refine (HB0.out _).mono ?_; rintro e w' ⟨rfl, rfl⟩))
    all_goals go_wp2
    all_goals go_ret
    exact ⟨w.heap.size, rfl, ((((HK2.out.drew).set 2 (.slice none 0 0)).set 3 (.slice none 0 0)).set 9 (.slice none 0 0)), Nat.le_refl _, ((((HLO2.out.drew).setCell (p := ⟨w.heap.size, 2, none⟩) (Nat.le_refl _) _).setCell (p := ⟨w.heap.size, 3, none⟩) (Nat.le_refl _) _).setCell (p := ⟨w.heap.size, 9, none⟩) (Nat.le_refl _) _)⟩
end Go.Proofs.YtkjinamjdjijcaaGreatDoor
