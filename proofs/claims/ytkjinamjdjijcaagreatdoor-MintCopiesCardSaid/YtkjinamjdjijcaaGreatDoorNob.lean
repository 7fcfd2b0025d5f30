/- Walks of the methods at copies and mints that no call returned. Condition: none says that nobody made them. -/
import Derived.Test.YtkjinamjdjijcaaGreatDoorBegin
namespace Go.Proofs.YtkjinamjdjijcaaGreatDoor
open Go.RowKit Go.Maps

/-- A copy that no call made. -/
def NoC (w : World) (v : Value) : Prop := ∃ a, v = .pointer a ∧ Calls Tryz.prog 26 #[v] w fun e w' => e = .returned (.bool true) ∧ w = w'
/-- A mint that no call made. -/
def NoM (w : World) (v : Value) : Prop := ∃ a, v = .pointer a ∧ Calls Tryz.prog 34 #[v] w fun e w' => e = .returned (.bool true) ∧ w = w'
theorem noC_nil (w : World) : NoC w (.pointer none) := ⟨none, rfl, noneNil w⟩
set_option maxRecDepth 100000 in
theorem noC_empty {w : World} {cb : Nat} {x y : Value} (h : Blk w cb 36 #[.map none, x, y]) : NoC w (.pointer (some ⟨cb, 0, none⟩)) := by
  have c0 := h.cell 0
  simp only [List.getElem?_toArray, List.getElem?_cons_zero] at c0
  have qT : ∀ (w : World) (r : Option Nat), (binOp .eql 34 (.map r) (.map none)).run Tryz.prog w = .ok (.bool r.isNone) w := fun w r => run_eql_map_nil w _ _ _ r Tryz.underlying34
  refine ⟨_, rfl, ?_⟩
  clear h
  go_enter Tryz.func26, Tryz.ntmps26
  go_wp2
  go_ret
  exact ⟨rfl, rfl⟩
set_option maxRecDepth 100000 in
theorem noM_nil (w : World) : NoM w (.pointer none) := by
  refine ⟨none, rfl, ?_⟩
  go_enter Tryz.func34, Tryz.ntmps34
  go_wp2
  go_ret
  exact ⟨rfl, rfl⟩
set_option maxRecDepth 100000 in
theorem noM_empty {w : World} {b : Nat} {x y z u : Value} (h : Blk w b 55 #[x, y, .pointer none, z, u]) : NoM w (.pointer (some ⟨b, 0, none⟩)) := by
  have c2 := h.cell 2
  simp only [List.getElem?_toArray, List.getElem?_cons_zero, List.getElem?_cons_succ] at c2
  refine ⟨_, rfl, ?_⟩
  clear h
  go_enter Tryz.func34, Tryz.ntmps34
  go_wp2
  go_ret
  exact ⟨rfl, rfl⟩

set_option maxRecDepth 100000 in
theorem readyN (v : Value) (w : World) (h : NoC w v) :
    Calls Tryz.prog 27 #[v] w fun e w' => e = .returned (.int .i64 1) ∧ w = w' := by
  obtain ⟨a, rfl, h⟩ := h
  have HN := hid (h)
  clear h
  go_enter Tryz.func27, Tryz.ntmps27
  go_wp2_with fail
  refine (HN.out).mono ?_; rintro e w' ⟨rfl, rfl⟩
  go_wp2
  go_ret
  exact ⟨rfl, rfl⟩

set_option maxRecDepth 100000 in
theorem promiseN (v : Value) (m : Int) (w : World) (h : NoC w v) :
    Calls Tryz.prog 12 #[v, .int .i64 m] w fun e w' => e = .returned (.int .i64 1) ∧ w = w' := by
  obtain ⟨a, rfl, h⟩ := h
  have HN := hid (readyN _ w ⟨a, rfl, h⟩)
  clear h
  go_enter Tryz.func12, Tryz.ntmps12
  go_wp2_with fail
  refine (HN.out).mono ?_; rintro e w' ⟨rfl, rfl⟩
  go_wp2
  go_ret
  exact ⟨rfl, rfl⟩

set_option maxRecDepth 100000 in
theorem putN (v : Value) (i m : Int) (s : ByteArray) (w : World) (h : NoC w v) :
    Calls Tryz.prog 13 #[v, .int .i64 i, .int .i64 m, .string s] w fun e w' => e = .returned (.int .i64 1) ∧ w = w' := by
  obtain ⟨a, rfl, h⟩ := h
  have HN := hid (readyN _ w ⟨a, rfl, h⟩)
  clear h
  go_enter Tryz.func13, Tryz.ntmps13
  go_wp2_with fail
  refine (HN.out).mono ?_; rintro e w' ⟨rfl, rfl⟩
  go_wp2
  go_ret
  exact ⟨rfl, rfl⟩

set_option maxRecDepth 100000 in
theorem getN (v : Value) (i : Int) (w : World) (h : NoC w v) :
    Calls Tryz.prog 10 #[v, .int .i64 i] w fun e w' => e = .returned (.tuple #[.int .i64 0, .string ByteArray.empty, .int .i64 1]) ∧ w = w' := by
  obtain ⟨a, rfl, h⟩ := h
  have HN := hid (readyN _ w ⟨a, rfl, h⟩)
  clear h
  go_enter Tryz.func10, Tryz.ntmps10
  go_wp2_with fail
  refine (HN.out).mono ?_; rintro e w' ⟨rfl, rfl⟩
  go_wp2
  go_ret3
  exact ⟨rfl, rfl⟩

set_option maxRecDepth 100000 in
theorem markN (v : Value) (w : World) (h : NoC w v) :
    Calls Tryz.prog 11 #[v] w fun e w' => e = .returned (.tuple #[.int .i64 0, .int .i64 1]) ∧ w = w' := by
  obtain ⟨a, rfl, h⟩ := h
  have HN := hid (readyN _ w ⟨a, rfl, h⟩)
  clear h
  go_enter Tryz.func11, Tryz.ntmps11
  go_wp2_with fail
  refine (HN.out).mono ?_; rintro e w' ⟨rfl, rfl⟩
  go_wp2
  go_ret2
  exact ⟨rfl, rfl⟩

set_option maxRecDepth 100000 in
theorem reachN (v : Value) (on : Bool) (w : World) (h : NoC w v) :
    Calls Tryz.prog 9 #[v, .bool on] w fun e w' => e = .returned (.tuple #[]) ∧ w = w' := by
  obtain ⟨a, rfl, h⟩ := h
  have HN := hid (h)
  clear h
  go_enter Tryz.func9, Tryz.ntmps9
  go_wp2_with fail
  refine (HN.out).mono ?_; rintro e w' ⟨rfl, rfl⟩
  go_wp2
  go_end0
  exact ⟨rfl, rfl⟩

set_option maxRecDepth 100000 in
theorem doN (v : Value) (s : ByteArray) (w : World) (h : NoM w v) :
    Calls Tryz.prog 16 #[v, .string s] w fun e w' => e = .returned (.tuple #[.string ByteArray.empty, .int .i64 1]) ∧ w = w' := by
  obtain ⟨a, rfl, h⟩ := h
  have HN := hid (h)
  clear h
  go_enter Tryz.func16, Tryz.ntmps16
  go_wp2_with fail
  refine (HN.out).mono ?_; rintro e w' ⟨rfl, rfl⟩
  go_wp2
  go_ret2
  exact ⟨rfl, rfl⟩

set_option maxRecDepth 100000 in
theorem askN (v : Value) (s : ByteArray) (w : World) (h : NoM w v) :
    Calls Tryz.prog 17 #[v, .string s] w fun e w' => e = .returned (.tuple #[.string ByteArray.empty, .int .i64 1]) ∧ w = w' := by
  obtain ⟨a, rfl, h⟩ := h
  have HN := hid (h)
  clear h
  go_enter Tryz.func17, Tryz.ntmps17
  go_wp2_with fail
  refine (HN.out).mono ?_; rintro e w' ⟨rfl, rfl⟩
  go_wp2
  go_ret2
  exact ⟨rfl, rfl⟩

set_option maxRecDepth 100000 in
theorem journalN (v : Value) (w : World) (h : NoM w v) :
    Calls Tryz.prog 18 #[v] w fun e w' => e = .returned (.slice none 0 0) ∧ w = w' := by
  obtain ⟨a, rfl, h⟩ := h
  have HN := hid (h)
  clear h
  go_enter Tryz.func18, Tryz.ntmps18
  go_wp2_with fail
  refine (HN.out).mono ?_; rintro e w' ⟨rfl, rfl⟩
  go_wp2
  go_ret
  exact ⟨rfl, rfl⟩

set_option maxRecDepth 100000 in
theorem stateN (v : Value) (w : World) (h : NoM w v) :
    Calls Tryz.prog 19 #[v] w fun e w' => e = .returned (.string ByteArray.empty) ∧ w = w' := by
  obtain ⟨a, rfl, h⟩ := h
  have HN := hid (h)
  clear h
  go_enter Tryz.func19, Tryz.ntmps19
  go_wp2_with fail
  refine (HN.out).mono ?_; rintro e w' ⟨rfl, rfl⟩
  go_wp2
  go_ret
  exact ⟨rfl, rfl⟩

set_option maxRecDepth 100000 in
theorem outN (v : Value) (w : World) (h : NoM w v) :
    Calls Tryz.prog 20 #[v] w fun e w' => e = .returned (.bool false) ∧ w = w' := by
  obtain ⟨a, rfl, h⟩ := h
  have HN := hid (h)
  clear h
  go_enter Tryz.func20, Tryz.ntmps20
  go_wp2_with fail
  refine (HN.out).mono ?_; rintro e w' ⟨rfl, rfl⟩
  go_wp2
  go_ret
  exact ⟨rfl, rfl⟩

end Go.Proofs.YtkjinamjdjijcaaGreatDoor
