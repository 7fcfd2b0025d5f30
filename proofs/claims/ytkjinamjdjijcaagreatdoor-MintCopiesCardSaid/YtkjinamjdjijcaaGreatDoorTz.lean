/- The contract of math/bits.TrailingZeros64 and TrailingZeros, laid at this program. Condition: the library's table of 64 numbers stands in its variable. -/
import Derived.Shelf.Spec.TrailingZeros
import Derived.Test.YtkjinamjdjijcaaGreatDoorProg
import Derived.Test.YtkjinamjdjijcaaGreatDoorMem2
namespace Go.Proofs.YtkjinamjdjijcaaGreatDoor
open Go.Shelf Go.RowKit
def tz_ren : Go.Shelf.Ren := ⟨fun | 29 => 200 | n => n, fun | 22 => 224 | 25 => 49 | 54 => 333 | n => n, fun | 1 => 3 | n => n⟩
theorem tzLays : Go.Proofs.Lays7.n29 Tryz.prog tz_ren := {
  mixed := by kernel_rfl
  f29 := Tryz.func200.trans (congrArg some (by kernel_rfl))
  t0 := Tryz.underlying0
  a0 := Tryz.isAgg0
  z0 := Tryz.sizeOf0
  v0 := Tryz.zeroValue0
  i0 := by kernel_rfl
  t3 := Tryz.underlying3
  a3 := Tryz.isAgg3
  z3 := Tryz.sizeOf3
  v3 := Tryz.zeroValue3
  i3 := by kernel_rfl
  t4 := Tryz.underlying4
  a4 := Tryz.isAgg4
  z4 := Tryz.sizeOf4
  v4 := Tryz.zeroValue4
  i4 := by kernel_rfl
  t5 := Tryz.underlying5
  a5 := Tryz.isAgg5
  z5 := Tryz.sizeOf5
  v5 := Tryz.zeroValue5
  i5 := by kernel_rfl
  t22 := Tryz.underlying224
  a22 := Tryz.isAgg224
  z22 := Tryz.sizeOf224
  v22 := Tryz.zeroValue224
  i22 := by kernel_rfl
  t25 := Tryz.underlying49
  a25 := Tryz.isAgg49
  z25 := Tryz.sizeOf49
  v25 := Tryz.zeroValue49
  i25 := by kernel_rfl
  t54 := Tryz.underlying333
  a54 := Tryz.isAgg333
  z54 := Tryz.sizeOf333
  g1 := by kernel_rfl }
/-- The library's table in its variable. -/
def Tab (w : World) : Prop := TabAt 3 Lib.deBruijn64tab w
theorem Tab.below {w w' : World} (h : Tab w) (hb : Below w.heap.size w w') : Tab w' := fun j hj => cell_keep hb (h j hj)
theorem Tab.grown {w w' : World} {row : Option Nat} (h : Tab w) (hg : w.grownBy w' row) (hr : row ≠ some 3) : Tab w' := fun j hj =>
  (World.cell?_of_block (a := ⟨3, j, none⟩) (hg.block 3 (World.block_lt_of_cell? _ _ (h j hj)) (fun e => hr e.symm))).trans (h j hj)
theorem Tab.pos {w : World} (h : Tab w) : 3 < w.heap.size := World.block_lt_of_cell? _ _ (h 0 (by decide))
theorem tz64 (x : Nat) (hx : x < 18446744073709551616) (w : World) (hT : Tab w) :
    Calls Tryz.prog 200 #[.int .u64 x] w fun e w' => e = .returned (.int .i64 (Lib.ctz 64 x)) ∧ w = w' :=
  (Any7.bits_TrailingZeros64 tzLays x hx w (fun _ => hT)).mono fun _ _ ⟨he, hw⟩ => ⟨he, hw.symm⟩
set_option maxRecDepth 100000 in
theorem tzU (x : Nat) (hx : x < 18446744073709551616) (w : World) (hT : Tab w) :
    Calls Tryz.prog 186 #[.int .u64 x] w fun e w' => e = .returned (.int .i64 (Lib.ctz 64 x)) ∧ w = w' := by
  have HT := hid (tz64 x hx w hT)
  clear hT
  generalize Lib.ctz 64 x = k at *
  go_enter Tryz.func186, Tryz.ntmps186
  go_wp2_with fail
  refine (HT.out).mono ?_; rintro e w' ⟨rfl, rfl⟩
  go_wp2
  go_ret
  exact ⟨rfl, rfl⟩
end Go.Proofs.YtkjinamjdjijcaaGreatDoor
