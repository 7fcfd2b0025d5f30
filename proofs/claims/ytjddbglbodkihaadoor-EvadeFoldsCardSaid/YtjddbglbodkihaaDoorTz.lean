/- The contract of math/bits.TrailingZeros64, laid at this program. Condition: the library's table of 64 numbers stands in its variable. -/
import Derived.Shelf.Spec.TrailingZeros
import Derived.Test.YtjddbglbodkihaaDoorProg
import Derived.Test.YtjddbglbodkihaaDoorMem2
namespace Go.Proofs.YtjddbglbodkihaaDoor
open Go.Shelf Go.RowKit
def tz_ren : Go.Shelf.Ren := ⟨fun | 29 => 93 | n => n, fun | 22 => 70 | 25 => 58 | 54 => 128 | n => n, fun | 1 => 0 | n => n⟩
theorem tzLays : Go.Proofs.Lays7.n29 Tryd.prog tz_ren := {
  mixed := by kernel_rfl
  f29 := Tryd.func93.trans (congrArg some (by kernel_rfl))
  t0 := Tryd.underlying0
  a0 := Tryd.isAgg0
  z0 := Tryd.sizeOf0
  v0 := Tryd.zeroValue0
  i0 := by kernel_rfl
  t3 := Tryd.underlying3
  a3 := Tryd.isAgg3
  z3 := Tryd.sizeOf3
  v3 := Tryd.zeroValue3
  i3 := by kernel_rfl
  t4 := Tryd.underlying4
  a4 := Tryd.isAgg4
  z4 := Tryd.sizeOf4
  v4 := Tryd.zeroValue4
  i4 := by kernel_rfl
  t5 := Tryd.underlying5
  a5 := Tryd.isAgg5
  z5 := Tryd.sizeOf5
  v5 := Tryd.zeroValue5
  i5 := by kernel_rfl
  t22 := Tryd.underlying70
  a22 := Tryd.isAgg70
  z22 := Tryd.sizeOf70
  v22 := Tryd.zeroValue70
  i22 := by kernel_rfl
  t25 := Tryd.underlying58
  a25 := Tryd.isAgg58
  z25 := Tryd.sizeOf58
  v25 := Tryd.zeroValue58
  i25 := by kernel_rfl
  t54 := Tryd.underlying128
  a54 := Tryd.isAgg128
  z54 := Tryd.sizeOf128
  g1 := by kernel_rfl }
/-- The library's table in its variable. -/
def Tab (w : World) : Prop := TabAt 0 Lib.deBruijn64tab w
theorem Tab.below {w w' : World} (h : Tab w) (hb : Below w.heap.size w w') : Tab w' := fun j hj => cell_keep hb (h j hj)
theorem Tab.grown {w w' : World} {row : Option Nat} (h : Tab w) (hg : w.grownBy w' row) (hr : row ≠ some 0) : Tab w' := fun j hj =>
  (World.cell?_of_block (a := ⟨0, j, none⟩) (hg.block 0 (World.block_lt_of_cell? _ _ (h j hj)) (fun e => hr e.symm))).trans (h j hj)
theorem Tab.pos {w : World} (h : Tab w) : 0 < w.heap.size := World.block_lt_of_cell? _ _ (h 0 (by decide))
theorem tz64 (x : Nat) (hx : x < 18446744073709551616) (w : World) (hT : Tab w) :
    Calls Tryd.prog 93 #[.int .u64 x] w fun e w' => e = .returned (.int .i64 (Lib.ctz 64 x)) ∧ w = w' :=
  (Any7.bits_TrailingZeros64 tzLays x hx w (fun _ => hT)).mono fun _ _ ⟨he, hw⟩ => ⟨he, hw.symm⟩
end Go.Proofs.YtjddbglbodkihaaDoor
