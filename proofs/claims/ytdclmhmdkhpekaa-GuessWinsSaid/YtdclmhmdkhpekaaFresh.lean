/- A table that is made: with no keys; and one of twice the size, where it is half full. No condition. -/
import Derived.Test.YtdclmhmdkhpekaaPut
import Derived.BigRegion
namespace Go.Proofs.Ytdclmhmdkhpekaa
open Go.RowKit

theorem TB62 : TS Try.prog 62 4 1 1 (.bool false) := ⟨Try.underlying62, by kernel_rfl, rfl, by decide⟩
theorem make34 (n : Nat) (hn : n ≤ 4294967296) (W : World) : (Instr.makeSlice 34 (.int .i64 (n : Int)) (.int .i64 (n : Int))).run Try.prog W = .ok (.slice (some ⟨W.heap.size, 0, none⟩) n n) (W.alloc (.cells (arr n fun _ => 0) 3)) := by
  obtain ⟨i0, hi, hz0, hz1, hz2⟩ := info_parts TI.inf
  have := run_make (P := Try.prog) W 34 3 i0 (.int .i64 0) TI.und hi hz0 .i64 .i64 (n : Int) (n : Int) (by omega) (Int.le_refl _) (by rw [hz2]; omega) (by omega)
  rw [this, Int.toNat_natCast, hz1, ← made_arr]
theorem make62 (n : Nat) (hn : n ≤ 4294967296) (W : World) : (Instr.makeSlice 62 (.int .i64 (n : Int)) (.int .i64 (n : Int))).run Try.prog W = .ok (.slice (some ⟨W.heap.size, 0, none⟩) n n) (W.alloc (.cells (barr n fun _ => false) 4)) := by
  obtain ⟨i0, hi, hz0, hz1, hz2⟩ := info_parts TB62.inf
  have := run_make (P := Try.prog) W 62 4 i0 (.bool false) TB62.und hi hz0 .i64 .i64 (n : Int) (n : Int) (by omega) (Int.le_refl _) (by rw [hz2]; omega) (by omega)
  rw [this, Int.toNat_natCast, hz1, ← made_barr]

set_option maxRecDepth 100000 in
set_option maxHeartbeats 2000000 in
theorem freshS (OK : Int → Bool → Prop) (w : World) :
    Calls Try.prog 59 #[] w fun e w' => ∃ mb g1 g2, e = .returned (.pointer (some ⟨mb, 0, none⟩)) ∧ TabA OK w' mb g1 g2 1024 (fun _ => 0) (fun _ => false) [] ∧ Below w.heap.size w w' ∧ w.heap.size ≤ mb ∧ w.heap.size ≤ g1 ∧ w.heap.size ≤ g2 := by
  have m1 : ∀ W : World, (Instr.makeSlice 34 (.int .i64 1024) (.int .i64 1024)).run Try.prog W = .ok (.slice (some ⟨W.heap.size, 0, none⟩) 1024 1024) (W.alloc (.cells (arr 1024 fun _ => 0) 3)) := make34 1024 (by omega)
  have m2 : ∀ W : World, (Instr.makeSlice 62 (.int .i64 1024) (.int .i64 1024)).run Try.prog W = .ok (.slice (some ⟨W.heap.size, 0, none⟩) 1024 1024) (W.alloc (.cells (barr 1024 fun _ => false) 4)) := make62 1024 (by omega)
  go_enter Try.func59, Try.ntmps59
  go_wp2_with fail
  go_region
  · go_wp2_with fail
    go_ret
    exact ⟨w.heap.size + 1 + 1, w.heap.size, w.heap.size + 1, rfl, ⟨(Blk.new_at _ 114 _ (by simp)).drew, (((Blk.new w 3 _).alloc _).alloc _).drew, ((Blk.new_at _ 4 _ (by simp)).alloc _).drew, ⟨10, by omega, by omega, rfl⟩, by simp, Good.fresh _, fun _ _ h => absurd rfl h⟩,
      ((((Below.refl _ w).alloc (Nat.le_refl _) _).alloc (by simp) _).alloc (by simp; omega) _).drew, by omega, by omega, by omega⟩
  · go_wp2_with fail
    go_ret
    exact ⟨w.heap.size + 1 + 1, w.heap.size + 1, w.heap.size, rfl, ⟨(Blk.new_at _ 114 _ (by simp)).drew, ((Blk.new_at _ 3 _ (by simp)).alloc _).drew, (((Blk.new w 4 _).alloc _).alloc _).drew, ⟨10, by omega, by omega, rfl⟩, by simp, Good.fresh _, fun _ _ h => absurd rfl h⟩,
      ((((Below.refl _ w).alloc (Nat.le_refl _) _).alloc (by simp) _).alloc (by simp; omega) _).drew, by omega, by omega, by omega⟩
end Go.Proofs.Ytdclmhmdkhpekaa
