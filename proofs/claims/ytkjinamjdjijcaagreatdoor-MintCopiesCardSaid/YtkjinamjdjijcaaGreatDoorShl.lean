/- A one shifted by a count that is known to be small: as a name of its own. No condition. -/
import Derived.Test.YtkjinamjdjijcaaGreatDoorMem2
namespace Go.Proofs.YtkjinamjdjijcaaGreatDoor
open Go.RowKit

/-- Two to the power of k. -/
def p2 (k : Int) : Int := 2 ^ k.toNat
def Fits (k : Int) : Prop := 0 ≤ k ∧ k ≤ 60
theorem p2_pos (k : Int) : 1 ≤ p2 k := by
  have : (0 : Int) < 2 ^ k.toNat := Int.pow_pos (by decide)
  unfold p2; omega
theorem p2_nat (n : Nat) : p2 n = ((2 ^ n : Nat) : Int) := by simp [p2]
theorem p2_le {k m : Int} (h : k ≤ m) : p2 k ≤ p2 m := by
  unfold p2
  have h1 : k.toNat ≤ m.toNat := by omega
  have h2 := Nat.pow_le_pow_right (show 0 < 2 by decide) h1
  have h3 : ∀ n : Nat, (2 : Int) ^ n = ((2 ^ n : Nat) : Int) := fun n => by simp
  rw [h3, h3]
  omega
theorem p2_bd {k : Int} (h2 : k ≤ 60) : p2 k ≤ 1152921504606846976 := p2_le (m := 60) h2
theorem p2_succ {k : Int} (h : 0 ≤ k) : p2 (k + 1) = 2 * p2 k := by
  obtain ⟨n, rfl⟩ := Int.eq_ofNat_of_zero_le h
  have e : ((n : Int) + 1) = ((n + 1 : Nat) : Int) := by omega
  rw [e, p2_nat, p2_nat, Nat.pow_succ]
  omega
theorem p2_pred {k : Int} (h : 1 ≤ k) : p2 k = 2 * p2 (k - 1) := by
  have := p2_succ (k := k - 1) (by omega)
  rwa [Int.sub_add_cancel] at this
theorem shl_p2 {yk : IntKind} {k : Int} (h : Fits k) : Op.shift .shl .i64 1 yk k = pure (.int .i64 (p2 k)) := by
  have hb := p2_bd h.2
  have hp := p2_pos k
  rw [shift_shl .i64 yk 1 k h.1 (by have := h.2; simp only [IntKind.bits]; omega), Int.one_mul]
  show pure (Value.int .i64 (IntKind.i64.wrap (p2 k))) = _
  rw [IntWalk.i64_in _ (by omega)]
end Go.Proofs.YtkjinamjdjijcaaGreatDoor
