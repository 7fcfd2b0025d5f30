/- Words of 64 bits as families: a bit told, a bit set; as laws that the walk applies by itself. Conditions: these sizes. -/
import Derived.Test.YtjddbglbodkihaaDoorLowM
import Derived.Test.YtjddbglbodkihaaDoorTz
import Derived.Laws.Bits64
import Derived.Laws.Bits64b
namespace Go.Proofs.YtjddbglbodkihaaDoor
open Go.RowKit

/-- A shift of a family. -/
def FitF (k : Int) : Prop := 0 ≤ k ∧ k ≤ 63
theorem shl_u {yk : IntKind} {k : Int} (h : FitF k) : Op.shift .shl .u64 1 yk k = pure (.int .u64 (p2 k)) := by
  have hb : p2 k ≤ 9223372036854775808 := p2_le (m := 63) h.2
  have hp := p2_pos k
  rw [shift_shl .u64 yk 1 k h.1 (by have := h.2; simp only [IntKind.bits]; omega), Int.one_mul]
  show pure (Value.int .u64 (IntKind.u64.wrap (p2 k))) = _
  rw [IntKind.wrap_u64]
  have : p2 k % 18446744073709551616 = p2 k := by omega
  rw [this]
/-- A number with one bit more. -/
def orI (s : Nat) (k : Int) : Nat := s ||| (1 <<< k.toNat)
def OrF (s : Nat) (k : Int) : Prop := s < 18446744073709551616 ∧ 0 ≤ k ∧ k ≤ 63
theorem p2_cast (k : Int) : p2 k = ((1 <<< k.toNat : Nat) : Int) := by
  rw [Nat.one_shiftLeft]; unfold p2; simp
theorem or_u {s : Nat} {k : Int} (h : OrF s k) : Op.intBits .or .u64 (s : Int) (p2 k) = pure (.int .u64 (orI s k : Nat)) := by
  have hb : p2 k ≤ 9223372036854775808 := p2_le (m := 63) h.2.2
  have e2 : (1 <<< k.toNat : Nat) < 18446744073709551616 := by have := p2_cast k; omega
  have hx : s ||| (1 <<< k.toNat) < 2 ^ 64 := Nat.or_lt_two_pow (by have := h.1; omega) (by omega)
  rw [p2_cast]
  show pure (Value.int .u64 (IntKind.u64.wrap ((BitVec.ofInt 64 (s : Int) ||| BitVec.ofInt 64 ((1 <<< k.toNat : Nat) : Int)).toNat : Int))) = _
  rw [BitVec.toNat_or, ofInt64 s h.1, ofInt64 _ e2, IntKind.wrap_u64]
  unfold orI
  rw [Int.emod_eq_of_lt (by omega) (by omega)]
/-- The bit of a family at a set. -/
def shrF (F : Nat) (s : Int) : Int := ((F >>> s.toNat : Nat) : Int)
def bitF (F : Nat) (s : Int) : Int := if F.testBit s.toNat then 1 else 0
def ShF (F : Nat) (s : Int) : Prop := F < 18446744073709551616 ∧ 0 ≤ s ∧ s ≤ 63
theorem shr_u {yk : IntKind} {F : Nat} {s : Int} (h : ShF F s) : Op.shift .shr .u64 (F : Int) yk s = pure (.int .u64 (shrF F s)) := by
  rw [shift_shr .u64 yk _ s h.2.1 (by have := h.2.2; simp only [IntKind.bits]; omega)]
  unfold shrF
  rw [Nat.shiftRight_eq_div_pow]
  simp
theorem bits_and_u64 (a b : Nat) (ha : a < 18446744073709551616) (hb : b < 18446744073709551616) : Op.intBits .and .u64 (a : Int) (b : Int) = pure (.int .u64 ((a &&& b : Nat) : Int)) := by
  have hx : a &&& b < 18446744073709551616 := Nat.lt_of_le_of_lt Nat.and_le_left ha
  show pure (Value.int .u64 (IntKind.u64.wrap ((BitVec.ofInt 64 (a : Int) &&& BitVec.ofInt 64 (b : Int)).toNat : Int))) = _
  rw [BitVec.toNat_and, ofInt64 a ha, ofInt64 b hb, IntKind.wrap_u64]
  rw [Int.emod_eq_of_lt (by omega) (by omega)]
theorem and_shrF {F : Nat} {s : Int} (h : F < 18446744073709551616) : Op.intBits .and .u64 (shrF F s) 1 = pure (.int .u64 (bitF F s)) := by
  have h1 : F >>> s.toNat < 18446744073709551616 := Nat.lt_of_le_of_lt (Nat.shiftRight_le _ _) h
  have := bits_and_u64 (F >>> s.toNat) 1 h1 (by decide)
  unfold shrF
  rw [show (1 : Int) = ((1 : Nat) : Int) from rfl, this]
  unfold bitF
  congr 2
  rw [Nat.and_one_is_mod, Nat.testBit_eq_decide_div_mod_eq, Nat.shiftRight_eq_div_pow]
  by_cases e : F / 2 ^ s.toNat % 2 = 1
  · simp [e]
  · have e3 : F / 2 ^ s.toNat % 2 = 0 := by omega
    simp [e3]
theorem bitF_yes {F : Nat} {s : Int} (h : F.testBit s.toNat = true) : (bitF F s == 1) = true := by unfold bitF; rw [h]; rfl
theorem bitF_no {F : Nat} {s : Int} (h : F.testBit s.toNat = false) : (bitF F s == 1) = false := by unfold bitF; rw [h]; rfl
/-- What is left of a family without its lowest set. -/
def popF (S : Nat) : Nat := S &&& (S - 1)
def PopF (S : Nat) : Prop := S < 18446744073709551616 ∧ 0 < S
theorem pop_v {S : Nat} (h : PopF S) : bits .and .u64 (S : Int) (IntKind.u64.wrap ((S : Int) - 1)) = (popF S : Nat) := by
  have h1 : IntKind.u64.wrap ((S : Int) - 1) = ((S - 1 : Nat) : Int) := by
    rw [IntKind.wrap_u64]
    have := h.1; have := h.2
    omega
  rw [h1, bits_and_u64_nat S (S - 1) h.1 (by have := h.1; omega)]
  rfl
/-- A set without an element. -/
def AnF (s : Nat) (k : Int) : Prop := s < 4611686018427387904 ∧ 0 ≤ k ∧ k ≤ 60
theorem andNot_v {s : Nat} {k : Int} (h : AnF s k) : Op.intBits .andNot .i64 (s : Int) (p2 k) = pure (.int .i64 (rm s k.toNat : Nat)) := by
  have hb := p2_bd (k := k) (by have := h.2.2; omega)
  have e2 : (1 <<< k.toNat : Nat) < 9223372036854775808 := by have := p2_cast k; omega
  have e := i64_andNot s (1 <<< k.toNat) (by have := h.1; omega) e2
  rw [p2_cast]
  show pure (Value.int .i64 (bits .andNot .i64 (s : Int) ((1 <<< k.toNat : Nat) : Int))) = _
  rw [e]
  congr 3
  apply bits_ext
  intro i
  rw [rm_bit, Nat.testBit_and]
  by_cases hi : i < 64
  · rw [not_bit _ _ (by omega) hi, Nat.one_shiftLeft, Nat.testBit_two_pow]
  · have : s.testBit i = false := Nat.testBit_lt_two_pow (Nat.lt_of_lt_of_le h.1 (Nat.le_trans (show 4611686018427387904 ≤ 2 ^ 64 by decide) (Nat.pow_le_pow_right (by decide) (by omega))))
    rw [this]; rfl
theorem bitV_nat (d y : Nat) : bitV (d : Int) (y : Int) = if d.testBit y then 1 else 0 := by
  unfold bitV
  have e : ((d : Int) / 2 ^ (y : Int).toNat % 2) = ((d / 2 ^ y % 2 : Nat) : Int) := by simp
  rw [e, Nat.testBit_eq_decide_div_mod_eq]
  by_cases e2 : d / 2 ^ y % 2 = 1
  · simp [e2]
  · have e3 : d / 2 ^ y % 2 = 0 := by omega
    simp [e3]
theorem bitV_yes {d y : Nat} (h : d.testBit y = true) : (bitV (d : Int) (y : Int) == 1) = true := by rw [bitV_nat, h]; rfl
theorem bitV_no {d y : Nat} (h : d.testBit y = false) : (bitV (d : Int) (y : Int) == 1) = false := by rw [bitV_nat, h]; rfl
theorem mkN_step (p : Nat → Bool) (k : Nat) : mkN (k + 1) p = if p k then mkN k p ||| (1 <<< k) else mkN k p := by
  apply bits_ext
  intro i
  cases hp : p k
  · simp only [Bool.false_eq_true, if_false]
    rw [mkN_bit, mkN_bit]
    by_cases e : i = k
    · subst e; simp [hp]
    · have : decide (i < k + 1) = decide (i < k) := by rw [decide_eq_decide]; omega
      rw [this]
  · simp only [if_true]
    rw [or_bit1, mkN_bit, mkN_bit]
    by_cases e : i = k
    · subst e; simp [hp]
    · have : decide (i < k + 1) = decide (i < k) := by rw [decide_eq_decide]; omega
      rw [this]
      have : ¬ k = i := by omega
      simp [this]
theorem TI22 : TS Tryd.prog 22 3 1 8 (.int .i64 0) := ⟨Tryd.underlying22, by kernel_rfl, rfl, by decide⟩

attribute [local go_sem ↓] shl_p2 shl_u or_u shr_u and_shrF
set_option maxRecDepth 100000 in
set_option maxHeartbeats 1000000 in
theorem hasF (n : Int) (F : Nat) (s : Int) (w : World) (h : ShF F s) :
    Calls Tryd.prog 60 #[.agg #[.int .i64 n, .int .u64 F], .int .i64 s] w fun e w' => e = .returned (.bool (F.testBit s.toNat)) ∧ Below w.heap.size w w' := by
  have h64 := h.1
  have HB := hid ((Below.refl w.heap.size w).alloc (Nat.le_refl _) (.cells #[.int .i64 n, .int .u64 F] 72))
  cases hb : F.testBit s.toNat
  · have g := bitF_no hb
    clear hb
    go_enter Tryd.func60, Tryd.ntmps60
    go_wp2
    go_ret
    exact ⟨rfl, HB.out⟩
  · have g := bitF_yes hb
    clear hb
    go_enter Tryd.func60, Tryd.ntmps60
    go_wp2
    go_ret
    exact ⟨rfl, HB.out⟩
end Go.Proofs.YtjddbglbodkihaaDoor
