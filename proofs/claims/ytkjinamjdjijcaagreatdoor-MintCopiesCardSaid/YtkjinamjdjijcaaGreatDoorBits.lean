/- Words for sets of indices as numbers: which bits are set, and how the operations on bits read. No condition. -/
import Derived.Test.YtkjinamjdjijcaaGreatDoorShl
namespace Go.Proofs.YtkjinamjdjijcaaGreatDoor
open Go.RowKit

/-- The number whose bits below n are f. -/
def mkN : Nat → (Nat → Bool) → Nat
  | 0, _ => 0
  | n+1, f => mkN n f + (if f n then 2 ^ n else 0)
def mk (n : Nat) (f : Nat → Bool) : Int := (mkN n f : Int)
theorem mkN_lt (f : Nat → Bool) : ∀ n, mkN n f < 2 ^ n := by
  intro n
  induction n with
  | zero => simp [mkN]
  | succ n ih => simp only [mkN, Nat.pow_succ]; split <;> omega
theorem mkN_bit (f : Nat → Bool) : ∀ n i, (mkN n f).testBit i = (decide (i < n) && f i) := by
  intro n
  induction n with
  | zero => intro i; simp [mkN]
  | succ n ih =>
    intro i
    have hlt := mkN_lt f n
    simp only [mkN]
    by_cases e : f n = true
    · rw [if_pos e, Nat.add_comm]
      by_cases hi : i = n
      · subst hi; rw [Nat.testBit_two_pow_add_eq, Nat.testBit_lt_two_pow hlt]; simp [e]
      · by_cases h : i < n
        · rw [Nat.testBit_two_pow_add_gt h, ih]; simp [h]; omega
        · have h1 : 2 ^ n + mkN n f < 2 ^ i := by
            have := Nat.pow_le_pow_right (show 0 < 2 by decide) (show n + 1 ≤ i by omega)
            rw [Nat.pow_succ] at this; omega
          rw [Nat.testBit_lt_two_pow h1]
          have : ¬ i < n + 1 := by omega
          simp [this]
    · rw [if_neg e, Nat.add_zero, ih]
      by_cases hi : i = n
      · subst hi; simp [e]
      · have : (i < n + 1) ↔ (i < n) := by omega
        simp [this]
theorem mkN_congr {n : Nat} {f g : Nat → Bool} (h : ∀ i, i < n → f i = g i) : mkN n f = mkN n g := by
  apply Nat.eq_of_testBit_eq
  intro i
  rw [mkN_bit, mkN_bit]
  by_cases e : i < n
  · rw [h i e]
  · simp [e]
theorem mkN_inj {n : Nat} {f g : Nat → Bool} (h : mkN n f = mkN n g) : ∀ i, i < n → f i = g i := by
  intro i hi
  have := congrArg (fun x => Nat.testBit x i) h
  simpa [mkN_bit, hi] using this
theorem mk_congr {n : Nat} {f g : Nat → Bool} (h : ∀ i, i < n → f i = g i) : mk n f = mk n g := by unfold mk; rw [mkN_congr h]
theorem mk_inj {n : Nat} {f g : Nat → Bool} (h : mk n f = mk n g) : ∀ i, i < n → f i = g i := mkN_inj (by unfold mk at h; omega)
theorem mk_of {n S : Nat} (h : S < 2 ^ n) : (S : Int) = mk n (fun i => S.testBit i) := by
  unfold mk
  congr 1
  apply Nat.eq_of_testBit_eq
  intro i
  rw [mkN_bit]
  by_cases e : i < n
  · simp [e]
  · have : S < 2 ^ i := Nat.lt_of_lt_of_le h (Nat.pow_le_pow_right (by decide) (by omega))
    simp [e, Nat.testBit_lt_two_pow this]
theorem mk_bd {n : Nat} (hn : n ≤ 60) (f : Nat → Bool) : 0 ≤ mk n f ∧ mk n f < 1152921504606846976 := by
  have h1 := mkN_lt f n
  have h2 := Nat.pow_le_pow_right (show 0 < 2 by decide) hn
  have h3 : (2 : Nat) ^ 60 = 1152921504606846976 := by decide
  unfold mk; omega
theorem mk_none (n : Nat) : mk n (fun _ => false) = 0 := by
  unfold mk
  have : mkN n (fun _ => false) = 0 := by
    induction n with
    | zero => rfl
    | succ n ih => simp [mkN, ih]
  omega
theorem mk_zero_iff {n : Nat} {f : Nat → Bool} : mk n f = 0 ↔ ∀ i, i < n → f i = false := by
  rw [← mk_none n]
  exact ⟨fun h i hi => mk_inj h i hi, fun h => mk_congr h⟩
theorem mk_all (n : Nat) : mk n (fun _ => true) = p2 n - 1 := by
  unfold mk
  have : mkN n (fun _ => true) + 1 = 2 ^ n := by
    induction n with
    | zero => rfl
    | succ n ih => simp only [mkN, Nat.pow_succ]; simp; omega
  rw [p2_nat]; omega

/-! operations on bits -/
theorem wrap_nat {x : Nat} (h : x < 9223372036854775808) : IntKind.i64.wrap (x : Int) = x := by
  rw [IntWalk.i64_in _ (by omega)]
theorem ofInt64 (a : Nat) (ha : a < 18446744073709551616) : (BitVec.ofInt 64 (a : Int)).toNat = a := by
  rw [BitVec.ofInt_natCast, BitVec.toNat_ofNat]; exact Nat.mod_eq_of_lt (by omega)
theorem i64_and (a b : Nat) (ha : a < 9223372036854775808) (hb : b < 9223372036854775808) : bits .and .i64 (a : Int) (b : Int) = ((a &&& b : Nat) : Int) := by
  have hx : a &&& b < 2 ^ 63 := Nat.and_lt_two_pow _ (by omega)
  show IntKind.i64.wrap ((BitVec.ofInt 64 (a : Int) &&& BitVec.ofInt 64 (b : Int)).toNat : Int) = _
  rw [BitVec.toNat_and, ofInt64 a (by omega), ofInt64 b (by omega), wrap_nat (by omega)]
theorem i64_or (a b : Nat) (ha : a < 9223372036854775808) (hb : b < 9223372036854775808) : bits .or .i64 (a : Int) (b : Int) = ((a ||| b : Nat) : Int) := by
  have hx : a ||| b < 2 ^ 63 := Nat.or_lt_two_pow (by omega) (by omega)
  show IntKind.i64.wrap ((BitVec.ofInt 64 (a : Int) ||| BitVec.ofInt 64 (b : Int)).toNat : Int) = _
  rw [BitVec.toNat_or, ofInt64 a (by omega), ofInt64 b (by omega), wrap_nat (by omega)]
theorem i64_xor (a b : Nat) (ha : a < 9223372036854775808) (hb : b < 9223372036854775808) : bits .xor .i64 (a : Int) (b : Int) = ((a ^^^ b : Nat) : Int) := by
  have hx : a ^^^ b < 2 ^ 63 := Nat.xor_lt_two_pow (by omega) (by omega)
  show IntKind.i64.wrap ((BitVec.ofInt 64 (a : Int) ^^^ BitVec.ofInt 64 (b : Int)).toNat : Int) = _
  rw [BitVec.toNat_xor, ofInt64 a (by omega), ofInt64 b (by omega), wrap_nat (by omega)]
theorem i64_andNot (a b : Nat) (ha : a < 9223372036854775808) (hb : b < 9223372036854775808) : bits .andNot .i64 (a : Int) (b : Int) = ((a &&& (18446744073709551615 - b) : Nat) : Int) := by
  have hx : a &&& (18446744073709551615 - b) < 2 ^ 63 := by
    rw [Nat.and_comm]; exact Nat.and_lt_two_pow _ (by omega)
  show IntKind.i64.wrap ((BitVec.ofInt 64 (a : Int) &&& ~~~BitVec.ofInt 64 (b : Int)).toNat : Int) = _
  rw [BitVec.toNat_and, BitVec.toNat_not, ofInt64 a (by omega), ofInt64 b (by omega)]
  have e : 2 ^ 64 - 1 - b = 18446744073709551615 - b := by omega
  rw [e, wrap_nat (by omega)]
theorem not_bit (b i : Nat) (hb : b < 18446744073709551616) (hi : i < 64) : (18446744073709551615 - b).testBit i = !b.testBit i := by
  have h := Nat.testBit_two_pow_sub_succ (x := b) (n := 64) (by omega) i
  have e : 2 ^ 64 - (b + 1) = 18446744073709551615 - b := by omega
  rw [e] at h
  simpa [hi] using h
section
variable {n : Nat} (hn : n ≤ 60) (f g : Nat → Bool)
include hn
theorem mkN_bd : mkN n f < 9223372036854775808 := by have := mk_bd hn f; unfold mk at this; omega
theorem mk_and : bits .and .i64 (mk n f) (mk n g) = mk n (fun i => f i && g i) := by
  unfold mk
  rw [i64_and _ _ (mkN_bd hn f) (mkN_bd hn g)]
  congr 1
  apply Nat.eq_of_testBit_eq
  intro i
  rw [Nat.testBit_and, mkN_bit, mkN_bit, mkN_bit]
  cases decide (i < n) <;> simp
theorem mk_or : bits .or .i64 (mk n f) (mk n g) = mk n (fun i => f i || g i) := by
  unfold mk
  rw [i64_or _ _ (mkN_bd hn f) (mkN_bd hn g)]
  congr 1
  apply Nat.eq_of_testBit_eq
  intro i
  rw [Nat.testBit_or, mkN_bit, mkN_bit, mkN_bit]
  cases decide (i < n) <;> simp
theorem mk_andNot : bits .andNot .i64 (mk n f) (mk n g) = mk n (fun i => f i && !g i) := by
  unfold mk
  rw [i64_andNot _ _ (mkN_bd hn f) (mkN_bd hn g)]
  congr 1
  apply Nat.eq_of_testBit_eq
  intro i
  rw [Nat.testBit_and, mkN_bit, mkN_bit]
  by_cases hi : i < n
  · rw [not_bit _ _ (by have := mkN_bd hn g; omega) (by omega), mkN_bit]
    simp [hi]
  · simp [hi]
end
/-- One bit more. -/
theorem mk_push {n k : Nat} (hn : k < n) (h60 : n ≤ 60) (f : Nat → Bool) {b : Int} (hb : b = if f k then 1 else 0) : bits .or .i64 (mk k f) (b * p2 k) = mk (k + 1) f := by
  have e1 : mk k f = mk (k+1) (fun i => decide (i < k) && f i) := by
    unfold mk
    congr 1
    apply Nat.eq_of_testBit_eq
    intro i
    rw [mkN_bit, mkN_bit]
    by_cases h : i < k
    · have : i < k + 1 := by omega
      simp [h, this]
    · simp [h]
  have e2 : b * p2 k = mk (k+1) (fun i => decide (i = k) && f i) := by
    have h0 : mkN k (fun i => decide (i = k) && f i) = 0 := by
      have := mk_zero_iff (n := k) (f := fun i => decide (i = k) && f i)
      unfold mk at this
      have h2 := this.2 fun i hi => by
        have : i ≠ k := by omega
        simp [this]
      omega
    unfold mk
    simp only [mkN, h0, hb]
    rw [p2_nat]
    split <;> rename_i hf
    · rw [if_pos (by simp [hf])]; omega
    · rw [if_neg (by simp [hf])]; omega
  rw [e1, e2, mk_or (by omega)]
  apply mk_congr
  intro i hi
  by_cases e : i = k
  · subst e; simp
  · have : i < k := by omega
    simp [e, this]
/-- The bit of c at x. -/
def bitV (c x : Int) : Int := c / 2 ^ x.toNat % 2
def bitB (c x : Int) : Bool := bitV c x == 1
theorem bitV_bd (c x : Int) : 0 ≤ bitV c x ∧ bitV c x ≤ 1 := by unfold bitV; omega
theorem bitV_if (c x : Int) : bitV c x = if bitB c x then 1 else 0 := by
  have := bitV_bd c x
  unfold bitB
  by_cases h : bitV c x = 1
  · simp [h]
  · have : bitV c x = 0 := by omega
    simp [this]
theorem mk_bitB {n : Nat} (f : Nat → Bool) {i : Nat} (hi : i < n) : bitB (mk n f) i = f i := by
  have h := mkN_bit f n i
  rw [Nat.testBit_eq_decide_div_mod_eq] at h
  unfold bitB bitV mk
  have e : ((mkN n f : Int) / 2 ^ (i : Int).toNat % 2) = ((mkN n f / 2 ^ i % 2 : Nat) : Int) := by simp
  rw [e]
  simp only [hi, decide_true, Bool.true_and] at h
  rw [← h]
  by_cases e2 : mkN n f / 2 ^ i % 2 = 1
  · simp [e2]
  · have e3 : mkN n f / 2 ^ i % 2 = 0 := by omega
    simp [e3]

def shrV (c x : Int) : Int := c / 2 ^ x.toNat
theorem shr_v {yk : IntKind} {c x : Int} (h : Fits x) : Op.shift .shr .i64 c yk x = pure (.int .i64 (shrV c x)) :=
  shift_shr .i64 yk c x h.1 (by have := h.2; simp only [IntKind.bits]; omega)
theorem and_shr (c x : Int) : Op.intBits .and .i64 (shrV c x) 1 = pure (.int .i64 (bitV c x)) := by
  have h1 : (BitVec.ofInt 64 1).toNat = 2 ^ 1 - 1 := by decide
  have key : (BitVec.ofInt 64 (shrV c x) &&& BitVec.ofInt 64 1).toNat = (shrV c x % ((2 ^ 64 : Nat) : Int)).toNat % 2 ^ 1 := by
    rw [BitVec.toNat_and, BitVec.toNat_ofInt, h1, Nat.and_two_pow_sub_one_eq_mod]
  have : bits .and .i64 (shrV c x) 1 = bitV c x := by
    show IntKind.i64.wrap ((BitVec.ofInt 64 (shrV c x) &&& BitVec.ofInt 64 1).toNat : Nat) = shrV c x % 2
    rw [key, IntKind.wrap_i64]
    omega
  rw [intBits_and, this]
theorem shl_bit {yk : IntKind} {c x k : Int} (h : Fits k) : Op.shift .shl .i64 (bitV c x) yk k = pure (.int .i64 (bitV c x * p2 k)) := by
  have hb := p2_bd h.2
  have hp := p2_pos k
  rw [shift_shl .i64 yk _ k h.1 (by have := h.2; simp only [IntKind.bits]; omega)]
  show pure (Value.int .i64 (IntKind.i64.wrap (bitV c x * p2 k))) = _
  have := bitV_bd c x
  have : bitV c x = 0 ∨ bitV c x = 1 := by omega
  rw [IntWalk.i64_in _ (by rcases this with e | e <;> rw [e] <;> omega)]
end Go.Proofs.YtkjinamjdjijcaaGreatDoor
