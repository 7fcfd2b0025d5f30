/- Plain law of the lowest bit of a number. Condition: the number is not 0 and has at most 64 bits. -/
import Derived.Test.YtjddbglbodkihaaDoorFamM
import Derived.Lib.TrailingZeros
namespace Go.Proofs.YtjddbglbodkihaaDoor

theorem low_bits {x : Nat} (h0 : x ≠ 0) (h : x < 2 ^ 64) : Lib.ctz 64 x < 64 ∧ x.testBit (Lib.ctz 64 x) = true ∧ (∀ i, i < Lib.ctz 64 x → x.testBit i = false) ∧ ∀ i, (x &&& (x - 1)).testBit i = (x.testBit i && decide (i ≠ Lib.ctz 64 x)) := by
  have e : Lib.ctz 64 x = Lib.ctzFrom 64 x := by unfold Lib.ctz; rw [if_neg h0]
  rw [e]
  obtain ⟨m, hm, hc⟩ := Lib.ctzFrom_spec 64 x (by omega) h
  generalize Lib.ctzFrom 64 x = c at *
  have hp := Nat.two_pow_pos c
  have e1 : x = 2 ^ c * (2 * m + 1) + 0 := by omega
  have e2 : x - 1 = 2 ^ c * (2 * m) + (2 ^ c - 1) := by
    have : 2 ^ c * (2 * m + 1) = 2 ^ c * (2 * m) + 2 ^ c := Nat.mul_succ _ _
    omega
  have b1 : ∀ i, x.testBit i = if i < c then false else (2 * m + 1).testBit (i - c) := by
    intro i
    rw [e1, Nat.testBit_two_pow_mul_add _ hp]
    simp
  have b2 : ∀ i, (x - 1).testBit i = if i < c then (2 ^ c - 1).testBit i else (2 * m).testBit (i - c) := by
    intro i
    rw [e2, Nat.testBit_two_pow_mul_add _ (by omega)]
  refine ⟨hc, ?_, fun i hi => ?_, fun i => ?_⟩
  · rw [b1, if_neg (by omega), Nat.sub_self]
    simp [Nat.testBit_zero]
  · rw [b1, if_pos hi]
  · rw [Nat.testBit_and, b1, b2]
    by_cases g : i < c
    · simp [g]
    · rw [if_neg g, if_neg g]
      by_cases g2 : i = c
      · subst g2
        simp [Nat.testBit_zero]
      · obtain ⟨k, hk⟩ : ∃ k, i - c = k + 1 := ⟨i - c - 1, by omega⟩
        rw [hk, Nat.testBit_succ, Nat.testBit_succ]
        have h1 : (2 * m + 1) / 2 = m := by omega
        have h2 : 2 * m / 2 = m := by omega
        rw [h1, h2]
        simp [g2]
/-- A number without its bits below k. -/
def hiB (F k : Nat) (S : Nat) : Prop := ∀ i, S.testBit i = (F.testBit i && decide (k ≤ i))
theorem hiB_zero (F : Nat) : hiB F 0 F := fun i => by simp
theorem hiB_end {F k : Nat} (h : hiB F k 0) (hk : k ≤ 64) : famL 64 F.testBit = famL k F.testBit := by
  refine famL_wide hk fun i hi => ?_
  have := h i
  rw [hi] at this
  simp at this
  exact this
theorem hiB_step {F k S : Nat} (h : hiB F k S) (h0 : S ≠ 0) (hS : S < 2 ^ 64) : k ≤ Lib.ctz 64 S ∧ Lib.ctz 64 S < 64 ∧ hiB F (Lib.ctz 64 S + 1) (S &&& (S - 1)) ∧ famL (Lib.ctz 64 S + 1) F.testBit = famL k F.testBit ++ [((Lib.ctz 64 S : Nat) : Int)] := by
  obtain ⟨h1, h2, h3, h4⟩ := low_bits h0 hS
  generalize Lib.ctz 64 S = c at *
  have hc := h c
  rw [h2] at hc
  have hc2 := andE hc.symm
  have hkc : k ≤ c := of_decide_eq_true hc2.2
  refine ⟨hkc, h1, fun i => ?_, ?_⟩
  · rw [h4, h]
    by_cases g : i < c
    · have := h3 i g
      rw [h] at this
      rw [this]
      have : ¬ c + 1 ≤ i := by omega
      simp [this]
    · by_cases g2 : i = c
      · subst g2; simp
      · have e1 : c + 1 ≤ i := by omega
        have e2 : k ≤ i := by omega
        simp [g2, e1, e2]
  · rw [famL_succ, if_pos hc2.1]
    congr 1
    have : ∀ d, k + d ≤ c → famL (k + d) F.testBit = famL k F.testBit := by
      intro d
      induction d with
      | zero => intro _; rfl
      | succ d ih =>
        intro hd
        rw [← Nat.add_assoc, famL_succ, ih (by omega), if_neg, List.append_nil]
        have := h3 (k + d) (by omega)
        rw [h] at this
        simp at this
        simpa using this
    have e := this (c - k) (by omega)
    rw [show k + (c - k) = c by omega] at e
    exact e
theorem sub_lt64 {F k S : Nat} (h : hiB F k S) (hF : F < 2 ^ 64) : S < 2 ^ 64 := lt_of_bits fun i hi => by
  rw [h] at hi
  exact bit_lt hF (andE hi).1
end Go.Proofs.YtjddbglbodkihaaDoor
