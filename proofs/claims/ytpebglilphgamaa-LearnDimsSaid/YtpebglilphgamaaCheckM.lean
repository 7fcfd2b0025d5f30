/- The plain law of a check: a tree of nodes has a depth, or none. No condition. -/
import Derived.Test.YtpebglilphgamaaTree
import Derived.Test.YtpebglilphgamaaLen
namespace Go.Proofs.Ytpebglilphgamaa

/-- The depth of a tree for a class. -/
def checkL (p : Nat) (xs : List Int) (ts : List Nd) : Option Nat :=
  if ts.length + 1 = 2 ^ Lib.bitLen ts.length ∧ (fitsL p ts (Lib.bitLen ts.length) (rootI (Lib.bitLen ts.length) 0) xs (fun _ => false)).isSome = true then some (Lib.bitLen ts.length) else none
theorem bitLen_zero : Lib.bitLen 0 = 0 := Lib.bitLenAux_zero 64
theorem bitLen_full {m d : Nat} (h : m + 1 = 2 ^ d) (hm : m < 18446744073709551616) : Lib.bitLen m = d := by
  obtain ⟨a, b⟩ := bitLen_spec hm
  rcases Nat.lt_trichotomy (Lib.bitLen m) d with g | g | g
  · have := Nat.pow_le_pow_right (show 0 < 2 by decide) (show Lib.bitLen m + 1 ≤ d by omega)
    have h3 := Nat.two_pow_pos (Lib.bitLen m)
    rw [Nat.pow_succ] at this
    omega
  · exact g
  · have := b d g
    omega
theorem bitLen_le {m k : Nat} (h : m < 2 ^ k) (hm : m < 18446744073709551616) : Lib.bitLen m ≤ k := by
  obtain ⟨_, b⟩ := bitLen_spec hm
  rcases Nat.lt_or_ge k (Lib.bitLen m) with g | g
  · have := b k g; omega
  · exact g
theorem bitLen_pos {m : Nat} (h : 0 < m) (hm : m < 18446744073709551616) : 0 < Lib.bitLen m := by
  obtain ⟨a, _⟩ := bitLen_spec hm
  rcases Nat.eq_zero_or_pos (Lib.bitLen m) with g | g
  · rw [g] at a; omega
  · exact g
theorem check_big {p : Nat} {xs : List Int} (hne : xs ≠ []) (hl : xs.length ≤ 1000) : checkL p xs (bigTree p xs) = some (dimL p xs).toNat := by
  have hd0 := dimL_nonneg (p := p) hne
  have hd1 := two_pow_dim p _ xs rfl hne
  have hlen := bigTree_len p xs
  have hpos := Nat.two_pow_pos (dimL p xs).toNat
  have hb := bitLen_full (m := (bigTree p xs).length) (d := (dimL p xs).toNat) (by omega) (by omega)
  have hfit := grow_fits p (bigTree p xs) (dimL p xs).toNat 0 xs (fun _ => false) (by omega) (fun j u hu => by rw [Nat.zero_add]; exact hu) (fun _ _ _ => rfl)
  unfold checkL
  rw [hb]
  have e0 : ((0 : Nat) : Int) = 0 := rfl
  rw [e0] at hfit
  rw [hfit, if_pos ⟨by omega, rfl⟩]
/-- The program asks from the root on. -/
theorem check_tree {p : Nat} {xs : List Int} {ts : List Nd} (hm : ts.length < 18446744073709551616) (h0 : 0 < ts.length) :
    treeL p ts (Lib.bitLen ts.length) 0 xs (fun _ => false) = fitsL p ts (Lib.bitLen ts.length) (rootI (Lib.bitLen ts.length) 0) xs (fun _ => false) := by
  have hp := bitLen_pos h0 hm
  unfold rootI
  rw [if_neg (by omega)]
  exact tree_fits p ts _ 0 xs _ (by rw [if_neg (by omega)]; omega)
theorem check_nil {p : Nat} {xs : List Int} (hne : xs ≠ []) : checkL p xs [] = some 0 := by
  unfold checkL
  simp only [List.length_nil, bitLen_zero]
  rw [if_pos ⟨by decide, by simp [fitsL, hne]⟩]
end Go.Proofs.Ytpebglilphgamaa
