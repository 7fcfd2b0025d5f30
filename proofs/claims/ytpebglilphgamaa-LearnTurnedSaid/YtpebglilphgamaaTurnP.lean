/- The plain law of turning: what the program sorts is what the reference lists. No condition. -/
import Derived.Test.YtpebglilphgamaaTurn
import Derived.Test.YtpebglilphgamaaBase
namespace Go.Proofs.Ytpebglilphgamaa

theorem sortI_perm (xs : List Int) : (sortI xs).Perm xs := List.mergeSort_perm xs _
theorem sortI_le (xs : List Int) : (sortI xs).Pairwise (· ≤ ·) := by
  have h := List.pairwise_mergeSort (le := fun x y : Int => decide (x ≤ y)) (fun a b c h1 h2 => by simp at h1 h2 ⊢; omega) (fun a b => by simp; omega) xs
  exact h.imp fun h => by simpa using h
theorem sortI_lt {xs : List Int} (h : xs.Nodup) : (sortI xs).Pairwise (· < ·) := by
  have h1 : (sortI xs).Nodup := (sortI_perm xs).nodup_iff.2 h
  exact ((sortI_le xs).and h1).imp fun h => by omega
theorem asc_pair {xs : List Int} (h : ∀ j, j + 1 < xs.length → at0 xs j < at0 xs (j + 1)) : xs.Pairwise (· < ·) := by
  rw [List.pairwise_iff_getElem]
  intro i j hi hj hij
  have h1 := asc_le h (j - i - 1) (i + 1) (by omega)
  have h2 := h i (by omega)
  have e : i + 1 + (j - i - 1) = j := by omega
  rw [e] at h1
  have e1 : at0 xs i = xs[i] := by simp [at0, List.getD, List.getElem?_eq_getElem hi]
  have e2 : at0 xs j = xs[j] := by simp [at0, List.getD, List.getElem?_eq_getElem hj]
  rw [e1] at h2
  rw [e2] at h1
  omega
theorem Cls.pair {p : Int} {xs : List Int} (h : Cls p xs) : xs.Pairwise (· < ·) := asc_pair h.asc
theorem nodup_xor {s : Nat} {xs : List Int} (hx : ∀ c ∈ xs, 0 ≤ c) (h : xs.Nodup) : (xs.map (xorI s)).Nodup := by
  unfold List.Nodup at h ⊢
  rw [List.pairwise_map]
  exact List.Pairwise.imp_of_mem (fun ha hb hne e => hne (xorI_inj (hx _ ha) (hx _ hb) e)) h
/-- What Turn returns. -/
def turnL (s : Nat) (xs : List Int) : List Int := sortI (xs.map (xorI s))
theorem turnL_turned (s : Nat) (xs : List Int) : Turned s xs (turnL s xs) := sortI_perm _
theorem turnL_lt {s : Nat} {xs : List Int} (hx : ∀ c ∈ xs, 0 ≤ c) (h : xs.Pairwise (· < ·)) : (turnL s xs).Pairwise (· < ·) :=
  sortI_lt (nodup_xor hx (h.imp fun h => by omega))
theorem turnR_eq {p s : Nat} {xs : List Int} (hp : p ≤ 5) (hs : s < 2 ^ p) (hi : InP p xs) (h : xs.Pairwise (· < ·)) : turnL s xs = turnR s xs 32 := by
  have h32 := Nat.pow_le_pow_right (show 0 < 2 by decide) hp
  apply rising_eq _ _ (turnL_lt (fun c hc => (hi c hc).1) h)
  · unfold turnR
    rw [List.pairwise_map]
    exact (List.pairwise_lt_range.filter _).imp fun h => by omega
  · intro d
    rw [(turnL_turned s xs).mem]
    unfold turnR
    simp only [List.mem_map, List.mem_filter, List.mem_range, decide_eq_true_eq]
    constructor
    · rintro ⟨c, hc, rfl⟩
      have hlt := xorI_lt hs (hi c hc)
      have e32 : (2 : Int) ^ p = ((2 ^ p : Nat) : Int) := by simp
      refine ⟨(xorI s c).toNat, ⟨by omega, ?_⟩, by omega⟩
      have e : (((xorI s c).toNat ^^^ s : Nat) : Int) = xorI s (xorI s c) := rfl
      rw [e, xorI_back (hi c hc).1]
      exact hc
    · rintro ⟨k, ⟨hk, hm⟩, rfl⟩
      refine ⟨_, hm, ?_⟩
      rw [← xor_nat, xorI_back (by omega)]
end Go.Proofs.Ytpebglilphgamaa
