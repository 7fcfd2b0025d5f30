/- Plain laws of replies: sums and weights of both states after a question. Conditions: a question for a state. -/
import Derived.Test.YtdclmhmdkhpekaaLiar
namespace Go.Proofs.Ytdclmhmdkhpekaa

theorem after_len (yes : Bool) (xs q : List Int) : (after yes xs q).length = xs.length := by simp [after]
theorem at0_after {yes : Bool} {xs q : List Int} {j : Nat} (h : j < xs.length) : at0 (after yes xs q) j = aft yes xs q j := by
  unfold at0 after
  rw [List.getD_eq_getElem?_getD, List.getElem?_map, List.getElem?_range h]
  rfl
theorem inA_sum (yes : Bool) (xs q : List Int) (j : Nat) : inA yes xs q j + inA (!yes) xs q j = at0 xs j := by
  cases yes <;> simp [inA] <;> omega
theorem inA_nonneg {yes : Bool} {xs q : List Int} (hq : askOk xs q = true) {j : Nat} (hj : j < xs.length) : 0 ≤ inA yes xs q j := by
  have h := askOk_iff.1 hq
  have h1 := h.2 j (by omega)
  unfold inA
  split <;> omega
theorem aft_nonneg {yes : Bool} {xs q : List Int} (hq : askOk xs q = true) {j : Nat} (hj : j < xs.length) : 0 ≤ aft yes xs q j := by
  have h1 := inA_nonneg (yes := yes) hq hj
  unfold aft
  by_cases e : j = 0
  · rw [if_pos e]; omega
  · rw [if_neg e]
    have h2 := inA_nonneg (yes := !yes) hq (show j - 1 < xs.length by omega)
    omega
theorem psum_after {yes : Bool} {xs q : List Int} : ∀ k, k + 1 ≤ xs.length → psum (after yes xs q) (k + 1) = psum xs (k + 1) - inA (!yes) xs q k := by
  intro k
  induction k with
  | zero =>
    intro h
    have h1 := inA_sum yes xs q 0
    simp only [psum]
    rw [at0_after (by omega), aft, if_pos rfl]
    omega
  | succ k ih =>
    intro h
    have h1 := inA_sum yes xs q (k + 1)
    rw [psum, ih (by omega), at0_after (by omega), aft, if_neg (by omega), psum]
    simp only [Nat.add_sub_cancel]
    rw [show psum xs (k + 1 + 1) = psum xs (k + 1) + at0 xs (k + 1) from rfl]
    have e : psum xs (k + 1) = psum xs k + at0 xs k := rfl
    omega
theorem total_after {yes : Bool} {xs q : List Int} (h : 1 ≤ xs.length) : total (after yes xs q) = total xs - inA (!yes) xs q (xs.length - 1) := by
  unfold total
  rw [after_len]
  have := psum_after (yes := yes) (xs := xs) (q := q) (xs.length - 1) (by omega)
  rwa [Nat.sub_add_cancel h] at this
theorem psum_mono {xs : List Int} (h : ∀ j, j < xs.length → 0 ≤ at0 xs j) : ∀ k m, m ≤ k → k ≤ xs.length → 0 ≤ psum xs m ∧ psum xs m ≤ psum xs k := by
  intro k
  induction k with
  | zero =>
    intro m hm _
    obtain rfl : m = 0 := Nat.le_zero.1 hm
    simp [psum]
  | succ k ih =>
    intro m hm hk
    have h1 := h k (by omega)
    by_cases e : m = k + 1
    · subst e
      have := ih k (Nat.le_refl _) (by omega)
      simp only [psum]; omega
    · have := ih m (by omega) (by omega)
      simp only [psum]; omega
theorem at0_le_total {xs : List Int} (h : ∀ j, j < xs.length → 0 ≤ at0 xs j) {j : Nat} (hj : j < xs.length) : at0 xs j ≤ total xs := by
  have h1 := psum_mono h xs.length (j + 1) (by omega) (Nat.le_refl _)
  have h2 := psum_mono h xs.length j (by omega) (Nat.le_refl _)
  have e : psum xs (j + 1) = psum xs j + at0 xs j := rfl
  unfold total
  omega
theorem mem_at0 {xs : List Int} {x : Int} (h : x ∈ xs) : ∃ j, j < xs.length ∧ at0 xs j = x := by
  obtain ⟨j, hj⟩ := List.getElem?_of_mem h
  exact ⟨j, (List.getElem?_eq_some_iff.1 hj).1, at0_get hj⟩
theorem after_ok {m : Int} {yes : Bool} {xs q : List Int} (h : stateOk m xs = true) (hq : askOk xs q = true) : stateOk m (after yes xs q) = true := by
  have hi := stateOk_iff.1 h
  have hn : ∀ j, j < (after yes xs q).length → 0 ≤ at0 (after yes xs q) j := fun j hj => by
    rw [after_len] at hj
    rw [at0_after hj]
    exact aft_nonneg hq hj
  have ht : total (after yes xs q) ≤ m := by
    rw [total_after hi.1]
    have := inA_nonneg (yes := !yes) hq (show xs.length - 1 < xs.length by omega)
    omega
  refine stateOk_iff.2 ⟨by rw [after_len]; omega, by rw [after_len]; omega, fun x hx => ?_, ht⟩
  obtain ⟨j, hj, rfl⟩ := mem_at0 hx
  exact ⟨hn j hj, Int.le_trans (at0_le_total hn hj) ht⟩

/-! Pascal -/
theorem two_ch2 (q : Int) : 2 * ch q 2 = q * (q - 1) := by
  rw [ch2]
  have h : q * (q - 1) % 2 = 0 := by
    have h1 : q % 2 = 0 ∨ q % 2 = 1 := by omega
    rw [Int.mul_emod]
    rcases h1 with e | e
    · rw [e]; simp
    · have : (q - 1) % 2 = 0 := by omega
      rw [this]; simp
  omega
theorem three_ch3 (q : Int) : 3 * ch q 3 = ch q 2 * (q - 2) := by
  rw [ch3]
  have h : ch q 2 * (q - 2) % 3 = 0 := by
    have h2 := two_ch2 q
    have h6 : (2 * (ch q 2 * (q - 2))) % 3 = 0 := by
      rw [← Int.mul_assoc, h2, Int.mul_emod, Int.mul_emod q]
      have h1 : q % 3 = 0 ∨ q % 3 = 1 ∨ q % 3 = 2 := by omega
      rcases h1 with e | e | e
      · rw [e]; simp
      · have : (q - 1) % 3 = 0 := by omega
        rw [this]; simp
      · have : (q - 2) % 3 = 0 := by omega
        rw [this]; simp
    omega
  omega
theorem pascal (q : Int) : ∀ j, j ≤ 2 → ch (q + 1) (j + 1) = ch q (j + 1) + ch q j := by
  have p2 : ch (q + 1) 2 = ch q 2 + ch q 1 := by
    have h1 := two_ch2 (q + 1)
    have h2 := two_ch2 q
    have e : (q + 1) * (q + 1 - 1) = q * (q - 1) + 2 * q := by
      rw [Int.add_sub_cancel, Int.add_mul, Int.mul_sub]; omega
    rw [ch1]
    omega
  intro j hj
  have : j = 0 ∨ j = 1 ∨ j = 2 := by omega
  rcases this with rfl | rfl | rfl
  · rw [ch1, ch1, ch0]
  · exact p2
  · have h1 := three_ch3 (q + 1)
    have h2 := three_ch3 q
    have h3 := two_ch2 q
    have e1 : q + 1 - 2 = q - 1 := by omega
    rw [p2, ch1, e1, Int.add_mul] at h1
    have e2 : ch q 2 * (q - 1) = ch q 2 * (q - 2) + ch q 2 := by
      rw [show q - 1 = (q - 2) + 1 by omega, Int.mul_add]; simp
    show ch (q + 1) 3 = ch q 3 + ch q 2
    omega
theorem cs_pascal (q : Int) : ∀ m, m ≤ 3 → cs (q + 1) (m + 1) = cs q (m + 1) + cs q m := by
  intro m
  induction m with
  | zero => intro _; simp [cs, ch]
  | succ m ih =>
    intro h
    have h1 := ih (by omega)
    have h2 := pascal q m (by omega)
    rw [cs, h1, h2]
    rw [show cs q (m + 1 + 1) = cs q (m + 1) + ch q (m + 1) from rfl]
    have e : cs q (m + 1) = cs q m + ch q m := rfl
    omega
theorem pwt_sum {xs q : List Int} {k : Int} (hl : xs.length ≤ 4) : ∀ i, i + 1 ≤ xs.length →
    pwt (after true xs q) k (i + 1) + pwt (after false xs q) k (i + 1) = pwt xs (k + 1) (i + 1) - at0 xs i * cs k (xs.length - (i + 1)) := by
  intro i
  induction i with
  | zero =>
    intro h
    simp only [pwt, after_len]
    rw [at0_after (by omega), at0_after (by omega), aft, aft, if_pos rfl, if_pos rfl]
    have h1 := inA_sum true xs q 0
    have h2 := cs_pascal k (xs.length - 1) (by omega)
    rw [Nat.sub_add_cancel h] at h2
    simp only [Int.zero_add, Int.add_zero, Nat.sub_zero]
    rw [h2, Int.mul_add, ← Int.add_mul]
    have : inA true xs q 0 + inA false xs q 0 = at0 xs 0 := h1
    rw [this]
    simp only [Nat.zero_add]
    omega
  | succ i ih =>
    intro h
    have h0 := ih (by omega)
    rw [show pwt (after true xs q) k (i + 1 + 1) = pwt (after true xs q) k (i + 1) + at0 (after true xs q) (i + 1) * cs k ((after true xs q).length - (i + 1)) from rfl, show pwt (after false xs q) k (i + 1 + 1) = pwt (after false xs q) k (i + 1) + at0 (after false xs q) (i + 1) * cs k ((after false xs q).length - (i + 1)) from rfl, show pwt xs (k + 1) (i + 1 + 1) = pwt xs (k + 1) (i + 1) + at0 xs (i + 1) * cs (k + 1) (xs.length - (i + 1)) from rfl]
    rw [after_len, after_len, at0_after (by omega), at0_after (by omega), aft, aft, if_neg (by omega), if_neg (by omega)]
    simp only [Nat.add_sub_cancel, Bool.not_true, Bool.not_false]
    have h1 : inA true xs q (i + 1) + inA false xs q (i + 1) = at0 xs (i + 1) := inA_sum true xs q (i + 1)
    have h2 : inA true xs q i + inA false xs q i = at0 xs i := inA_sum true xs q i
    have h3 := cs_pascal k (xs.length - (i + 1) - 1) (by omega)
    rw [Nat.sub_add_cancel (by omega)] at h3
    rw [h3, Int.mul_add, show xs.length - (i + 1 + 1) = xs.length - (i + 1) - 1 by omega]
    generalize cs k (xs.length - (i + 1)) = C at *
    generalize cs k (xs.length - (i + 1) - 1) = D at *
    rw [← h2] at h0
    rw [← h1]
    simp only [Int.add_mul] at h0 ⊢
    omega
theorem weight_sum {xs q : List Int} {k : Int} (hl : xs.length ≤ 4) (h1 : 1 ≤ xs.length) : weight (after true xs q) k + weight (after false xs q) k = weight xs (k + 1) := by
  unfold weight
  rw [after_len, after_len]
  have := pwt_sum (q := q) (k := k) hl (xs.length - 1) (by omega)
  rw [Nat.sub_add_cancel h1, Nat.sub_self] at this
  rw [this]
  simp [cs]
end Go.Proofs.Ytdclmhmdkhpekaa
