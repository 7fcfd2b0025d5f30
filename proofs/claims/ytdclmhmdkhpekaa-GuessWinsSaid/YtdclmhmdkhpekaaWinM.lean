/- The plain law of the liar's game: what is won is heavy enough, and stays won with more questions or an easier state. Conditions: states of numbers that are not negative. -/
import Derived.Test.YtdclmhmdkhpekaaWinS
namespace Go.Proofs.Ytdclmhmdkhpekaa

theorem pwt_le {xs : List Int} (h : Nn xs) (q : Nat) : ∀ k, k ≤ xs.length → 0 ≤ psum xs k ∧ pwt xs q k ≤ psum xs k * p2 q := by
  intro k
  induction k with
  | zero => intro _; simp [pwt, psum]
  | succ k ih =>
    intro hk
    have h1 := ih (by omega)
    have h2 := h.nn k (by omega)
    have h3 := cs_pow q (xs.length - k) (by have := h.hi; omega)
    have h4 := Int.mul_le_mul_of_nonneg_left h3.2 h2
    simp only [pwt, psum, Int.add_mul]
    omega
theorem weight_le {xs : List Int} (h : Nn xs) (q : Nat) : 0 ≤ total xs ∧ weight xs q ≤ total xs * p2 q := pwt_le h q xs.length (Nat.le_refl _)
/-- What is won is heavy enough. -/
theorem winS_weight {xs : List Int} (h : Nn xs) {q : Nat} (hw : winS q xs = true) : weight xs q ≤ p2 q := by
  have key : total xs ≤ 1 → weight xs q ≤ p2 q := by
    intro h1
    obtain ⟨h0, h2⟩ := weight_le h q
    have hp := p2_pos (q : Int)
    have := Int.mul_le_mul_of_nonneg_right h1 (show 0 ≤ p2 (q : Int) by omega)
    omega
  cases q with
  | zero => exact key (by simpa [winS] using hw)
  | succ q =>
    rcases (winS_succ h).1 hw with h1 | h1
    · exact key h1
    · exact h1.1
theorem winS_small {xs : List Int} (h : total xs ≤ 1) : ∀ q, winS q xs = true := by
  intro q
  cases q with
  | zero => simpa [winS] using h
  | succ q => simp [winS, h]
/-- An easier state: of each number of levels there are no more. -/
structure Easier (ys xs : List Int) : Prop where
  len : ys.length = xs.length
  sum : ∀ k, k ≤ xs.length → psum ys k ≤ psum xs k
theorem psum_true {xs s : List Int} (k : Nat) (hk : k + 1 ≤ xs.length) : psum (after true xs s) (k + 1) = psum xs k + at0 s k := by
  rw [psum_after k hk]
  simp only [psum, inA, Bool.not_true, Bool.false_eq_true, if_false]
  omega
theorem psum_false {xs s : List Int} (k : Nat) (hk : k + 1 ≤ xs.length) : psum (after false xs s) (k + 1) = psum xs k + (at0 xs k - at0 s k) := by
  rw [psum_after k hk]
  simp only [psum, inA, Bool.not_false, if_true]
  omega
/-- The question for the easier state. -/
def easyQ (ys xs s : List Int) : List Int := (List.range ys.length).map fun k => max 0 (psum ys (k + 1) - psum xs (k + 1) + at0 s k)
theorem easyQ_at {ys xs s : List Int} {k : Nat} (hk : k < ys.length) : at0 (easyQ ys xs s) k = max 0 (psum ys (k + 1) - psum xs (k + 1) + at0 s k) := by
  simp [easyQ, at0, List.getD, hk]
theorem easyQ_ok {ys xs s : List Int} (hy : Nn ys) (he : Easier ys xs) (hs : askOk xs s = true) :
    askOk ys (easyQ ys xs s) = true ∧ Easier (after true ys (easyQ ys xs s)) (after true xs s) ∧ Easier (after false ys (easyQ ys xs s)) (after false xs s) := by
  have hi := askOk_iff.1 hs
  have hl := he.len
  have hq : (easyQ ys xs s).length = ys.length := by simp [easyQ]
  have key : ∀ k, k < ys.length → 0 ≤ at0 (easyQ ys xs s) k ∧ at0 (easyQ ys xs s) k ≤ at0 ys k ∧ psum ys k + at0 (easyQ ys xs s) k ≤ psum xs k + at0 s k ∧ psum ys k + (at0 ys k - at0 (easyQ ys xs s) k) ≤ psum xs k + (at0 xs k - at0 s k) := by
    intro k hk
    rw [easyQ_at hk]
    have h1 := he.sum k (by omega)
    have h2 := he.sum (k + 1) (by omega)
    have h3 := hi.2 k (by omega)
    have h4 := hy.nn k hk
    simp only [psum] at h2 ⊢
    omega
  refine ⟨askOk_iff.2 ⟨hq, fun j hj => ?_⟩, ⟨by rw [after_len, after_len]; exact hl, fun k hk => ?_⟩, ⟨by rw [after_len, after_len]; exact hl, fun k hk => ?_⟩⟩
  · have := key j (by omega)
    exact ⟨this.1, this.2.1⟩
  · rw [after_len] at hk
    cases k with
    | zero => simp [psum]
    | succ k =>
      rw [psum_true k (by omega), psum_true k (by omega)]
      exact (key k (by omega)).2.2.1
  · rw [after_len] at hk
    cases k with
    | zero => simp [psum]
    | succ k =>
      rw [psum_false k (by omega), psum_false k (by omega)]
      exact (key k (by omega)).2.2.2
theorem Easier.total {ys xs : List Int} (h : Easier ys xs) : total ys ≤ Ytdclmhmdkhpekaa.total xs := by
  have := h.sum xs.length (Nat.le_refl _)
  unfold Ytdclmhmdkhpekaa.total
  rw [h.len]; exact this
/-- An easier state is won, too. -/
theorem winS_easier : ∀ (q : Nat) (xs ys : List Int), Nn xs → Nn ys → Easier ys xs → winS q xs = true → winS q ys = true := by
  intro q
  induction q with
  | zero =>
    intro xs ys hx hy he hw
    have h1 : Ytdclmhmdkhpekaa.total xs ≤ 1 := by simpa [winS] using hw
    have := he.total
    simp [winS]; omega
  | succ q ih =>
    intro xs ys hx hy he hw
    rcases (winS_succ hx).1 hw with h1 | ⟨h1, s, hs, _, _, h4, h5⟩
    · exact winS_small (by have := he.total; omega) _
    · obtain ⟨k1, k2, k3⟩ := easyQ_ok hy he hs
      have a1 := ih _ _ (hx.after hs true) (hy.after k1 true) k2 h4
      have a2 := ih _ _ (hx.after hs false) (hy.after k1 false) k3 h5
      have b1 := winS_weight (hy.after k1 true) a1
      have b2 := winS_weight (hy.after k1 false) a2
      have hsum := weight_sum (xs := ys) (q := easyQ ys xs s) (k := (q : Int)) hy.hi hy.lo
      have hp := p2_succ (k := (q : Int)) (by omega)
      have e : ((q + 1 : Nat) : Int) = (q : Int) + 1 := by omega
      refine (winS_succ hy).2 (.inr ⟨?_, _, k1, b1, b2, a1, a2⟩)
      rw [e, hp]
      omega
/-- More questions. -/
theorem winS_more {xs : List Int} (h : Nn xs) {q : Nat} (hw : winS q xs = true) : winS (q + 1) xs = true := by
  have hz : ∀ k, at0 (List.replicate xs.length (0 : Int)) k = 0 := by
    intro k
    simp only [at0, List.getD, List.getElem?_replicate]
    split <;> rfl
  have hs : askOk xs (List.replicate xs.length 0) = true := askOk_iff.2 ⟨by simp, fun j hj => by rw [hz]; exact ⟨Int.le_refl _, h.nn j (by simpa using hj)⟩⟩
  have e1 : Easier (after true xs (List.replicate xs.length 0)) xs := ⟨after_len _ _ _, fun k hk => by
    cases k with
    | zero => simp [psum]
    | succ k =>
      rw [psum_true k hk, hz]
      have := h.nn k (by omega)
      simp only [psum]; omega⟩
  have e2 : Easier (after false xs (List.replicate xs.length 0)) xs := ⟨after_len _ _ _, fun k hk => by
    cases k with
    | zero => simp [psum]
    | succ k =>
      rw [psum_false k hk, hz]
      simp only [psum]; omega⟩
  have a1 := winS_easier q _ _ h (h.after hs true) e1 hw
  have a2 := winS_easier q _ _ h (h.after hs false) e2 hw
  have b1 := winS_weight (h.after hs true) a1
  have b2 := winS_weight (h.after hs false) a2
  have hsum := weight_sum (xs := xs) (q := List.replicate xs.length 0) (k := (q : Int)) h.hi h.lo
  have hp := p2_succ (k := (q : Int)) (by omega)
  have e : ((q + 1 : Nat) : Int) = (q : Int) + 1 := by omega
  refine (winS_succ h).2 (.inr ⟨?_, _, hs, b1, b2, a1, a2⟩)
  rw [e, hp]
  omega
end Go.Proofs.Ytdclmhmdkhpekaa
