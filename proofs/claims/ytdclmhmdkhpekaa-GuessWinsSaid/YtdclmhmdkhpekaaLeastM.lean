/- The plain law of the least number of questions: twenty always suffice; without lies they are the bits; a lie more, or a number more, needs no fewer. Conditions: numbers 1 to 40, lies 0 to 2. -/
import Derived.Test.YtdclmhmdkhpekaaMoreM
namespace Go.Proofs.Ytdclmhmdkhpekaa

theorem winS_by {xs s : List Int} {q : Nat} (h : Nn xs) (hs : askOk xs s = true) (h1 : winS q (after true xs s) = true) (h2 : winS q (after false xs s) = true) : winS (q + 1) xs = true := by
  have b1 := winS_weight (h.after hs true) h1
  have b2 := winS_weight (h.after hs false) h2
  have hsum := weight_sum (xs := xs) (q := s) (k := (q : Int)) h.hi h.lo
  have hp := p2_succ (k := (q : Int)) (by omega)
  have e : ((q + 1 : Nat) : Int) = (q : Int) + 1 := by omega
  refine (winS_succ h).2 (.inr ⟨?_, _, hs, b1, b2, h1, h2⟩)
  rw [e, hp]
  omega
/-- Half of each, the greater one. -/
def halfQ (xs : List Int) : List Int := xs.map fun x => (x + 1) / 2
def halfL (xs : List Int) : List Int := after true xs (halfQ xs)
theorem halfQ_at (xs : List Int) (j : Nat) : at0 (halfQ xs) j = (at0 xs j + 1) / 2 := by
  unfold at0 halfQ
  rw [List.getD_eq_getElem?_getD, List.getD_eq_getElem?_getD, List.getElem?_map]
  cases xs[j]? <;> simp
theorem halfQ_ok {xs : List Int} (h : Nn xs) : askOk xs (halfQ xs) = true := askOk_iff.2 ⟨by simp [halfQ], fun j hj => by
  rw [halfQ_at]
  have := h.nn j (by simpa [halfQ] using hj)
  omega⟩
theorem winS_half {xs : List Int} {q : Nat} (h : Nn xs) (hw : winS q (halfL xs) = true) : winS (q + 1) xs = true := by
  refine winS_by h (halfQ_ok h) hw (winS_easier q _ _ (h.after (halfQ_ok h) true) (h.after (halfQ_ok h) false) ⟨by simp [after_len], fun k hk => ?_⟩ hw)
  rw [after_len] at hk
  cases k with
  | zero => simp [psum]
  | succ k =>
    rw [psum_true k (by omega), psum_false k (by omega), halfQ_at]
    have := h.nn k (by omega)
    omega
def halfs : Nat → List Int → List Int
  | 0, xs => xs
  | k+1, xs => halfs k (halfL xs)
theorem winS_halfs {q : Nat} : ∀ (k : Nat) {xs : List Int}, Nn xs → winS q (halfs k xs) = true → winS (q + k) xs = true := by
  intro k
  induction k with
  | zero => intro xs _ h; exact h
  | succ k ih => intro xs h hw; exact winS_half h (ih (h.after (halfQ_ok h) true) hw)
theorem winS_up {xs : List Int} (h : Nn xs) {q : Nat} (hw : winS q xs = true) : ∀ k, winS (q + k) xs = true := by
  intro k
  induction k with
  | zero => exact hw
  | succ k ih => exact winS_more h ih

/-- The state of n numbers that have not lied, with e lies. -/
def startL (n : Int) (e : Nat) : List Int := n :: List.replicate e 0
theorem startL_at (n : Int) (e j : Nat) : at0 (startL n e) j = if j = 0 then n else 0 := by
  cases j with
  | zero => rfl
  | succ j =>
    rw [if_neg (by omega)]
    unfold at0 startL
    rw [List.getD_eq_getElem?_getD, List.getElem?_cons_succ, List.getElem?_replicate]
    split <;> rfl
theorem startL_psum (n : Int) (e k : Nat) : psum (startL n e) k = if k = 0 then 0 else n := by
  induction k with
  | zero => rfl
  | succ k ih =>
    rw [psum, ih, startL_at]
    by_cases h : k = 0 <;> simp [h]
theorem startL_total (n : Int) (e : Nat) : total (startL n e) = n := by unfold total; rw [startL_psum, if_neg (by simp [startL])]
theorem startL_nn {n : Int} {e : Nat} (hn : 0 ≤ n) (he : e ≤ 3) : Nn (startL n e) := ⟨by simp [startL], by simp [startL]; omega, fun j _ => by rw [startL_at]; split <;> omega⟩
theorem startL_easier {n m : Int} (e : Nat) (h : n ≤ m) : Easier (startL n e) (startL m e) := ⟨by simp [startL], fun k _ => by
  rw [startL_psum, startL_psum]
  split <;> omega⟩

theorem win20 : winS 20 (startL 40 0) = true ∧ winS 20 (startL 40 1) = true ∧ winS 20 (startL 40 2) = true :=
  ⟨winS_halfs (q := 0) 20 (startL_nn (by omega) (by omega)) (by decide +kernel), winS_halfs (q := 6) 14 (startL_nn (by omega) (by omega)) (by decide +kernel), winS_halfs (q := 8) 12 (startL_nn (by omega) (by omega)) (by decide +kernel)⟩
theorem win_start {n : Int} {e : Nat} (hn : 0 ≤ n) (hn4 : n ≤ 40) (he : e ≤ 2) : winS 20 (startL n e) = true := by
  refine winS_easier 20 _ _ (startL_nn (by omega) (by omega)) (startL_nn hn (by omega)) (startL_easier e hn4) ?_
  obtain ⟨h0, h1, h2⟩ := win20
  obtain rfl | rfl | rfl : e = 0 ∨ e = 1 ∨ e = 2 := by omega
  · exact h0
  · exact h1
  · exact h2
/-- The least number of questions. -/
structure LeastOf (q : Nat) (xs : List Int) : Prop where
  le : q ≤ 20
  win : winS q xs = true
  no : ∀ k, k < q → winS k xs = false
theorem least_of : ∀ (m : Nat) (xs : List Int), m ≤ 20 → winS m xs = true → ∃ q, LeastOf q xs := by
  intro m xs
  induction m using Nat.strongRecOn with
  | ind m ih =>
    intro hm hw
    by_cases h : ∃ k, k < m ∧ winS k xs = true
    · obtain ⟨k, hk, hkw⟩ := h
      exact ih k hk (by omega) hkw
    · refine ⟨m, hm, hw, fun k hk => ?_⟩
      cases e : winS k xs with
      | false => rfl
      | true => exact absurd ⟨k, hk, e⟩ h
theorem least_start {n : Int} {e : Nat} (hn : 0 ≤ n) (hn4 : n ≤ 40) (he : e ≤ 2) : ∃ q, LeastOf q (startL n e) := least_of 20 _ (Nat.le_refl _) (win_start hn hn4 he)
theorem LeastOf.le_of {q m : Nat} {xs : List Int} (h : LeastOf q xs) (hw : winS m xs = true) : q ≤ m := by
  rcases Nat.lt_or_ge m q with h1 | h1
  · rw [h.no m h1] at hw; cases hw
  · exact h1

/-- A level that nobody is in, ahead, is as if it was not there. -/
theorem psum_cons (x : Int) (xs : List Int) : ∀ k, psum (x :: xs) (k + 1) = x + psum xs k := by
  intro k
  induction k with
  | zero => simp [psum, at0]
  | succ k ih => rw [psum, ih]; simp only [psum, at0, List.getD_cons_succ]; omega
theorem total_cons (x : Int) (xs : List Int) : total (x :: xs) = x + total xs := by unfold total; rw [List.length_cons, psum_cons]
theorem after_cons (yes : Bool) (xs s : List Int) : after yes (0 :: xs) (0 :: s) = 0 :: after yes xs s := by
  apply List.ext_getElem (by simp [after_len])
  intro j h1 h2
  have e1 : (after yes (0 :: xs) (0 :: s))[j] = at0 (after yes (0 :: xs) (0 :: s)) j := by simp [at0, h1]
  have e2 : (0 :: after yes xs s)[j] = at0 (0 :: after yes xs s) j := by unfold at0; rw [List.getD_eq_getElem?_getD, List.getElem?_eq_getElem h2]; rfl
  rw [e1, e2, at0_after (by simpa [after_len] using h1)]
  cases j with
  | zero => cases yes <;> simp [aft, inA, at0]
  | succ j =>
    have hj : j < xs.length := by simpa [after_len] using h2
    rw [show at0 (0 :: after yes xs s) (j + 1) = at0 (after yes xs s) j by simp [at0], at0_after hj]
    cases j with
    | zero => cases yes <;> simp [aft, inA, at0]
    | succ j => cases yes <;> simp [aft, inA, at0]
theorem winS_cons : ∀ (q : Nat) (xs : List Int), Nn xs → Nn (0 :: xs) → winS q (0 :: xs) = true → winS q xs = true := by
  intro q
  induction q with
  | zero =>
    intro xs _ _ h
    simp only [winS, decide_eq_true_eq, total_cons] at h ⊢
    omega
  | succ q ih =>
    intro xs hx h0 h
    rcases (winS_succ h0).1 h with h1 | ⟨_, s, hs, _, _, h4, h5⟩
    · rw [total_cons] at h1
      exact winS_small (by omega) _
    · have hi := askOk_iff.1 hs
      obtain _ | ⟨u, s⟩ := s
      · simp at hi
      have hu := hi.2 0 (by simp)
      simp [at0] at hu
      obtain rfl : u = 0 := by omega
      have hs' : askOk xs s = true := askOk_iff.2 ⟨by simpa using hi.1, fun j hj => by simpa [at0] using hi.2 (j + 1) (by simpa using hj)⟩
      have a1 := h0.after hs true
      have a2 := h0.after hs false
      rw [after_cons] at h4 h5 a1 a2
      exact winS_by hx hs' (ih _ (hx.after hs' true) a1 h4) (ih _ (hx.after hs' false) a2 h5)
/-- A lie more needs no fewer. -/
theorem start_lie {q : Nat} {n : Int} {e : Nat} (hn : 0 ≤ n) (he : e + 1 ≤ 3) (h : winS q (startL n (e + 1)) = true) : winS q (startL n e) = true := by
  have h0 : Nn (0 :: startL n e) := ⟨by simp, by simp [startL]; omega, fun j hj => by
    cases j with
    | zero => simp [at0]
    | succ j => rw [show at0 (0 :: startL n e) (j + 1) = at0 (startL n e) j by simp [at0], startL_at]; split <;> omega⟩
  refine winS_cons q _ (startL_nn hn (by omega)) h0 (winS_easier q _ _ (startL_nn hn he) h0 ⟨by simp [startL], fun k _ => ?_⟩ h)
  cases k with
  | zero => simp [psum]
  | succ k =>
    rw [psum_cons, startL_psum, startL_psum]
    split <;> simp_all
/-- Without lies the questions are the bits. -/
theorem start_bits : ∀ (q : Nat) (n : Int), 0 ≤ n → (winS q (startL n 0) = true ↔ n ≤ p2 q) := by
  intro q n hn
  constructor
  · intro h
    have := winS_weight (startL_nn hn (by omega)) h
    have hw : weight (startL n 0) q = n := by simp [weight, startL, pwt, at0, cs, ch]
    omega
  · revert n
    induction q with
    | zero =>
      intro n hn h
      have : p2 ((0 : Nat) : Int) = 1 := by decide +kernel
      simp only [winS, startL_total, decide_eq_true_eq]
      omega
    | succ q ih =>
      intro n hn h
      have hp := p2_succ (k := (q : Int)) (by omega)
      have e : ((q + 1 : Nat) : Int) = (q : Int) + 1 := by omega
      rw [e, hp] at h
      refine winS_half (startL_nn hn (by omega)) ?_
      have hh : halfL (startL n 0) = startL ((n + 1) / 2) 0 := by simp [halfL, halfQ, startL, after, aft, inA, at0, List.range_succ]
      rw [hh]
      exact ih _ (by omega) (by omega)
end Go.Proofs.Ytdclmhmdkhpekaa
