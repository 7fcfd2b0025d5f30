/- The plain law of the liar's game: what wins; what is won with some questions is won with more, and if a number has lied once more. Conditions: states of numbers that are not negative. -/
import Derived.Test.YtdclmhmdkhpekaaPascal
import Derived.Test.YtdclmhmdkhpekaaShl
namespace Go.Proofs.Ytdclmhmdkhpekaa

/-- The first of the questions pre ++ .., compared from the front, of which good is true. -/
def firstQ (good : List Int → Bool) : List Int → List Int → Option (List Int)
  | [], pre => if good pre then some pre else none
  | x :: rest, pre => (List.range (x.toNat + 1)).findSome? fun v : Nat => firstQ good rest (pre ++ [(v : Int)])

def goodQ (win : List Int → Bool) (q : Int) (xs ques : List Int) : Bool :=
  decide (weight (after true xs ques) q ≤ p2 q) && decide (weight (after false xs ques) q ≤ p2 q) && win (after true xs ques) && win (after false xs ques)
/-- Whether q questions suffice. -/
def winS : Nat → List Int → Bool
  | 0, xs => decide (total xs ≤ 1)
  | q+1, xs => decide (total xs ≤ 1) || (decide (weight xs ((q + 1 : Nat) : Int) ≤ p2 ((q + 1 : Nat) : Int)) && (firstQ (goodQ (winS q) q xs) xs []).isSome)

theorem firstQ_good {good : List Int → Bool} : ∀ (rest pre r : List Int), firstQ good rest pre = some r → good r = true ∧ ∃ s, r = pre ++ s ∧ s.length = rest.length ∧ ∀ j, j < rest.length → 0 ≤ at0 s j ∧ at0 s j ≤ max (at0 rest j) 0 := by
  intro rest
  induction rest with
  | nil =>
    intro pre r h
    simp only [firstQ] at h
    split at h
    · cases h; exact ⟨by assumption, [], by simp, rfl, fun j hj => absurd hj (by simp)⟩
    · cases h
  | cons x rest ih =>
    intro pre r h
    simp only [firstQ] at h
    obtain ⟨v, hv, hr⟩ := List.exists_of_findSome?_eq_some h
    obtain ⟨hg, s, rfl, hl, hs⟩ := ih _ _ hr
    refine ⟨hg, (v : Int) :: s, by simp, by simp [hl], fun j hj => ?_⟩
    cases j with
    | zero =>
      have : v ≤ x.toNat := by simp at hv; omega
      simp [at0]; omega
    | succ j => simpa [at0] using hs j (by simpa using hj)
theorem firstQ_none {good : List Int → Bool} : ∀ (rest pre : List Int), firstQ good rest pre = none → ∀ s : List Int, s.length = rest.length → (∀ j, j < rest.length → 0 ≤ at0 s j ∧ at0 s j ≤ at0 rest j) → good (pre ++ s) = false := by
  intro rest
  induction rest with
  | nil =>
    intro pre h s hl _
    have : s = [] := List.eq_nil_of_length_eq_zero (by simpa using hl)
    subst this
    simp only [firstQ] at h
    split at h
    · cases h
    · simpa using ‹¬ good pre = true›
  | cons x rest ih =>
    intro pre h s hl hs
    cases s with
    | nil => simp at hl
    | cons v s =>
      simp only [firstQ, List.findSome?_eq_none_iff, List.mem_range] at h
      have h0 := hs 0 (by simp)
      simp [at0] at h0
      obtain ⟨n, rfl⟩ := Int.eq_ofNat_of_zero_le h0.1
      have := ih (pre ++ [(n : Int)]) (h n (by omega)) s (by simpa using hl) fun j hj => by simpa [at0] using hs (j + 1) (by simpa using hj)
      simpa using this

/-- A state of numbers that are not negative. -/
structure Nn (xs : List Int) : Prop where
  lo : 1 ≤ xs.length
  hi : xs.length ≤ 4
  nn : ∀ j, j < xs.length → 0 ≤ at0 xs j
theorem Nn.of_state {m : Int} {xs : List Int} (h : stateOk m xs = true) : Nn xs :=
  let h := stateOk_iff.1 h
  ⟨h.1, h.2.1, fun _ hj => (h.2.2.1 _ (at0_mem hj)).1⟩
theorem Nn.after {xs q : List Int} (h : Nn xs) (hq : askOk xs q = true) (yes : Bool) : Nn (after yes xs q) :=
  ⟨by rw [after_len]; exact h.lo, by rw [after_len]; exact h.hi, fun j hj => by rw [after_len] at hj; rw [at0_after hj]; exact aft_nonneg hq hj⟩

theorem firstQ_some_iff {good : List Int → Bool} {xs : List Int} (h : Nn xs) : (firstQ good xs []).isSome = true ↔ ∃ s, askOk xs s = true ∧ good s = true := by
  constructor
  · intro hs
    obtain ⟨r, hr⟩ := Option.isSome_iff_exists.1 hs
    obtain ⟨hg, s, e, hl, hb⟩ := firstQ_good _ _ _ hr
    have e2 : s = r := by simpa using e.symm
    subst e2
    refine ⟨s, askOk_iff.2 ⟨hl, fun j hj => ?_⟩, by simpa using hg⟩
    have := hb j (by omega)
    have := h.nn j (by omega)
    omega
  · rintro ⟨s, hs, hg⟩
    cases hf : firstQ good xs []
    · have hi := askOk_iff.1 hs
      have := firstQ_none _ _ hf s hi.1 fun j hj => hi.2 j (by omega)
      simp only [List.nil_append] at this
      rw [hg] at this
      cases this
    · rfl
theorem winS_succ {q : Nat} {xs : List Int} (h : Nn xs) : winS (q + 1) xs = true ↔ total xs ≤ 1 ∨ (weight xs ((q + 1 : Nat) : Int) ≤ p2 ((q + 1 : Nat) : Int) ∧ ∃ s, askOk xs s = true ∧ weight (after true xs s) q ≤ p2 q ∧ weight (after false xs s) q ≤ p2 q ∧ winS q (after true xs s) = true ∧ winS q (after false xs s) = true) := by
  rw [winS]
  simp only [Bool.or_eq_true, Bool.and_eq_true, decide_eq_true_eq, firstQ_some_iff h, goodQ, and_assoc]

/-! weights -/
theorem ch_zero : ∀ j, 1 ≤ j → j ≤ 3 → ch 0 j = 0 := by
  intro j h1 h2
  have : j = 1 ∨ j = 2 ∨ j = 3 := by omega
  rcases this with rfl | rfl | rfl <;> decide
theorem cs_zero : ∀ m, m ≤ 4 → 0 ≤ cs 0 m ∧ cs 0 m ≤ 1 := by
  intro m
  have : m = 0 ∨ m = 1 ∨ m = 2 ∨ m = 3 ∨ m = 4 ∨ 4 < m := by omega
  rcases this with rfl | rfl | rfl | rfl | rfl | h <;> first | (intro _; decide) | (intro h'; omega)
theorem cs_pow : ∀ (q : Nat) (m : Nat), m ≤ 4 → 0 ≤ cs q m ∧ cs q m ≤ p2 q := by
  intro q
  induction q with
  | zero => intro m hm; have := cs_zero m hm; simpa [p2] using this
  | succ q ih =>
    intro m hm
    cases m with
    | zero => have := p2_pos ((q + 1 : Nat) : Int); simp only [cs]; omega
    | succ m =>
      have h1 := ih (m + 1) hm
      have h2 := ih m (by omega)
      have h3 := cs_pascal q m (by omega)
      have h4 := p2_succ (k := (q : Int)) (by omega)
      have e : ((q + 1 : Nat) : Int) = (q : Int) + 1 := by omega
      rw [e, h3, h4]
      omega
theorem cs_mono (q : Nat) (m : Nat) (hm : m + 1 ≤ 4) : cs q m ≤ cs q (m + 1) := by
  have := (ch_nonneg (q := (q : Int)) (by omega) m (by omega)).1
  simp only [cs]; omega
end Go.Proofs.Ytdclmhmdkhpekaa
