/- Plain laws of guessing pegs: the codes that marks leave, how many guesses suffice; the looks with and without prunes are the same. Conditions: at least one colour and at most six, codes of the game. -/
import Derived.Test.YtdclmhmdkhpekaaPegs2
namespace Go.Proofs.Ytdclmhmdkhpekaa

/-- The codes below N, rising. -/
def upto (N : Nat) : List Int := (List.range N).map fun (i : Nat) => (i : Int)
theorem mem_upto {N : Nat} {x : Int} : x ∈ upto N ↔ 0 ≤ x ∧ x < N := by
  unfold upto
  simp only [List.mem_map, List.mem_range]
  constructor
  · rintro ⟨i, h, rfl⟩; omega
  · intro h; exact ⟨x.toNat, by omega, by omega⟩
theorem upto_len (N : Nat) : (upto N).length = N := by simp [upto]
theorem upto_get {N i : Nat} (h : i < N) : (upto N)[i]? = some (i : Int) := by simp [upto, h]
theorem upto_succ (N : Nat) : upto (N + 1) = upto N ++ [(N : Int)] := by simp [upto, List.range_succ]
theorem upto_rise (N : Nat) : (upto N).Pairwise (· < ·) := by
  unfold upto
  rw [List.pairwise_map]
  exact List.pairwise_lt_range.imp fun h => by omega
/-- A rising list of codes below N. -/
structure Rise (N : Nat) (l : List Int) : Prop where
  lt : l.Pairwise (· < ·)
  mem : ∀ x ∈ l, 0 ≤ x ∧ x < N
theorem Rise.filter {N : Nat} {l : List Int} (h : Rise N l) (f : Int → Bool) : Rise N (l.filter f) :=
  ⟨h.lt.filter f, fun x hx => h.mem x (List.mem_filter.1 hx).1⟩
theorem rise_upto (N : Nat) : Rise N (upto N) := ⟨upto_rise N, fun _ h => mem_upto.1 h⟩
theorem Rise.tail {N : Nat} {x : Int} {l : List Int} (h : Rise N (x :: l)) : Rise N l := ⟨(List.pairwise_cons.1 h.lt).2, fun y hy => h.mem y (List.mem_cons_of_mem _ hy)⟩
theorem Rise.len {N : Nat} : ∀ {l : List Int}, Rise N l → ∀ {a : Nat}, (∀ x ∈ l, (a : Int) ≤ x) → a ≤ N → l.length + a ≤ N := by
  intro l
  induction l with
  | nil => intro _ a _ h; simpa using h
  | cons x l ih =>
    intro h a ha _
    have h1 := h.mem x (by simp)
    have h2 := ha x (by simp)
    have h3 := (List.pairwise_cons.1 h.lt).1
    have := ih h.tail (a := a + 1) (fun y hy => by have := h3 y hy; omega) (by omega)
    simp only [List.length_cons]; omega
theorem Rise.le {N : Nat} {l : List Int} (h : Rise N l) : l.length ≤ N := by
  have := h.len (a := 0) (fun x hx => by have := h.mem x hx; omega) (Nat.zero_le _)
  simpa using this

/-- The marks of a guess for a code; the codes of a list that marks leave. -/
def mrk (c : Int) (p : Nat) (a b : Int) : Int × Int := (black c a b p, white c a b p)
def partL (c : Int) (p : Nat) (l : List Int) (a : Int) (m : Int × Int) : List Int := l.filter fun b => mrk c p a b == m
theorem mem_part {c : Int} {p : Nat} {l : List Int} {a : Int} {m : Int × Int} {b : Int} : b ∈ partL c p l a m ↔ b ∈ l ∧ mrk c p a b = m := by simp [partL]

/-- Do n guesses suffice? The program's look. -/
def solvesL (c : Int) (p N : Nat) : Nat → List Int → Bool
  | 0, l => l.isEmpty
  | n+1, l => l.isEmpty || (upto N).any fun a => l.all fun b => decide (black c a b p = p) || solvesL c p N n (partL c p l a (mrk c p a b))
/-- The reference's look. -/
def enoughL (c : Int) (p N : Nat) : Nat → List Int → Bool
  | 0, l => l.isEmpty
  | n+1, l => l.isEmpty || (!(n == 0 && decide (1 < l.length)) && (upto N).any fun a => l.all fun b => decide (black c a b p = p) || (decide ((partL c p l a (mrk c p a b)).length < l.length) && enoughL c p N n (partL c p l a (mrk c p a b))))

theorem solves_nil (c : Int) (p N n : Nat) : solvesL c p N n [] = true := by cases n <;> simp [solvesL]
theorem enough_nil (c : Int) (p N n : Nat) : enoughL c p N n [] = true := by cases n <;> simp [enoughL]
theorem solves_succ {c : Int} {p N n : Nat} {l : List Int} (hl : l ≠ []) : solvesL c p N (n+1) l = true ↔ ∃ a ∈ upto N, ∀ b ∈ l, black c a b p = p ∨ solvesL c p N n (partL c p l a (mrk c p a b)) = true := by
  simp [solvesL, hl]
theorem enough_succ {c : Int} {p N n : Nat} {l : List Int} (hl : l ≠ []) : enoughL c p N (n+1) l = true ↔ (n = 0 → l.length ≤ 1) ∧ ∃ a ∈ upto N, ∀ b ∈ l, black c a b p = p ∨ ((partL c p l a (mrk c p a b)).length < l.length ∧ enoughL c p N n (partL c p l a (mrk c p a b)) = true) := by
  rw [Decidable.imp_iff_not_or]; simp [enoughL, hl]

theorem solves_mono (c : Int) (p N n : Nat) : ∀ l, solvesL c p N n l = true → solvesL c p N (n+1) l = true := by
  induction n with
  | zero => intro l h; simp [solvesL] at h; subst h; exact solves_nil _ _ _ _
  | succ n ih =>
    intro l h
    by_cases hl : l = []
    · subst hl; exact solves_nil _ _ _ _
    · rw [solves_succ hl] at h ⊢
      obtain ⟨a, ha, h⟩ := h
      exact ⟨a, ha, fun b hb => (h b hb).imp id (ih _)⟩
theorem enough_mono (c : Int) (p N n : Nat) : ∀ l, enoughL c p N n l = true → enoughL c p N (n+1) l = true := by
  induction n with
  | zero =>
    intro l h
    simp [enoughL] at h; subst h; exact enough_nil _ _ _ _
  | succ n ih =>
    intro l h
    by_cases hl : l = []
    · subst hl; exact enough_nil _ _ _ _
    · rw [enough_succ hl] at h ⊢
      obtain ⟨_, a, ha, h⟩ := h
      exact ⟨fun h => by omega, a, ha, fun b hb => (h b hb).imp id fun ⟨x, y⟩ => ⟨x, ih _ y⟩⟩
theorem enough_solves (c : Int) (p N n : Nat) : ∀ l, enoughL c p N n l = true → solvesL c p N n l = true := by
  induction n with
  | zero => intro l h; exact h
  | succ n ih =>
    intro l h
    by_cases hl : l = []
    · subst hl; exact solves_nil _ _ _ _
    · rw [enough_succ hl] at h
      rw [solves_succ hl]
      obtain ⟨_, a, ha, h⟩ := h
      exact ⟨a, ha, fun b hb => (h b hb).imp id fun ⟨_, y⟩ => ih _ y⟩

/-- A game, as the numbers of a code go. -/
structure Game (c : Int) (p N : Nat) : Prop where
  c1 : 1 ≤ c
  c6 : c ≤ 6
  N_eq : (N : Int) = pw c p
section
variable {c : Int} {p N : Nat}
theorem Game.same (G : Game c p N) {a b : Int} (ha : 0 ≤ a ∧ a < N) (hb : 0 ≤ b ∧ b < N) : black c a b p = p ↔ a = b :=
  black_all G.c1 (by rw [← G.N_eq]; exact ha) (by rw [← G.N_eq]; exact hb)
theorem Game.part_rise {l : List Int} (h : Rise N l) (a : Int) (m : Int × Int) : Rise N (partL c p l a m) := h.filter _

theorem filter_all_len {α : Type} {f : α → Bool} : ∀ {l : List α}, (l.filter f).length = l.length → l.filter f = l := by
  intro l h
  rw [List.filter_eq_self]
  exact List.length_filter_eq_length_iff.1 h

/-- Who guesses the codes one by one needs no more guesses than there are codes. -/
theorem Game.all_solved (G : Game c p N) : ∀ (n : Nat) (l : List Int), Rise N l → l.length ≤ n → solvesL c p N n l = true := by
  intro n
  induction n with
  | zero => intro l _ h; have : l = [] := List.eq_nil_of_length_eq_zero (by omega); subst this; exact solves_nil _ _ _ _
  | succ n ih =>
    intro l hr h
    cases l with
    | nil => exact solves_nil _ _ _ _
    | cons x t =>
      rw [solves_succ (by simp)]
      have hx := hr.mem x (by simp)
      refine ⟨x, mem_upto.2 hx, fun b hb => ?_⟩
      by_cases e : x = b
      · left; exact (G.same hx (hr.mem b hb)).2 e
      · right
        refine ih _ (hr.filter _) ?_
        have hne : (mrk c p x x == mrk c p x b) = false := by
          rw [beq_eq_false_iff_ne]
          intro h2
          have h3 : black c x x p = black c x b p := congrArg Prod.fst h2
          rw [(G.same hx hx).2 rfl] at h3
          exact e ((G.same hx (hr.mem b hb)).1 h3.symm)
        unfold partL
        rw [List.filter_cons_of_neg (by simp [hne])]
        have := List.length_filter_le (fun b_1 => mrk c p x b_1 == mrk c p x b) t
        simp only [List.length_cons] at h
        omega

theorem Rise.all_same {l : List Int} (hr : Rise N l) {a : Int} (h : ∀ b ∈ l, a = b) : l.length ≤ 1 := by
  cases l with
  | nil => simp
  | cons x t =>
    cases t with
    | nil => simp
    | cons y t =>
      have h1 := (List.pairwise_cons.1 hr.lt).1 y (by simp)
      have h2 := h x (by simp)
      have h3 := h y (by simp)
      omega

theorem Game.solves_enough (G : Game c p N) : ∀ (n : Nat) (l : List Int), Rise N l → solvesL c p N n l = true → enoughL c p N n l = true := by
  intro n
  induction n with
  | zero => intro l _ h; exact h
  | succ n ih =>
    intro l hr h
    by_cases hl : l = []
    · subst hl; exact enough_nil _ _ _ _
    by_cases hex : ∃ a ∈ upto N, (∀ b ∈ l, black c a b p = p ∨ solvesL c p N n (partL c p l a (mrk c p a b)) = true) ∧ ∃ b ∈ l, black c a b p ≠ p ∧ (partL c p l a (mrk c p a b)).length = l.length
    · obtain ⟨a, ha, hall, b, hb, hne, hlen⟩ := hex
      have e : partL c p l a (mrk c p a b) = l := filter_all_len hlen
      have := (hall b hb).resolve_left hne
      rw [e] at this
      exact enough_mono _ _ _ _ _ (ih l hr this)
    · obtain ⟨a, ha, hall⟩ := (solves_succ hl).1 h
      rw [enough_succ hl]
      refine ⟨fun hn => ?_, a, ha, fun b hb => ?_⟩
      · subst hn
        refine hr.all_same (a := a) fun b hb => ?_
        rcases hall b hb with h1 | h1
        · exact (G.same (mem_upto.1 ha) (hr.mem b hb)).1 h1
        · simp only [solvesL, List.isEmpty_iff] at h1
          have : b ∈ partL c p l a (mrk c p a b) := mem_part.2 ⟨hb, rfl⟩
          rw [h1] at this
          cases this
      · rcases hall b hb with h1 | h1
        · exact .inl h1
        · by_cases hb2 : black c a b p = p
          · exact .inl hb2
          · refine .inr ⟨?_, ih _ (hr.filter _) h1⟩
            have h3 := List.length_filter_le (fun b_1 => mrk c p a b_1 == mrk c p a b) l
            by_cases h4 : (partL c p l a (mrk c p a b)).length = l.length
            · exact absurd ⟨a, ha, hall, b, hb, hb2, h4⟩ hex
            · unfold partL at h4 ⊢; omega
theorem Game.solves_eq (G : Game c p N) (n : Nat) (l : List Int) (h : Rise N l) : enoughL c p N n l = solvesL c p N n l := by
  rw [Bool.eq_iff_iff]
  exact ⟨enough_solves c p N n l, G.solves_enough n l h⟩
end

/-- n is the least number of guesses, from one on. -/
structure Needs (c : Int) (p N n : Nat) : Prop where
  pos : 1 ≤ n
  yes : solvesL c p N n (upto N) = true
  no : ∀ j, 1 ≤ j → j < n → solvesL c p N j (upto N) = false
theorem Needs.one {c : Int} {p N n m : Nat} (h : Needs c p N n) (k : Needs c p N m) : n = m := by
  rcases Nat.lt_trichotomy n m with g | g | g
  · have := k.no n h.pos g; rw [h.yes] at this; cases this
  · exact g
  · have := h.no m k.pos g; rw [k.yes] at this; cases this
theorem Game.need_le {c : Int} {p N : Nat} (G : Game c p N) {n : Nat} (h : Needs c p N n) (hN : 1 ≤ N) : n ≤ N := by
  rcases Nat.lt_or_ge N n with g | g
  · have := h.no N hN g
    rw [G.all_solved N _ (rise_upto N) (by rw [upto_len]; exact Nat.le_refl _)] at this
    cases this
  · exact g
end Go.Proofs.Ytdclmhmdkhpekaa
