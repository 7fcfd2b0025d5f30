/- Plain laws of the worst of a guess and of the next guess. No condition. -/
import Derived.Test.YtdclmhmdkhpekaaPegsL
namespace Go.Proofs.Ytdclmhmdkhpekaa

/-- The greatest number of codes that a guess leaves. -/
def worstL (c : Int) (p : Nat) (l : List Int) (a : Int) : Nat := (l.map fun b => (partL c p l a (mrk c p a b)).length).foldl max 0
structure IsWorst (c : Int) (p : Nat) (l : List Int) (a : Int) (k : Nat) : Prop where
  le : ∀ m, (partL c p l a m).length ≤ k
  ex : k = 0 ∨ ∃ m, (partL c p l a m).length = k
theorem IsWorst.one {c : Int} {p : Nat} {l : List Int} {a : Int} {j k : Nat} (h : IsWorst c p l a j) (h' : IsWorst c p l a k) : j = k := by
  have key : ∀ {j k : Nat}, IsWorst c p l a j → IsWorst c p l a k → j ≤ k := by
    intro j k h h'
    rcases h.ex with e | ⟨m, e⟩
    · omega
    · have := h'.le m; omega
  have := key h h'; have := key h' h; omega
theorem fold_max : ∀ (xs : List Nat) (s : Nat), s ≤ xs.foldl max s ∧ (∀ x ∈ xs, x ≤ xs.foldl max s) ∧ (xs.foldl max s = s ∨ xs.foldl max s ∈ xs)
  | [], s => by simp
  | x :: l, s => by
    obtain ⟨h1, h2, h3⟩ := fold_max l (max s x)
    simp only [List.foldl_cons]
    refine ⟨by omega, fun y hy => ?_, ?_⟩
    · rcases List.mem_cons.1 hy with rfl | hy
      · omega
      · exact h2 y hy
    · rcases h3 with e | e
      · rcases Nat.le_total s x with g | g
        · right; rw [e, Nat.max_eq_right g]; simp
        · left; rw [e, Nat.max_eq_left g]
      · right; simp [e]
theorem worst_is (c : Int) (p : Nat) (l : List Int) (a : Int) : IsWorst c p l a (worstL c p l a) := by
  obtain ⟨_, h2, h3⟩ := fold_max (l.map fun b => (partL c p l a (mrk c p a b)).length) 0
  refine ⟨fun m => ?_, ?_⟩
  · cases hm : partL c p l a m with
    | nil => simp
    | cons x t =>
      have hx : x ∈ partL c p l a m := by rw [hm]; simp
      obtain ⟨h4, rfl⟩ := mem_part.1 hx
      rw [← hm]
      exact h2 _ (List.mem_map.2 ⟨x, h4, rfl⟩)
  · rcases h3 with e | e
    · exact .inl e
    · obtain ⟨b, _, e⟩ := List.mem_map.1 e
      exact .inr ⟨_, e⟩
theorem worst_le (c : Int) (p : Nat) (l : List Int) (a : Int) : worstL c p l a ≤ l.length := by
  rcases (worst_is c p l a).ex with e | ⟨m, e⟩
  · omega
  · rw [← e]; exact List.length_filter_le _ _

/-- The least worst of the first k guesses, from s on down. -/
def leastTo (c : Int) (p : Nat) (l : List Int) (s : Nat) : Nat → Nat
  | 0 => s
  | k+1 => min (leastTo c p l s k) (worstL c p l k)
theorem least_le (c : Int) (p : Nat) (l : List Int) (s : Nat) : ∀ k (a : Nat), a < k → leastTo c p l s k ≤ worstL c p l a := by
  intro k
  induction k with
  | zero => intro a h; omega
  | succ k ih =>
    intro a h
    simp only [leastTo]
    by_cases e : a = k
    · subst e; omega
    · have := ih a (by omega); omega
theorem least_at (c : Int) (p : Nat) (l : List Int) (s : Nat) (hs : l.length < s) : ∀ k, 0 < k → ∃ a : Nat, a < k ∧ worstL c p l a = leastTo c p l s k := by
  intro k
  induction k with
  | zero => intro h; omega
  | succ k ih =>
    intro _
    simp only [leastTo]
    by_cases e : worstL c p l k ≤ leastTo c p l s k
    · exact ⟨k, by omega, by omega⟩
    · rcases Nat.eq_zero_or_pos k with h0 | h0
      · subst h0
        have := worst_le c p l ((0 : Nat) : Int)
        simp only [leastTo] at e
        omega
      · obtain ⟨a, ha, h⟩ := ih h0
        exact ⟨a, by omega, by omega⟩
theorem least_one {c : Int} {p : Nat} {l : List Int} {s s' : Nat} (hs : l.length < s) (hs' : l.length < s') {k : Nat} (hk : 0 < k) : leastTo c p l s k = leastTo c p l s' k := by
  obtain ⟨a, h1, h2⟩ := least_at c p l s hs k hk
  obtain ⟨b, h3, h4⟩ := least_at c p l s' hs' k hk
  have := least_le c p l s k b h3
  have := least_le c p l s' k a h1
  omega
/-- The best ones of the first k guesses. -/
def bestTo (c : Int) (p : Nat) (l : List Int) (m k : Nat) : List Int := (upto k).filter fun a => decide (worstL c p l a = m)
theorem best_succ (c : Int) (p : Nat) (l : List Int) (m k : Nat) : bestTo c p l m (k + 1) = bestTo c p l m k ++ if worstL c p l k = m then [(k : Int)] else [] := by
  unfold bestTo
  rw [upto_succ, List.filter_append]
  congr 1
  by_cases h : worstL c p l (k : Int) = m <;> simp [h]
theorem best_none {c : Int} {p : Nat} {l : List Int} {m k : Nat} (h : ∀ a : Nat, a < k → worstL c p l a ≠ m) : bestTo c p l m k = [] := by
  unfold bestTo
  rw [List.filter_eq_nil_iff]
  intro a ha
  have := mem_upto.1 ha
  have h2 := h a.toNat (by omega)
  have e : ((a.toNat : Nat) : Int) = a := by omega
  rw [e] at h2
  simpa using h2
theorem best_new {c : Int} {p : Nat} {l : List Int} {s k : Nat} (h : worstL c p l k < leastTo c p l s k) : leastTo c p l s (k + 1) = worstL c p l k ∧ bestTo c p l (leastTo c p l s (k + 1)) (k + 1) = [(k : Int)] := by
  have e : leastTo c p l s (k + 1) = worstL c p l k := by simp only [leastTo]; omega
  refine ⟨e, ?_⟩
  rw [e, best_succ, if_pos rfl, best_none fun a ha => by have := least_le c p l s k a ha; omega]
  rfl
theorem best_same {c : Int} {p : Nat} {l : List Int} {s k : Nat} (h : worstL c p l k = leastTo c p l s k) : leastTo c p l s (k + 1) = leastTo c p l s k ∧ bestTo c p l (leastTo c p l s (k + 1)) (k + 1) = bestTo c p l (leastTo c p l s k) k ++ [(k : Int)] := by
  have e : leastTo c p l s (k + 1) = leastTo c p l s k := by simp only [leastTo]; omega
  exact ⟨e, by rw [e, best_succ, if_pos h]⟩
theorem best_old {c : Int} {p : Nat} {l : List Int} {s k : Nat} (h : leastTo c p l s k < worstL c p l k) : leastTo c p l s (k + 1) = leastTo c p l s k ∧ bestTo c p l (leastTo c p l s (k + 1)) (k + 1) = bestTo c p l (leastTo c p l s k) k := by
  have e : leastTo c p l s (k + 1) = leastTo c p l s k := by simp only [leastTo]; omega
  refine ⟨e, ?_⟩
  rw [e, best_succ, if_neg (by omega)]
  simp
theorem best_len (c : Int) (p : Nat) (l : List Int) (m k : Nat) : (bestTo c p l m k).length ≤ k := by
  unfold bestTo
  exact Nat.le_trans (List.length_filter_le _ _) (by rw [upto_len]; omega)
theorem mem_best {c : Int} {p : Nat} {l : List Int} {m k : Nat} {a : Int} : a ∈ bestTo c p l m k ↔ (0 ≤ a ∧ a < k) ∧ worstL c p l a = m := by
  unfold bestTo
  rw [List.mem_filter, mem_upto]
  simp
/-- The next guess: of the best ones the first that is left; if none is, the first. -/
def pickL (best l : List Int) : Int := match best.find? (fun a => l.contains a) with
  | some a => a
  | none => best.headD 0
def nextL (c : Int) (p N : Nat) (l : List Int) : Int := pickL (bestTo c p l (leastTo c p l (l.length + 1) N) N) l
theorem best_pos {c : Int} {p : Nat} {l : List Int} {s N : Nat} (hs : l.length < s) (hN : 0 < N) : bestTo c p l (leastTo c p l s N) N ≠ [] := by
  obtain ⟨a, ha, h⟩ := least_at c p l s hs N hN
  exact List.ne_nil_of_mem (mem_best.2 ⟨⟨by omega, by omega⟩, h⟩)
theorem pick_mem {best l : List Int} (h : best ≠ []) : pickL best l ∈ best := by
  unfold pickL
  split
  · rename_i a h1; exact List.mem_of_find?_eq_some h1
  · cases best with
    | nil => exact absurd rfl h
    | cons x t => simp
theorem next_best {c : Int} {p N : Nat} {l : List Int} (hN : 0 < N) : (0 ≤ nextL c p N l ∧ nextL c p N l < N) ∧ ∀ a : Int, 0 ≤ a ∧ a < N → worstL c p l (nextL c p N l) ≤ worstL c p l a := by
  have h := mem_best.1 (pick_mem (l := l) (best_pos (c := c) (p := p) (l := l) (s := l.length + 1) (by omega) hN))
  refine ⟨h.1, fun a ha => ?_⟩
  have h2 := least_le c p l (l.length + 1) N a.toNat (by omega)
  have e : ((a.toNat : Nat) : Int) = a := by omega
  rw [e] at h2
  have h3 : worstL c p l (nextL c p N l) = leastTo c p l (l.length + 1) N := h.2
  omega
end Go.Proofs.Ytdclmhmdkhpekaa
