/- Plain laws of the parts of those that are left by the marks of one guess: one behind the other and sorted they are all that were left. Conditions: the game's numbers are small. -/
import Derived.Test.YtdclmhmdkhpekaaPickM
import Derived.Test.YtdclmhmdkhpekaaRefLeft
namespace Go.Proofs.Ytdclmhmdkhpekaa

theorem rising_same : ∀ (xs ys : List Int), xs.Pairwise (· < ·) → ys.Pairwise (· < ·) → (∀ d, d ∈ xs ↔ d ∈ ys) → xs = ys := by
  intro xs
  induction xs with
  | nil =>
    intro ys _ _ h
    cases ys with
    | nil => rfl
    | cons d ys => exact absurd ((h d).2 (by simp)) (by simp)
  | cons c xs ih =>
    intro ys hx hy h
    cases ys with
    | nil => exact absurd ((h c).1 (by simp)) (by simp)
    | cons d ys =>
      obtain ⟨x1, x2⟩ := List.pairwise_cons.1 hx
      obtain ⟨y1, y2⟩ := List.pairwise_cons.1 hy
      have e : c = d := by
        have a := (h c).1 (by simp)
        have b := (h d).2 (by simp)
        rcases List.mem_cons.1 a with a | a
        · exact a
        · rcases List.mem_cons.1 b with b | b
          · exact b.symm
          · have := y1 c a; have := x1 d b; omega
      subst e
      congr 1
      apply ih ys x2 y2
      intro u
      constructor
      · intro hu
        rcases List.mem_cons.1 ((h u).1 (by simp [hu])) with a | a
        · have := x1 u hu; omega
        · exact a
      · intro hu
        rcases List.mem_cons.1 ((h u).2 (by simp [hu])) with a | a
        · have := y1 u hu; omega
        · exact a
def sortI (xs : List Int) : List Int := xs.mergeSort fun x y => decide (x ≤ y)
theorem sortI_perm (xs : List Int) : (sortI xs).Perm xs := List.mergeSort_perm xs _
theorem sortI_le (xs : List Int) : (sortI xs).Pairwise (· ≤ ·) := by
  have h := List.pairwise_mergeSort (le := fun x y : Int => decide (x ≤ y)) (fun a b c h1 h2 => by simp at h1 h2 ⊢; omega) (fun a b => by simp; omega) xs
  exact h.imp fun h => by simpa using h
theorem sortI_lt {xs : List Int} (h : xs.Nodup) : (sortI xs).Pairwise (· < ·) := by
  have h1 : (sortI xs).Nodup := (sortI_perm xs).nodup_iff.2 h
  exact ((sortI_le xs).and h1).imp fun h => by omega

/-- The marks with number k, in the order of two loops. -/
def mkAt (p k : Nat) : Int × Int := (((k / (p + 1) : Nat) : Int), ((k % (p + 1) : Nat) : Int))
theorem mkAt_two {p b v : Nat} (h : v ≤ p) : mkAt p (b * (p + 1) + v) = ((b : Int), (v : Int)) := by
  unfold mkAt
  have h1 : (b * (p + 1) + v) / (p + 1) = b := by
    rw [Nat.mul_comm, Nat.mul_add_div (by omega), Nat.div_eq_of_lt (by omega), Nat.add_zero]
  have h2 : (b * (p + 1) + v) % (p + 1) = v := by
    rw [Nat.mul_comm, Nat.mul_add_mod, Nat.mod_eq_of_lt (by omega)]
  rw [h1, h2]
/-- The parts of the first k marks, one behind the other; the greatest of them. -/
def catL (c : Int) (p : Nat) (l : List Int) (a : Int) : Nat → List Int
  | 0 => []
  | k+1 => catL c p l a k ++ partL c p l a (mkAt p k)
def mostL (c : Int) (p : Nat) (l : List Int) (a : Int) : Nat → Nat
  | 0 => 0
  | k+1 => max (mostL c p l a k) (partL c p l a (mkAt p k)).length
theorem cat_len (c : Int) (p : Nat) (l : List Int) (a : Int) (k : Nat) : (catL c p l a k).length ≤ k * l.length := by
  induction k with
  | zero => simp [catL]
  | succ k ih =>
    have : (partL c p l a (mkAt p k)).length ≤ l.length := List.length_filter_le _ _
    simp only [catL, List.length_append]
    rw [Nat.add_mul]
    omega
theorem mk_num {p : Nat} {m : Int × Int} (h : (0 ≤ m.1 ∧ m.1 ≤ p) ∧ 0 ≤ m.2 ∧ m.2 ≤ p) : ∃ k, k < (p + 1) * (p + 1) ∧ mkAt p k = m := by
  obtain ⟨b, v⟩ := m
  obtain ⟨b, rfl⟩ := Int.eq_ofNat_of_zero_le h.1.1
  obtain ⟨v, rfl⟩ := Int.eq_ofNat_of_zero_le h.2.1
  have h1 := h.1.2; have h2 := h.2.2
  simp only at h1 h2
  refine ⟨b * (p + 1) + v, ?_, mkAt_two (by omega)⟩
  have : b * (p + 1) ≤ p * (p + 1) := Nat.mul_le_mul_right _ (by omega)
  rw [Nat.add_mul]
  omega
theorem mkAt_inj {p k k' : Nat} (h : mkAt p k = mkAt p k') : k = k' := by
  unfold mkAt at h
  have h1 := congrArg Prod.fst h
  have h2 := congrArg Prod.snd h
  simp only at h1 h2
  have e1 : k / (p + 1) = k' / (p + 1) := by omega
  have e2 : k % (p + 1) = k' % (p + 1) := by omega
  have := Nat.div_add_mod k (p + 1)
  have := Nat.div_add_mod k' (p + 1)
  rw [e1, e2] at *
  omega
theorem cat_mem {c : Int} {p : Nat} {l : List Int} {a x : Int} {k : Nat} : x ∈ catL c p l a k ↔ x ∈ l ∧ ∃ i, i < k ∧ mkAt p i = mrk c p a x := by
  induction k with
  | zero => simp [catL]
  | succ k ih =>
    simp only [catL, List.mem_append, ih, mem_part]
    constructor
    · rintro (⟨h, i, hi, e⟩ | ⟨h, e⟩)
      · exact ⟨h, i, by omega, e⟩
      · exact ⟨h, k, by omega, e.symm⟩
    · rintro ⟨h, i, hi, e⟩
      by_cases hk : i = k
      · subst hk; exact .inr ⟨h, e.symm⟩
      · exact .inl ⟨h, i, by omega, e⟩
theorem cat_nodup {c : Int} {p : Nat} {l : List Int} (hl : l.Nodup) (a : Int) : ∀ k, (catL c p l a k).Nodup := by
  intro k
  induction k with
  | zero => simp [catL]
  | succ k ih =>
    simp only [catL]
    rw [List.nodup_append]
    refine ⟨ih, hl.sublist (List.filter_sublist), fun x hx y hy e => ?_⟩
    subst e
    obtain ⟨_, i, hi, h⟩ := cat_mem.1 hx
    have := (mem_part.1 hy).2
    rw [this] at h
    have := mkAt_inj h
    omega
theorem mrk_bd {c a b : Int} {p : Nat} (hp : p ≤ 4) (hc1 : 1 ≤ c) (hc2 : c ≤ 6) : (0 ≤ (mrk c p a b).1 ∧ (mrk c p a b).1 ≤ p) ∧ 0 ≤ (mrk c p a b).2 ∧ (mrk c p a b).2 ≤ p := by
  have h := marks_bd (c := c) (a := a) (b := b) (p := p) hp hc1 hc2
  unfold mrk
  simp only
  omega
theorem cat_all {c : Int} {p N : Nat} (hp : p ≤ 4) (hc1 : 1 ≤ c) (hc2 : c ≤ 6) {l : List Int} (hr : Rise N l) (a : Int) : sortI (catL c p l a ((p + 1) * (p + 1))) = l := by
  have hn : l.Nodup := hr.lt.imp fun h => by omega
  refine rising_same _ _ (sortI_lt (cat_nodup hn a _)) hr.lt fun d => ?_
  rw [(sortI_perm _).mem_iff, cat_mem]
  exact ⟨fun h => h.1, fun h => ⟨h, mk_num (mrk_bd hp hc1 hc2)⟩⟩
theorem most_ge (c : Int) (p : Nat) (l : List Int) (a : Int) : ∀ k i, i < k → (partL c p l a (mkAt p i)).length ≤ mostL c p l a k := by
  intro k
  induction k with
  | zero => intro i h; omega
  | succ k ih =>
    intro i h
    simp only [mostL]
    by_cases e : i = k
    · subst e; omega
    · have := ih i (by omega); omega
theorem most_ex (c : Int) (p : Nat) (l : List Int) (a : Int) : ∀ k, mostL c p l a k = 0 ∨ ∃ i, i < k ∧ (partL c p l a (mkAt p i)).length = mostL c p l a k := by
  intro k
  induction k with
  | zero => left; rfl
  | succ k ih =>
    simp only [mostL]
    by_cases e : mostL c p l a k ≤ (partL c p l a (mkAt p k)).length
    · right; exact ⟨k, by omega, by omega⟩
    · rcases ih with h | ⟨i, hi, h⟩
      · omega
      · right; exact ⟨i, by omega, by omega⟩
theorem most_all {c : Int} {p : Nat} (hp : p ≤ 4) (hc1 : 1 ≤ c) (hc2 : c ≤ 6) (l : List Int) (a : Int) : mostL c p l a ((p + 1) * (p + 1)) = worstL c p l a := by
  refine IsWorst.one ⟨fun m => ?_, ?_⟩ (worst_is c p l a)
  · cases hm : partL c p l a m with
    | nil => simp
    | cons x t =>
      have hx : x ∈ partL c p l a m := by rw [hm]; simp
      obtain ⟨_, rfl⟩ := mem_part.1 hx
      obtain ⟨k, hk, e⟩ := mk_num (mrk_bd (a := a) (b := x) hp hc1 hc2)
      rw [← hm, ← e]
      exact most_ge c p l a _ k hk
  · rcases most_ex c p l a ((p + 1) * (p + 1)) with h | ⟨i, _, h⟩
    · exact .inl h
    · exact .inr ⟨_, h⟩
theorem left_more (c : Int) (p N : Nat) (hs : List Tri) (a b v : Int) : leftL c p N (hs ++ [(a, b, v)]) = partL c p (leftL c p N hs) a (b, v) := by
  unfold leftL partL
  rw [List.filter_filter]
  apply List.filter_congr
  intro x _
  unfold fits mrk
  rw [List.all_append]
  simp only [List.all_cons, List.all_nil, Bool.and_true]
  rw [Bool.and_comm]
  congr 1
end Go.Proofs.Ytdclmhmdkhpekaa
