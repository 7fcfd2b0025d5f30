/- The plain law of the dimension: its definition on lists, its bounds, and the lists that sets of indices stand for. No condition. -/
import Derived.Test.YtpebglilphgamaaSch
namespace Go.Proofs.Ytpebglilphgamaa

def split (xs : List Int) (x : Int) (y : Bool) : List Int := xs.filter fun c => bitB c x == y
/-- The elements at the indices of which f is true. -/
def sel (n : Nat) (f : Nat → Bool) (xs : List Int) : List Int := ((List.range n).filter f).map (at0 xs)
theorem sel_congr {n : Nat} {f g : Nat → Bool} (xs : List Int) (h : ∀ i, i < n → f i = g i) : sel n f xs = sel n g xs := by
  unfold sel
  congr 1
  exact List.filter_congr fun i hi => h i (by simpa using hi)
theorem sel_split (n : Nat) (f : Nat → Bool) (xs : List Int) (x : Int) (y : Bool) : split (sel n f xs) x y = sel n (fun i => f i && (bitB (at0 xs i) x == y)) xs := by
  unfold sel split
  rw [List.filter_map, List.filter_filter]
  congr 1
  exact List.filter_congr fun i _ => by simp [Bool.and_comm]
theorem sel_all (xs : List Int) : sel xs.length (fun _ => true) xs = xs := by
  unfold sel
  apply List.ext_getElem?
  intro i
  rw [List.filter_eq_self.2 (by simp), List.getElem?_map]
  by_cases h : i < xs.length
  · simp [h, at0, List.getD]
  · simp [h]
theorem sel_nil {n : Nat} {f : Nat → Bool} {xs : List Int} : sel n f xs = [] ↔ mk n f = 0 := by
  rw [mk_zero_iff]
  unfold sel
  simp [List.filter_eq_nil_iff]
theorem sel_succ (n : Nat) (f : Nat → Bool) (xs : List Int) : sel (n + 1) f xs = sel n f xs ++ (if f n then [at0 xs n] else []) := by
  unfold sel
  rw [List.range_succ, List.filter_append, List.map_append]
  congr 1
  by_cases h : f n <;> simp [h]
theorem split_len (xs : List Int) (x : Int) : (split xs x false).length + (split xs x true).length = xs.length := by
  unfold split
  induction xs with
  | nil => rfl
  | cons c xs ih => by_cases h : bitB c x = true <;> simp [h] at * <;> omega
theorem sel_mem {n : Nat} {f : Nat → Bool} {xs : List Int} {c : Int} (h : c ∈ sel n f xs) : ∃ i, i < n ∧ f i = true ∧ at0 xs i = c := by
  unfold sel at h
  simp at h
  obtain ⟨i, ⟨h1, h2⟩, h3⟩ := h
  exact ⟨i, h1, h2, h3⟩

/-- The greatest of the first k, 0 at least. -/
def best (g : Nat → Int) : Nat → Int
  | 0 => 0
  | k+1 => max (best g k) (g k)
theorem best_nonneg (g : Nat → Int) : ∀ k, 0 ≤ best g k := by
  intro k
  induction k with
  | zero => exact Int.le_refl _
  | succ k ih => simp only [best]; omega
theorem best_le {g : Nat → Int} {m : Int} (h0 : 0 ≤ m) : ∀ k, (∀ x, x < k → g x ≤ m) → best g k ≤ m := by
  intro k
  induction k with
  | zero => intro _; exact h0
  | succ k ih =>
    intro h
    have := ih fun x hx => h x (by omega)
    have := h k (by omega)
    simp only [best]; omega
theorem best_ge {g : Nat → Int} : ∀ k x, x < k → g x ≤ best g k := by
  intro k
  induction k with
  | zero => intro x h; omega
  | succ k ih =>
    intro x hx
    simp only [best]
    by_cases e : x = k
    · subst e; omega
    · have := ih x (by omega); omega
theorem best_congr {g h : Nat → Int} : ∀ k, (∀ x, x < k → g x = h x) → best g k = best h k := by
  intro k
  induction k with
  | zero => intro _; rfl
  | succ k ih => intro e; simp only [best]; rw [ih fun x hx => e x (by omega), e k (by omega)]
theorem best_at {g : Nat → Int} : ∀ k, best g k = 0 ∨ ∃ x, x < k ∧ g x = best g k := by
  intro k
  induction k with
  | zero => exact .inl rfl
  | succ k ih =>
    simp only [best]
    rcases Int.le_total (best g k) (g k) with h | h
    · exact .inr ⟨k, by omega, by omega⟩
    · rcases ih with e | ⟨x, hx, e⟩
      · left; omega
      · exact .inr ⟨x, by omega, by omega⟩

/-- The lesser dimension of both parts at a point, given the dimension. -/
def dim2W (D : List Int → Int) (xs : List Int) (x : Int) : Int :=
  if split xs x false = [] ∨ split xs x true = [] then -1 else min (D (split xs x false)) (D (split xs x true))
def dimF : Nat → Nat → List Int → Int
  | 0, _, xs => if xs = [] then -1 else 0
  | k+1, p, xs => if xs = [] then -1 else best (fun x => 1 + dim2W (dimF k p) xs x) p
def dimL (p : Nat) (xs : List Int) : Int := dimF xs.length p xs
def dim2L (p : Nat) (xs : List Int) (x : Int) : Int := dim2W (dimL p) xs x
theorem dim2W_congr {D E : List Int → Int} {xs : List Int} {x : Int} (h : ∀ ys, ys.length < xs.length → D ys = E ys) : dim2W D xs x = dim2W E xs x := by
  unfold dim2W
  split
  · rfl
  · rename_i hne
    have hs := split_len xs x
    have h1 : (split xs x false).length ≠ 0 := fun e => hne (.inl (List.eq_nil_of_length_eq_zero e))
    have h2 : (split xs x true).length ≠ 0 := fun e => hne (.inr (List.eq_nil_of_length_eq_zero e))
    rw [h _ (by omega), h _ (by omega)]
theorem dimF_len (p : Nat) : ∀ k xs, xs.length ≤ k → dimF k p xs = dimL p xs := by
  intro k
  induction k using Nat.strongRecOn with
  | _ k ih =>
    intro xs hk
    unfold dimL
    cases k with
    | zero => rw [show xs.length = 0 by omega]
    | succ k =>
      cases hl : xs.length with
      | zero =>
        have : xs = [] := List.eq_nil_of_length_eq_zero hl
        subst this; simp [dimF]
      | succ m =>
        simp only [dimF]
        split
        · rfl
        · apply best_congr
          intro x _
          congr 1
          apply dim2W_congr
          intro ys hy
          by_cases e : m = k
          · subst e; rfl
          · rw [ih k (by omega) ys (by omega), ih m (by omega) ys (by omega)]
theorem dimL_nil (p : Nat) : dimL p [] = -1 := by simp [dimL, dimF]
theorem dimL_eq {p : Nat} {xs : List Int} (h : xs ≠ []) : dimL p xs = best (fun x => 1 + dim2L p xs x) p := by
  cases hl : xs.length with
  | zero => exact absurd (List.eq_nil_of_length_eq_zero hl) h
  | succ m =>
    rw [dimL, hl, dimF, if_neg h]
    apply best_congr
    intro x _
    congr 1
    exact dim2W_congr fun ys hy => dimF_len p m ys (by omega)
theorem dimL_nonneg {p : Nat} {xs : List Int} (h : xs ≠ []) : 0 ≤ dimL p xs := by rw [dimL_eq h]; exact best_nonneg _ _
theorem dimL_ge (p : Nat) (xs : List Int) : -1 ≤ dimL p xs := by
  by_cases h : xs = []
  · subst h; rw [dimL_nil]; omega
  · have := dimL_nonneg (p := p) h; omega
theorem dimL_le (p : Nat) : ∀ m, ∀ xs : List Int, xs.length = m → dimL p xs + 1 ≤ m := by
  intro m
  induction m using Nat.strongRecOn with
  | _ m ih =>
    intro xs hl
    by_cases h : xs = []
    · subst h; rw [dimL_nil]; omega
    · have h0 : 0 < xs.length := by
        cases xs with
        | nil => exact absurd rfl h
        | cons _ _ => simp
      rw [dimL_eq h]
      have := best_le (g := fun x => 1 + dim2L p xs x) (m := (m : Int) - 1) (by omega) p fun x _ => by
        unfold dim2L dim2W
        split
        · omega
        · rename_i hne
          have hs := split_len xs x
          have h1 : (split xs x false).length ≠ 0 := fun e => hne (.inl (List.eq_nil_of_length_eq_zero e))
          have h2 : (split xs x true).length ≠ 0 := fun e => hne (.inr (List.eq_nil_of_length_eq_zero e))
          have := ih _ (show (split xs x false).length < m by omega) _ rfl
          omega
      omega
theorem dim2L_bd (p : Nat) (xs : List Int) (x : Int) : -1 ≤ dim2L p xs x ∧ dim2L p xs x ≤ xs.length := by
  unfold dim2L dim2W
  split
  · omega
  · have h1 := dimL_ge p (split xs x false)
    have h2 := dimL_ge p (split xs x true)
    have h3 := dimL_le p _ _ (rfl : (split xs x false).length = _)
    have hs := split_len xs x
    omega
end Go.Proofs.Ytpebglilphgamaa
