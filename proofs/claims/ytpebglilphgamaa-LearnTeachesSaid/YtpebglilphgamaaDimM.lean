/- The plain law of the dimension and of mistakes: a part has no more, the careful learner makes as many as the dimension, the halving one no more than bits. No condition. -/
import Derived.Test.YtpebglilphgamaaDimL
namespace Go.Proofs.Ytpebglilphgamaa

theorem split_sub {xs ys : List Int} (h : ys.Sublist xs) (x : Int) (y : Bool) : (split ys x y).Sublist (split xs x y) := h.filter _
theorem split_self (xs : List Int) (x : Int) (y : Bool) : (split xs x y).Sublist xs := List.filter_sublist
theorem sub_ne {xs ys : List Int} (h : ys.Sublist xs) (hy : ys ≠ []) : xs ≠ [] := by
  rintro rfl
  exact hy (List.sublist_nil.1 h)
theorem ne_len {xs : List Int} (h : xs ≠ []) : 0 < xs.length := by
  cases xs with
  | nil => exact absurd rfl h
  | cons _ _ => simp
theorem dim2L_or (p : Nat) (xs : List Int) (x : Int) : dim2L p xs x = -1 ∨ (split xs x false ≠ [] ∧ split xs x true ≠ [] ∧ dim2L p xs x = min (dimL p (split xs x false)) (dimL p (split xs x true))) := by
  unfold dim2L dim2W
  split
  · exact .inl rfl
  · rename_i h
    exact .inr ⟨fun e => h (.inl e), fun e => h (.inr e), rfl⟩
theorem dim2L_both {p : Nat} {xs : List Int} {x : Int} (h0 : split xs x false ≠ []) (h1 : split xs x true ≠ []) : dim2L p xs x = min (dimL p (split xs x false)) (dimL p (split xs x true)) := by
  unfold dim2L dim2W
  rw [if_neg]
  rintro (h | h)
  · exact h0 h
  · exact h1 h
/-- A part has no greater dimension. -/
theorem dimL_mono (p : Nat) : ∀ m, ∀ xs ys : List Int, xs.length = m → ys.Sublist xs → dimL p ys ≤ dimL p xs := by
  intro m
  induction m using Nat.strongRecOn with
  | _ m ih =>
    intro xs ys hm hs
    by_cases hy : ys = []
    · subst hy; rw [dimL_nil]; exact dimL_ge p xs
    · rw [dimL_eq hy, dimL_eq (sub_ne hs hy)]
      apply best_le (best_nonneg _ _)
      intro x hx
      have hb := best_ge (g := fun x => 1 + dim2L p xs x) p x hx
      have h0 := best_nonneg (fun x => 1 + dim2L p xs x) p
      rcases dim2L_or p ys x with e | ⟨a, b, e⟩
      · rw [e]; omega
      · have a' := sub_ne (split_sub hs x false) a
        have b' := sub_ne (split_sub hs x true) b
        have la := ne_len a'; have lb := ne_len b'
        have hl := split_len xs x
        have i0 := ih _ (by omega) _ _ rfl (split_sub hs x false)
        have i1 := ih _ (by omega) _ _ rfl (split_sub hs x true)
        rw [dim2L_both a' b'] at hb
        rw [e]
        omega
theorem dimL_sub {p : Nat} {xs ys : List Int} (h : ys.Sublist xs) : dimL p ys ≤ dimL p xs := dimL_mono p _ xs ys rfl h
theorem dimL_split (p : Nat) (xs : List Int) (x : Int) (y : Bool) : dimL p (split xs x y) ≤ dimL p xs := dimL_sub (split_self xs x y)
/-- Both parts at a point have at least the dimension d: the whole has more. -/
theorem dimL_up {p : Nat} {xs : List Int} {x : Nat} (hx : x < p) (h0 : split xs x false ≠ []) (h1 : split xs x true ≠ []) : 1 + min (dimL p (split xs x false)) (dimL p (split xs x true)) ≤ dimL p xs := by
  have hb := best_ge (g := fun x => 1 + dim2L p xs x) p x hx
  rw [dim2L_both h0 h1] at hb
  rw [dimL_eq (sub_ne (split_self xs x false) h0)]
  exact hb
/-- A point at which both parts are great enough. -/
theorem dimL_at {p : Nat} {xs : List Int} {d : Nat} (h : dimL p xs = (d : Int) + 1) : ∃ x : Nat, x < p ∧ (d : Int) ≤ dim2L p xs x := by
  have hx : xs ≠ [] := by rintro rfl; rw [dimL_nil] at h; omega
  rw [dimL_eq hx] at h
  rcases best_at (g := fun x => 1 + dim2L p xs x) p with e | ⟨x, hx, e⟩
  · omega
  · exact ⟨x, hx, by omega⟩
theorem two_pow_dim (p : Nat) : ∀ m, ∀ xs : List Int, xs.length = m → xs ≠ [] → 2 ^ (dimL p xs).toNat ≤ m := by
  intro m
  induction m using Nat.strongRecOn with
  | _ m ih =>
    intro xs hm hx
    have h0 := dimL_nonneg (p := p) hx
    have hl := ne_len hx
    rcases Nat.eq_zero_or_pos (dimL p xs).toNat with e | e
    · rw [e]; omega
    · obtain ⟨x, hxp, hd⟩ := dimL_at (p := p) (xs := xs) (d := (dimL p xs).toNat - 1) (by omega)
      rcases dim2L_or p xs x with e2 | ⟨a, b, e2⟩
      · omega
      · have la := ne_len a; have lb := ne_len b
        have hs := split_len xs x
        have i0 := ih _ (by omega) _ rfl a
        have i1 := ih _ (by omega) _ rfl b
        have j0 := Nat.pow_le_pow_right (show 0 < 2 by decide) (show (dimL p xs).toNat - 1 ≤ (dimL p (split xs x false)).toNat by omega)
        have j1 := Nat.pow_le_pow_right (show 0 < 2 by decide) (show (dimL p xs).toNat - 1 ≤ (dimL p (split xs x true)).toNat by omega)
        have e3 : (dimL p xs).toNat = (dimL p xs).toNat - 1 + 1 := by omega
        rw [e3, Nat.pow_succ]
        omega

/-- What the careful learner says, and the halving one. -/
def careful (p : Nat) (xs : List Int) (x : Int) : Bool := decide (dimL p (split xs x false) < dimL p (split xs x true))
def halving (xs : List Int) (x : Int) : Bool := decide (xs.length < 2 * (split xs x true).length)
theorem careful_falls {p : Nat} {xs : List Int} {x : Nat} (hx : x < p) {y : Bool} (hy : split xs x y ≠ []) (hw : careful p xs x ≠ y) : dimL p (split xs x y) + 1 ≤ dimL p xs := by
  have hn := dimL_nonneg (p := p) hy
  unfold careful at hw
  cases y with
  | false =>
    have hlt : dimL p (split xs x false) < dimL p (split xs x true) := by
      simpa using hw
    have h1 : split xs x true ≠ [] := by
      intro e; rw [e, dimL_nil] at hlt; omega
    have := dimL_up hx hy h1
    omega
  | true =>
    have hlt : dimL p (split xs x true) ≤ dimL p (split xs x false) := by
      simpa using hw
    have h0 : split xs x false ≠ [] := by
      intro e; rw [e, dimL_nil] at hlt; omega
    have := dimL_up hx h0 hy
    omega

/-- The greatest number of mistakes. -/
def stepW (say : List Int → Int → Bool) (D : List Int → Int) (xs : List Int) (x : Int) : Int :=
  if split xs x false = [] ∨ split xs x true = [] then 0
  else max (D (split xs x false) + (if say xs x then 1 else 0)) (D (split xs x true) + (if say xs x then 0 else 1))
def worstF (say : List Int → Int → Bool) : Nat → Nat → List Int → Int
  | 0, _, _ => 0
  | k+1, p, xs => best (fun x => stepW say (worstF say k p) xs x) p
def worstL (say : List Int → Int → Bool) (p : Nat) (xs : List Int) : Int := worstF say xs.length p xs
theorem stepW_congr {say : List Int → Int → Bool} {D E : List Int → Int} {xs : List Int} {x : Int} (h : ∀ ys, ys.length < xs.length → D ys = E ys) : stepW say D xs x = stepW say E xs x := by
  unfold stepW
  split
  · rfl
  · rename_i hne
    have hs := split_len xs x
    have h1 : (split xs x false).length ≠ 0 := fun e => hne (.inl (List.eq_nil_of_length_eq_zero e))
    have h2 : (split xs x true).length ≠ 0 := fun e => hne (.inr (List.eq_nil_of_length_eq_zero e))
    rw [h _ (by omega), h _ (by omega)]
theorem split_nil (x : Int) (y : Bool) : split [] x y = [] := rfl
theorem worstF_len (say : List Int → Int → Bool) (p : Nat) : ∀ k xs, xs.length ≤ k → worstF say k p xs = worstL say p xs := by
  intro k
  induction k using Nat.strongRecOn with
  | _ k ih =>
    intro xs hk
    cases k with
    | zero =>
      have : xs = [] := List.eq_nil_of_length_eq_zero (by omega)
      subst this; rfl
    | succ k =>
      unfold worstL
      cases hl : xs.length with
      | zero =>
        have : xs = [] := List.eq_nil_of_length_eq_zero hl
        subst this
        simp only [worstF]
        have : best (fun x => stepW say (worstF say k p) [] x) p = best (fun _ => 0) p := best_congr _ fun x _ => by simp [stepW, split_nil]
        rw [this]
        have h1 := best_le (g := fun _ => 0) (m := 0) (Int.le_refl _) p fun _ _ => Int.le_refl _
        have h2 := best_nonneg (fun _ => 0) p
        omega
      | succ m =>
        simp only [worstF]
        apply best_congr
        intro x _
        apply stepW_congr
        intro ys hy
        by_cases e : k = m
        · subst e; rfl
        · rw [ih k (by omega) ys (by omega), ih m (by omega) ys (by omega)]
theorem worstL_eq (say : List Int → Int → Bool) (p : Nat) (xs : List Int) : worstL say p xs = best (fun x => stepW say (worstL say p) xs x) p := by
  have h : worstF say (xs.length + 1) p xs = worstL say p xs := worstF_len say p _ xs (by omega)
  rw [← h]
  simp only [worstF]
  apply best_congr
  intro x _
  exact stepW_congr fun ys hy => worstF_len say p _ ys (by omega)
theorem worstL_nonneg (say : List Int → Int → Bool) (p : Nat) (xs : List Int) : 0 ≤ worstL say p xs := by rw [worstL_eq]; exact best_nonneg _ _
theorem worstL_le (say : List Int → Int → Bool) (p : Nat) : ∀ m, ∀ xs : List Int, xs.length = m → worstL say p xs ≤ m := by
  intro m
  induction m using Nat.strongRecOn with
  | _ m ih =>
    intro xs hm
    rw [worstL_eq]
    apply best_le (by omega)
    intro x _
    unfold stepW
    split
    · omega
    · rename_i hne
      have hs := split_len xs x
      have h1 : (split xs x false).length ≠ 0 := fun e => hne (.inl (List.eq_nil_of_length_eq_zero e))
      have h2 : (split xs x true).length ≠ 0 := fun e => hne (.inr (List.eq_nil_of_length_eq_zero e))
      have i0 := ih _ (by omega) (split xs x false) rfl
      have i1 := ih _ (by omega) (split xs x true) rfl
      split <;> omega
/-- No learner makes fewer mistakes than the dimension. -/
theorem dim_le_worst (say : List Int → Int → Bool) (p : Nat) : ∀ m, ∀ xs : List Int, xs.length = m → dimL p xs ≤ worstL say p xs := by
  intro m
  induction m using Nat.strongRecOn with
  | _ m ih =>
    intro xs hm
    have hw := worstL_nonneg say p xs
    by_cases h0 : dimL p xs ≤ 0
    · omega
    · obtain ⟨x, hxp, hd⟩ := dimL_at (p := p) (xs := xs) (d := (dimL p xs).toNat - 1) (by omega)
      rcases dim2L_or p xs x with e2 | ⟨a, b, e2⟩
      · omega
      · have la := ne_len a; have lb := ne_len b
        have hs := split_len xs x
        have i0 := ih _ (by omega) (split xs x false) rfl
        have i1 := ih _ (by omega) (split xs x true) rfl
        have hb := best_ge (g := fun x => stepW say (worstL say p) xs x) p x hxp
        rw [← worstL_eq] at hb
        have hst : stepW say (worstL say p) xs x = max (worstL say p (split xs x false) + (if say xs x then 1 else 0)) (worstL say p (split xs x true) + (if say xs x then 0 else 1)) := by
          unfold stepW
          exact if_neg (fun h => h.elim a b)
        rw [hst] at hb
        split at hb <;> omega
/-- The careful learner makes no more. -/
theorem careful_le (p : Nat) : ∀ m, ∀ xs : List Int, xs.length = m → xs ≠ [] → worstL (careful p) p xs ≤ dimL p xs := by
  intro m
  induction m using Nat.strongRecOn with
  | _ m ih =>
    intro xs hm hx
    rw [worstL_eq]
    apply best_le (dimL_nonneg hx)
    intro x hxp
    unfold stepW
    split
    · exact dimL_nonneg hx
    · rename_i hne
      have a : split xs x false ≠ [] := fun e => hne (.inl e)
      have b : split xs x true ≠ [] := fun e => hne (.inr e)
      have la := ne_len a; have lb := ne_len b
      have hs := split_len xs x
      have i0 := ih _ (by omega) (split xs x false) rfl a
      have i1 := ih _ (by omega) (split xs x true) rfl b
      have m0 := dimL_split p xs x false
      have m1 := dimL_split p xs x true
      cases hc : careful p xs x with
      | false =>
        have := careful_falls hxp b (by rw [hc]; decide)
        simp only [Bool.false_eq_true, if_false]
        omega
      | true =>
        have := careful_falls hxp a (by rw [hc]; decide)
        simp only [if_true]
        omega
theorem careful_dim {p : Nat} {xs : List Int} (hx : xs ≠ []) : worstL (careful p) p xs = dimL p xs := by
  have := careful_le p _ xs rfl hx
  have := dim_le_worst (careful p) p _ xs rfl
  omega
theorem halving_pow (p : Nat) : ∀ m, ∀ xs : List Int, xs.length = m → xs ≠ [] → 2 ^ (worstL halving p xs).toNat ≤ m := by
  intro m
  induction m using Nat.strongRecOn with
  | _ m ih =>
    intro xs hm hx
    have hl := ne_len hx
    rw [worstL_eq]
    rcases best_at (g := fun x => stepW halving (worstL halving p) xs x) p with e | ⟨x, hxp, e⟩
    · rw [e]; show 2 ^ 0 ≤ m; omega
    · rw [← e]
      unfold stepW
      split
      · show 2 ^ 0 ≤ m; omega
      · rename_i hne
        have a : split xs x false ≠ [] := fun e => hne (.inl e)
        have b : split xs x true ≠ [] := fun e => hne (.inr e)
        have la := ne_len a; have lb := ne_len b
        have hs := split_len xs x
        have i0 := ih _ (by omega) (split xs x false) rfl a
        have i1 := ih _ (by omega) (split xs x true) rfl b
        have n0 := worstL_nonneg halving p (split xs x false)
        have n1 := worstL_nonneg halving p (split xs x true)
        have p0 : ∀ (u : Int), 0 ≤ u → 2 ^ (u + 1).toNat = 2 * 2 ^ u.toNat := by
          intro u hu
          have : (u + 1).toNat = u.toNat + 1 := by omega
          rw [this, Nat.pow_succ]; omega
        cases hc : halving xs x with
        | false =>
          have hh : ¬ xs.length < 2 * (split xs x true).length := by simpa [halving] using hc
          simp only [Bool.false_eq_true, if_false, Int.add_zero]
          rcases Int.le_total (worstL halving p (split xs x false)) (worstL halving p (split xs x true) + 1) with h | h
          · rw [Int.max_eq_right h, p0 _ n1]; omega
          · rw [Int.max_eq_left h]; omega
        | true =>
          have hh : xs.length < 2 * (split xs x true).length := by simpa [halving] using hc
          simp only [if_true, Int.add_zero]
          rcases Int.le_total (worstL halving p (split xs x false) + 1) (worstL halving p (split xs x true)) with h | h
          · rw [Int.max_eq_right h]; omega
          · rw [Int.max_eq_left h, p0 _ n0]; omega
end Go.Proofs.Ytpebglilphgamaa
