/- The plain law of questions, teaching and peeling. Conditions: fewer than six points, concepts within these. -/
import Derived.Test.YtpebglilphgamaaKeyM
namespace Go.Proofs.Ytpebglilphgamaa

/-- The least of the first k, b at most. -/
def least (g : Nat → Int) (b : Int) : Nat → Int
  | 0 => b
  | k+1 => min (least g b k) (g k)
theorem least_le (g : Nat → Int) (b : Int) : ∀ k, least g b k ≤ b := by
  intro k
  induction k with
  | zero => exact Int.le_refl _
  | succ k ih => simp only [least]; omega
theorem least_ge {g : Nat → Int} {b m : Int} (h0 : m ≤ b) : ∀ k, (∀ x, x < k → m ≤ g x) → m ≤ least g b k := by
  intro k
  induction k with
  | zero => intro _; exact h0
  | succ k ih =>
    intro h
    have := ih fun x hx => h x (by omega)
    have := h k (by omega)
    simp only [least]; omega
theorem least_at_le {g : Nat → Int} {b : Int} : ∀ k x, x < k → least g b k ≤ g x := by
  intro k
  induction k with
  | zero => intro x h; omega
  | succ k ih =>
    intro x hx
    simp only [least]
    by_cases e : x = k
    · subst e; omega
    · have := ih x (by omega); omega
theorem least_congr {g h : Nat → Int} {b : Int} : ∀ k, (∀ x, x < k → g x = h x) → least g b k = least h b k := by
  intro k
  induction k with
  | zero => intro _; rfl
  | succ k ih => intro e; simp only [least]; rw [ih fun x hx => e x (by omega), e k (by omega)]
theorem least_at {g : Nat → Int} {b : Int} : ∀ k, least g b k = b ∨ ∃ x, x < k ∧ g x = least g b k := by
  intro k
  induction k with
  | zero => exact .inl rfl
  | succ k ih =>
    simp only [least]
    rcases Int.le_total (g k) (least g b k) with h | h
    · exact .inr ⟨k, by omega, by omega⟩
    · rcases ih with e | ⟨x, hx, e⟩
      · left; omega
      · exact .inr ⟨x, by omega, by omega⟩

/-- The least length of a plan of questions. -/
def stepA (D : List Int → Int) (b : Int) (xs : List Int) (x : Int) : Int :=
  if split xs x false = [] ∨ split xs x true = [] then b else 1 + max (D (split xs x false)) (D (split xs x true))
def askF : Nat → Nat → List Int → Int
  | 0, p, xs => if xs.length = 1 then 0 else p
  | k+1, p, xs => if xs.length = 1 then 0 else least (fun x => stepA (askF k p) p xs x) p p
def askL (p : Nat) (xs : List Int) : Int := askF xs.length p xs
theorem stepA_congr {D E : List Int → Int} {b : Int} {xs : List Int} {x : Int} (h : ∀ ys, ys.length < xs.length → D ys = E ys) : stepA D b xs x = stepA E b xs x := by
  unfold stepA
  split
  · rfl
  · rename_i hne
    have hs := split_len xs x
    have h1 : (split xs x false).length ≠ 0 := fun e => hne (.inl (List.eq_nil_of_length_eq_zero e))
    have h2 : (split xs x true).length ≠ 0 := fun e => hne (.inr (List.eq_nil_of_length_eq_zero e))
    rw [h _ (by omega), h _ (by omega)]
theorem stepA_both {D : List Int → Int} {b : Int} {xs : List Int} {x : Int} (h0 : split xs x false ≠ []) (h1 : split xs x true ≠ []) : stepA D b xs x = 1 + max (D (split xs x false)) (D (split xs x true)) := by
  unfold stepA
  exact if_neg fun h => h.elim h0 h1
theorem stepA_or {D : List Int → Int} {b : Int} {xs : List Int} {x : Int} : stepA D b xs x = b ∨ (split xs x false ≠ [] ∧ split xs x true ≠ [] ∧ stepA D b xs x = 1 + max (D (split xs x false)) (D (split xs x true))) := by
  unfold stepA
  split
  · exact .inl rfl
  · rename_i h
    exact .inr ⟨fun e => h (.inl e), fun e => h (.inr e), rfl⟩
theorem askF_len (p : Nat) : ∀ k xs, xs.length ≤ k → askF k p xs = askL p xs := by
  intro k
  induction k using Nat.strongRecOn with
  | _ k ih =>
    intro xs hk
    cases k with
    | zero =>
      have : xs = [] := List.eq_nil_of_length_eq_zero (by omega)
      subst this; rfl
    | succ k =>
      unfold askL
      cases hl : xs.length with
      | zero =>
        have : xs = [] := List.eq_nil_of_length_eq_zero hl
        subst this
        simp only [askF, List.length_nil]
        have : least (fun x => stepA (askF k p) p [] x) p p = least (fun _ => (p : Int)) p p := least_congr _ fun x _ => by simp [stepA, split_nil]
        rw [this]
        have h1 := least_le (fun _ => (p : Int)) p p
        have h2 := least_ge (g := fun _ => (p : Int)) (b := p) (m := p) (Int.le_refl _) p fun _ _ => Int.le_refl _
        simp; omega
      | succ m =>
        simp only [askF]
        split
        · rfl
        · apply least_congr
          intro x _
          apply stepA_congr
          intro ys hy
          by_cases e : k = m
          · subst e; rfl
          · rw [ih k (by omega) ys (by omega), ih m (by omega) ys (by omega)]
theorem askL_one {p : Nat} {xs : List Int} (h : xs.length = 1) : askL p xs = 0 := by
  unfold askL
  rw [h, askF, if_pos h]
theorem askL_eq {p : Nat} {xs : List Int} (h : xs.length ≠ 1) : askL p xs = least (fun x => stepA (askL p) p xs x) p p := by
  have e : askF (xs.length + 1) p xs = askL p xs := askF_len p _ xs (by omega)
  rw [← e]
  simp only [askF, if_neg h]
  apply least_congr
  intro x _
  exact stepA_congr fun ys hy => askF_len p _ ys (by omega)
theorem askL_nonneg (p : Nat) : ∀ m, ∀ xs : List Int, xs.length = m → 0 ≤ askL p xs := by
  intro m
  induction m using Nat.strongRecOn with
  | _ m ih =>
    intro xs hm
    by_cases h1 : xs.length = 1
    · rw [askL_one h1]; omega
    · rw [askL_eq h1]
      apply least_ge (by omega)
      intro x hx
      rcases stepA_or (D := askL p) (b := p) (xs := xs) (x := x) with e | ⟨a, b, e⟩
      · rw [e]; omega
      · have la := ne_len a; have lb := ne_len b
        have hs := split_len xs x
        have i0 := ih _ (by omega) (split xs x false) rfl
        rw [e]; omega
theorem askL_le (p : Nat) (xs : List Int) : askL p xs ≤ p := by
  by_cases h1 : xs.length = 1
  · rw [askL_one h1]; omega
  · rw [askL_eq h1]; exact least_le _ _ _
/-- Where not all is known from the outset: all points, or one question and what is left. -/
theorem askL_cases {p : Nat} {xs : List Int} (h : xs.length ≠ 1) : askL p xs = p ∨ ∃ x : Nat, x < p ∧ split xs x false ≠ [] ∧ split xs x true ≠ [] ∧ askL p xs = 1 + max (askL p (split xs x false)) (askL p (split xs x true)) := by
  rcases least_at (g := fun x => stepA (askL p) p xs x) (b := p) p with e | ⟨x, hx, e⟩
  · left; rw [askL_eq h, e]
  · rcases stepA_or (D := askL p) (b := p) (xs := xs) (x := x) with e2 | ⟨a, b, e2⟩
    · left; rw [askL_eq h, ← e, e2]
    · right; exact ⟨x, hx, a, b, by rw [askL_eq h, ← e, e2]⟩
theorem askL_mono (p : Nat) : ∀ m, ∀ xs ys : List Int, xs.length = m → ys.Sublist xs → ys ≠ [] → askL p ys ≤ askL p xs := by
  intro m
  induction m using Nat.strongRecOn with
  | _ m ih =>
    intro xs ys hm hs hy
    have hly := ne_len hy
    have hle := hs.length_le
    by_cases h1 : ys.length = 1
    · rw [askL_one h1]; exact askL_nonneg p _ xs rfl
    · rcases askL_cases (p := p) (xs := xs) (by omega) with e | ⟨x, hx, a, b, e⟩
      · rw [e]; exact askL_le p ys
      · have la := ne_len a; have lb := ne_len b
        have hl := split_len xs x
        by_cases ya : split ys x false = []
        · have hsub : ys.Sublist (split xs x true) := by
            have hf : split ys x true = ys := by
              unfold split
              rw [List.filter_eq_self]
              intro c hc
              rw [beq_iff_eq]
              unfold split at ya
              have := List.filter_eq_nil_iff.1 ya c hc
              cases hb : bitB c x
              · rw [hb] at this; exact absurd rfl this
              · rfl
            rw [← hf]; exact split_sub hs x true
          have := ih _ (by omega) _ ys rfl hsub hy
          omega
        · by_cases yb : split ys x true = []
          · have hsub : ys.Sublist (split xs x false) := by
              have hf : split ys x false = ys := by
                unfold split
                rw [List.filter_eq_self]
                intro c hc
                rw [beq_iff_eq]
                unfold split at yb
                have := List.filter_eq_nil_iff.1 yb c hc
                cases hb : bitB c x
                · rfl
                · rw [hb] at this; exact absurd rfl this
              rw [← hf]; exact split_sub hs x false
            have := ih _ (by omega) _ ys rfl hsub hy
            omega
          · have i0 := ih _ (by omega) _ _ rfl (split_sub hs x false) ya
            have i1 := ih _ (by omega) _ _ rfl (split_sub hs x true) yb
            have hst := stepA_both (D := askL p) (b := p) ya yb
            have hl2 := least_at_le (g := fun x => stepA (askL p) p ys x) (b := p) p x hx
            rw [← askL_eq h1] at hl2
            omega
theorem asc_len {m : Nat} : ∀ (xs : List Int), xs.Pairwise (· < ·) → ∀ lo : Int, (∀ c ∈ xs, lo ≤ c ∧ c < lo + m - 0) → xs.length ≤ m := by
  intro xs
  induction xs generalizing m with
  | nil => intro _ _ _; simp
  | cons c xs ih =>
    intro hp lo hr
    obtain ⟨h1, h2⟩ := List.pairwise_cons.1 hp
    have hc := hr c (by simp)
    have := ih (m := m - 1) h2 (lo + 1) fun d hd => by
      have := h1 d hd
      have := hr d (by simp [hd])
      omega
    rw [List.length_cons]
    omega
theorem ask_pow (p : Nat) : ∀ m, ∀ xs : List Int, xs.length = m → InP p xs → xs.Pairwise (· < ·) → m ≤ 2 ^ (askL p xs).toNat := by
  intro m
  induction m using Nat.strongRecOn with
  | _ m ih =>
    intro xs hm hi hp
    have hn := askL_nonneg p _ xs rfl
    by_cases h1 : xs.length = 1
    · rw [askL_one h1]; show m ≤ 2 ^ 0; omega
    · rcases askL_cases (p := p) h1 with e | ⟨x, hx, a, b, e⟩
      · rw [e, Int.toNat_natCast]
        have := asc_len (m := 2 ^ p) xs hp 0 fun c hc => by
          have h2 : ((2 ^ p : Nat) : Int) = (2 : Int) ^ p := by simp
          have := hi c hc
          omega
        omega
      · have la := ne_len a; have lb := ne_len b
        have hl := split_len xs x
        have i0 := ih _ (by omega) (split xs x false) rfl (hi.sub (split_self _ _ _)) (hp.sublist (split_self _ _ _))
        have i1 := ih _ (by omega) (split xs x true) rfl (hi.sub (split_self _ _ _)) (hp.sublist (split_self _ _ _))
        have n0 := askL_nonneg p _ (split xs x false) rfl
        have n1 := askL_nonneg p _ (split xs x true) rfl
        have e3 : (askL p xs).toNat = (askL p xs).toNat - 1 + 1 := by omega
        have j0 := Nat.pow_le_pow_right (show 0 < 2 by decide) (show (askL p (split xs x false)).toNat ≤ (askL p xs).toNat - 1 by omega)
        have j1 := Nat.pow_le_pow_right (show 0 < 2 by decide) (show (askL p (split xs x true)).toNat ≤ (askL p xs).toNat - 1 by omega)
        rw [e3, Nat.pow_succ]
        omega
theorem split_mem {xs : List Int} {x : Int} {y : Bool} {c : Int} : c ∈ split xs x y ↔ c ∈ xs ∧ bitB c x = y := by
  unfold split
  rw [List.mem_filter, beq_iff_eq]
/-- Who asks by a plan has a key of that length. -/
theorem ask_key {p : Nat} (hp : p < 6) : ∀ m, ∀ xs : List Int, xs.length = m → InP p xs → ∀ c ∈ xs, ∃ k, k < 2 ^ p ∧ (sz k : Int) ≤ askL p xs ∧ keyOK xs c k = true := by
  intro m
  induction m using Nat.strongRecOn with
  | _ m ih =>
    intro xs hm hi c hc
    by_cases h1 : xs.length = 1
    · refine ⟨0, Nat.two_pow_pos p, by rw [askL_one h1, sz_zero]; omega, keyOK_iff.2 fun d hd hn => ?_⟩
      match xs, h1 with
      | [u], _ =>
        simp at hc hd
        omega
    · rcases askL_cases (p := p) h1 with e | ⟨x, hx, a, b, e⟩
      · have h2 := Nat.two_pow_pos p
        refine ⟨2 ^ p - 1, by omega, by rw [e, sz_full p hp]; omega, keyOK_full hi (hi c hc)⟩
      · have la := ne_len a; have lb := ne_len b
        have hl := split_len xs x
        have hlen : (split xs x (bitB c x)).length < m := by cases bitB c x <;> omega
        obtain ⟨k, k1, k2, k3⟩ := ih _ hlen (split xs x (bitB c x)) rfl (hi.sub (split_self _ _ _)) c (split_mem.2 ⟨hc, rfl⟩)
        refine ⟨k ||| 2 ^ x, or_lt p hp x hx k k1, ?_, keyOK_iff.2 fun d hd hn => ?_⟩
        · have := sz_or x (by omega) k (le32 hp k1)
          have : askL p (split xs x (bitB c x)) ≤ max (askL p (split xs x false)) (askL p (split xs x true)) := by cases bitB c x <;> omega
          omega
        · rw [Bool.eq_false_iff]
          intro ag
          by_cases hb : bitB d x = bitB c x
          · have := keyOK_iff.1 k3 d (split_mem.2 ⟨hd, hb⟩) hn
            rw [agree_sub (m := k ||| 2 ^ x) (fun i hi => by rw [testBit_or_pow, hi]; rfl) ag] at this
            cases this
          · rw [bitB_nat (hi d hd).1, bitB_nat (hi c hc).1] at hb
            exact hb (agree_iff.1 ag x (by rw [testBit_or_pow]; simp))
theorem key_le_ask {p : Nat} (hp : p < 6) {xs : List Int} (hi : InP p xs) {c : Int} (hc : c ∈ xs) : (sz (keyL p xs c) : Int) ≤ askL p xs := by
  obtain ⟨k, k1, k2, k3⟩ := ask_key hp _ xs rfl hi c hc
  have := (keyL_min hp hi (hi c hc) k1 k3).1
  omega
theorem key_le_len {p : Nat} (hp : p < 6) {xs : List Int} (hi : InP p xs) {c : Int} (hc : c ∈ xs) : sz (keyL p xs c) + 1 ≤ xs.length := by
  obtain ⟨k, k1, k2, k3⟩ := key_others hp (hi c hc) xs hi
  have := (keyL_min hp hi (hi c hc) k1 k3).1
  have h2 : (xs.filter fun d => d != c).length < xs.length := by
    rcases Nat.lt_or_ge (xs.filter fun d => d != c).length xs.length with h | h
    · exact h
    · exfalso
      have h3 := List.length_filter_le (fun d => d != c) xs
      have := List.length_filter_eq_length_iff.1 (show (xs.filter fun d => d != c).length = xs.length by omega) c hc
      simp at this
  omega

/-- The greatest size of a key. -/
def teachF (p : Nat) (xs : List Int) : Nat → Int := best fun i => (sz (keyL p xs (at0 xs i)) : Int)
def teachL (p : Nat) (xs : List Int) : Int := teachF p xs xs.length
theorem at0_mem' {xs : List Int} {j : Nat} (h : j < xs.length) : at0 xs j ∈ xs := by
  simp [at0, List.getD, h]
theorem mem_at0 {xs : List Int} {c : Int} (h : c ∈ xs) : ∃ j, j < xs.length ∧ at0 xs j = c := by
  obtain ⟨j, hj, e⟩ := List.getElem_of_mem h
  exact ⟨j, hj, by simp [at0, List.getD, hj, e]⟩
theorem teach_ge {p : Nat} {xs : List Int} {c : Int} (h : c ∈ xs) : (sz (keyL p xs c) : Int) ≤ teachL p xs := by
  obtain ⟨j, hj, rfl⟩ := mem_at0 h
  exact best_ge (g := fun i => (sz (keyL p xs (at0 xs i)) : Int)) _ j hj
theorem teach_le {p : Nat} {xs : List Int} {m : Int} (h0 : 0 ≤ m) (h : ∀ c ∈ xs, (sz (keyL p xs c) : Int) ≤ m) : teachL p xs ≤ m := best_le h0 _ fun _ hj => h _ (at0_mem' hj)
theorem teach_nonneg (p : Nat) (xs : List Int) : 0 ≤ teachL p xs := best_nonneg _ _
theorem teach_le_p {p : Nat} (hp : p < 6) {xs : List Int} (hi : InP p xs) : teachL p xs ≤ p := teach_le (by omega) fun c hc => by have := sz_key_le hp hi (hi c hc); omega
theorem teach_le_len {p : Nat} (hp : p < 6) {xs : List Int} (hi : InP p xs) (hx : xs ≠ []) : teachL p xs ≤ (xs.length : Int) - 1 := teach_le (by have := ne_len hx; omega) fun c hc => by have := key_le_len hp hi hc; omega
theorem teach_le_ask {p : Nat} (hp : p < 6) {xs : List Int} (hi : InP p xs) : teachL p xs ≤ askL p xs := teach_le (askL_nonneg p _ xs rfl) fun _ hc => key_le_ask hp hi hc

/-- What is left of a class when those with keys of at most k points are gone. -/
def nextL (p k : Nat) (xs : List Int) : List Int := xs.filter fun c => decide (k < sz (keyL p xs c))
def peelsF : Nat → Nat → Nat → List Int → Bool
  | 0, _, _, xs => xs.isEmpty
  | m+1, p, k, xs => if xs = [] then true else if (nextL p k xs).length = xs.length then false else peelsF m p k (nextL p k xs)
def peelsL (p k : Nat) (xs : List Int) : Bool := peelsF xs.length p k xs
theorem nextL_sub (p k : Nat) (xs : List Int) : (nextL p k xs).Sublist xs := List.filter_sublist
theorem peelsF_len (p k : Nat) : ∀ m xs, xs.length ≤ m → peelsF m p k xs = peelsL p k xs := by
  intro m
  induction m using Nat.strongRecOn with
  | _ m ih =>
    intro xs hk
    cases m with
    | zero =>
      have : xs = [] := List.eq_nil_of_length_eq_zero (by omega)
      subst this; rfl
    | succ m =>
      unfold peelsL
      cases hl : xs.length with
      | zero =>
        have : xs = [] := List.eq_nil_of_length_eq_zero hl
        subst this; simp [peelsF]
      | succ n =>
        simp only [peelsF]
        split
        · rfl
        · split
          · rfl
          · rename_i hne
            have := (nextL_sub p k xs).length_le
            by_cases e : m = n
            · subst e; rfl
            · rw [ih m (by omega) _ (by omega), ih n (by omega) _ (by omega)]
theorem peelsL_nil (p k : Nat) : peelsL p k [] = true := rfl
theorem peelsL_eq {p k : Nat} {xs : List Int} (h : xs ≠ []) : peelsL p k xs = if (nextL p k xs).length = xs.length then false else peelsL p k (nextL p k xs) := by
  have e : peelsF (xs.length + 1) p k xs = peelsL p k xs := peelsF_len p k _ xs (by omega)
  rw [← e]
  simp only [peelsF, if_neg h]
  split
  · rfl
  · exact peelsF_len p k _ _ (nextL_sub p k xs).length_le
/-- All go at once where no key is greater. -/
theorem peels_all {p k : Nat} {xs : List Int} (h : ∀ c ∈ xs, sz (keyL p xs c) ≤ k) : peelsL p k xs = true := by
  by_cases hx : xs = []
  · subst hx; rfl
  · have e : nextL p k xs = [] := by
      unfold nextL
      rw [List.filter_eq_nil_iff]
      intro c hc
      have := h c hc
      simp; omega
    have := ne_len hx
    rw [peelsL_eq hx, e, if_neg (by simp; omega)]
    rfl
theorem nextL_mono {p : Nat} (hp : p < 6) {k : Nat} {xs ys : List Int} (hi : InP p xs) (hs : ∀ d ∈ ys, d ∈ xs) : ∀ d ∈ nextL p k ys, d ∈ nextL p k xs := by
  intro d hd
  unfold nextL at hd ⊢
  rw [List.mem_filter] at hd ⊢
  refine ⟨hs d hd.1, ?_⟩
  have h1 := hd.2
  rw [decide_eq_true_eq] at h1 ⊢
  have := sz_key_sub hp hi (hi d (hs d hd.1)) hs
  omega
theorem nextL_none {p k : Nat} {xs : List Int} (h : (nextL p k xs).length = xs.length) : ∀ d ∈ xs, d ∈ nextL p k xs := by
  intro d hd
  have e := List.length_filter_eq_length_iff.1 h d hd
  exact List.mem_filter.2 ⟨hd, e⟩
/-- A part goes where the whole goes. -/
theorem peels_sub {p : Nat} (hp : p < 6) {k : Nat} : ∀ m, ∀ xs ys : List Int, xs.length + ys.length = m → InP p xs → (∀ d ∈ ys, d ∈ xs) → peelsL p k xs = true → peelsL p k ys = true := by
  intro m
  induction m using Nat.strongRecOn with
  | _ m ih =>
    intro xs ys hm hi hs hx
    by_cases hy : ys = []
    · subst hy; rfl
    have hxe : xs ≠ [] := by
      rintro rfl
      cases ys with
      | nil => exact hy rfl
      | cons d ys => exact absurd (hs d (by simp)) (by simp)
    rw [peelsL_eq hxe] at hx
    have hlx := (nextL_sub p k xs).length_le
    have hly := (nextL_sub p k ys).length_le
    split at hx
    · cases hx
    · rename_i hne
      rw [peelsL_eq hy]
      split
      · rename_i he
        -- nothing of the part goes: but it lies in what is left of the whole
        have h1 : ∀ d ∈ ys, d ∈ nextL p k xs := fun d hd => nextL_mono hp hi hs d (nextL_none he d hd)
        have := ih _ (by omega) (nextL p k xs) ys rfl (hi.sub (nextL_sub p k xs)) h1 hx
        rw [peelsL_eq hy, if_pos he] at this
        exact this
      · exact ih _ (by omega) (nextL p k xs) (nextL p k ys) rfl (hi.sub (nextL_sub p k xs)) (nextL_mono hp hi hs) hx
/-- The peeling number: the first number with which all go. -/
def peelFrom (p : Nat) (xs : List Int) : Nat → Nat → Nat
  | 0, k => k
  | m+1, k => if peelsL p k xs = true then k else peelFrom p xs m (k + 1)
def peelL (p : Nat) (xs : List Int) : Nat := peelFrom p xs p 0
theorem peelFrom_eq {p : Nat} {xs : List Int} {r : Nat} (hr : peelsL p r xs = true) : ∀ m k, k ≤ r → r ≤ k + m → (∀ j, k ≤ j → j < r → peelsL p j xs = false) → peelFrom p xs m k = r := by
  intro m
  induction m with
  | zero => intro k h1 h2 _; simp only [peelFrom]; omega
  | succ m ih =>
    intro k h1 h2 h3
    simp only [peelFrom]
    by_cases e : k = r
    · subst e; rw [if_pos hr]
    · rw [if_neg (by rw [h3 k (by omega) (by omega)]; decide)]
      exact ih (k + 1) (by omega) (by omega) fun j h4 h5 => h3 j (by omega) h5
theorem peelL_eq {p : Nat} {xs : List Int} {r : Nat} (hr : peelsL p r xs = true) (hp : r ≤ p) (h : ∀ j, j < r → peelsL p j xs = false) : peelL p xs = r :=
  peelFrom_eq hr p 0 (by omega) (by omega) fun _ _ hj => h _ hj
theorem peelFrom_spec {p : Nat} {xs : List Int} : ∀ m k, peelsL p (k + m) xs = true → peelsL p (peelFrom p xs m k) xs = true ∧ peelFrom p xs m k ≤ k + m ∧ ∀ j, k ≤ j → j < peelFrom p xs m k → peelsL p j xs = false := by
  intro m
  induction m with
  | zero => intro k h; exact ⟨h, by simp [peelFrom], fun j h1 h2 => absurd h2 (by simp only [peelFrom]; omega)⟩
  | succ m ih =>
    intro k h
    simp only [peelFrom]
    split
    · rename_i e
      exact ⟨e, by omega, fun j h1 h2 => absurd h2 (by omega)⟩
    · rename_i e
      have e2 : k + (m + 1) = k + 1 + m := by omega
      rw [e2] at h
      obtain ⟨h1, h2, h3⟩ := ih (k + 1) h
      refine ⟨h1, by omega, fun j h4 h5 => ?_⟩
      by_cases ej : j = k
      · subst ej; simpa using e
      · exact h3 j (by omega) h5
theorem peels_p {p : Nat} (hp : p < 6) {xs : List Int} (hi : InP p xs) : peelsL p p xs = true := peels_all fun c hc => sz_key_le hp hi (hi c hc)
theorem peelL_spec {p : Nat} (hp : p < 6) {xs : List Int} (hi : InP p xs) : peelsL p (peelL p xs) xs = true ∧ peelL p xs ≤ p ∧ ∀ j, j < peelL p xs → peelsL p j xs = false := by
  have := peelFrom_spec (p := p) (xs := xs) p 0 (by rw [Nat.zero_add]; exact peels_p hp hi)
  exact ⟨this.1, by have := this.2.1; unfold peelL; omega, fun j hj => this.2.2 j (by omega) hj⟩
theorem peelL_le {p : Nat} (hp : p < 6) {xs : List Int} (hi : InP p xs) {k : Nat} (h : peelsL p k xs = true) : peelL p xs ≤ k := by
  rcases Nat.lt_or_ge k (peelL p xs) with g | g
  · rw [(peelL_spec hp hi).2.2 k g] at h; cases h
  · exact g
theorem peel_le_teach {p : Nat} (hp : p < 6) {xs : List Int} (hi : InP p xs) : (peelL p xs : Int) ≤ teachL p xs := by
  have hn := teach_nonneg p xs
  have := peelL_le hp hi (k := (teachL p xs).toNat) (peels_all fun c hc => by have := teach_ge (p := p) hc; omega)
  omega
theorem peel_mono {p : Nat} (hp : p < 6) {xs ys : List Int} (hi : InP p xs) (hs : ys.Sublist xs) : peelL p ys ≤ peelL p xs :=
  peelL_le hp (hi.sub hs) (peels_sub hp _ xs ys rfl hi (fun _ hd => hs.subset hd) (peelL_spec hp hi).1)
end Go.Proofs.Ytpebglilphgamaa
