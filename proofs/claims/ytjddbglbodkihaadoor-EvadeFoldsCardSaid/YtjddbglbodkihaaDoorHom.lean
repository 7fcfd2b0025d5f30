/- Plain laws of chains of sets modulo two: the border of a border is nothing; folding keeps what has no holes. No condition. -/
namespace Go.Proofs.YtjddbglbodkihaaDoor

/-- The sum modulo two of the first n. -/
def xs : Nat → (Nat → Bool) → Bool
  | 0, _ => false
  | n+1, f => xs n f ^^ f n
theorem xs_congr {f g : Nat → Bool} : ∀ {n : Nat}, (∀ x, x < n → f x = g x) → xs n f = xs n g
  | 0, _ => rfl
  | n+1, h => by simp only [xs]; rw [xs_congr fun x hx => h x (by omega), h n (by omega)]
theorem xs_false : ∀ n : Nat, xs n (fun _ => false) = false
  | 0 => rfl
  | n+1 => by simp [xs, xs_false n]
theorem xs_zero {n : Nat} {f : Nat → Bool} (h : ∀ x, x < n → f x = false) : xs n f = false := (xs_congr h).trans (xs_false n)
theorem xs_xor (f g : Nat → Bool) : ∀ n : Nat, xs n (fun x => f x ^^ g x) = (xs n f ^^ xs n g)
  | 0 => rfl
  | n+1 => by
    simp only [xs, xs_xor f g n]
    cases xs n f <;> cases xs n g <;> cases f n <;> cases g n <;> rfl
theorem xs_and (b : Bool) (f : Nat → Bool) : ∀ n : Nat, xs n (fun x => b && f x) = (b && xs n f)
  | 0 => by simp [xs]
  | n+1 => by
    simp only [xs, xs_and b f n]
    cases b <;> simp
theorem xs_one {f : Nat → Bool} {k : Nat} : ∀ {n : Nat}, k < n → (∀ x, x < n → x ≠ k → f x = false) → xs n f = f k
  | 0, hk, _ => absurd hk (by omega)
  | n+1, hk, h => by
    simp only [xs]
    by_cases e : k = n
    · subst e
      rw [xs_zero fun x hx => h x (by omega) (by omega)]
      simp
    · rw [xs_one (by omega) fun x hx hne => h x (by omega) hne, h n (by omega) (Ne.symm e)]
      simp
theorem xs_symm (P : Nat → Nat → Bool) (hs : ∀ x y, P x y = P y x) (hd : ∀ x, P x x = false) : ∀ n : Nat, xs n (fun x => xs n (P x)) = false
  | 0 => rfl
  | n+1 => by
    simp only [xs]
    rw [xs_xor, xs_symm P hs hd n, hd n, xs_congr (f := fun x => P x n) (g := P n) fun x _ => hs x n]
    simp
theorem xs_swap (P : Nat → Nat → Bool) (m : Nat) : ∀ n : Nat, xs n (fun x => xs m (P x)) = xs m (fun y => xs n fun x => P x y)
  | 0 => by simp [xs, xs_false]
  | n+1 => by
    simp only [xs]
    rw [xs_xor (fun y => xs n fun x => P x y) (P n) m, xs_swap P m n]

/-- A set with an element more, or less. -/
def ad (u x : Nat) : Nat := u ||| (1 <<< x)
theorem ad_bit (u x y : Nat) : (ad u x).testBit y = (u.testBit y || decide (x = y)) := by
  simp [ad, Nat.testBit_or, Nat.one_shiftLeft, Nat.testBit_two_pow]
theorem ad_comm (u x y : Nat) : ad (ad u x) y = ad (ad u y) x := by
  apply Nat.eq_of_testBit_eq; intro i; simp only [ad_bit]; cases u.testBit i <;> simp [Bool.or_comm]
theorem ad_self {u x : Nat} (h : u.testBit x = true) : ad u x = u := by
  apply Nat.eq_of_testBit_eq; intro i; rw [ad_bit]
  by_cases e : x = i
  · subst e; simp [h]
  · simp [e]
theorem ad_mem (u x : Nat) : (ad u x).testBit x = true := by simp [ad_bit]
theorem ad_ne {u x : Nat} (h : u.testBit x = false) : ad u x ≠ u := by
  intro e; have := ad_mem u x; rw [e, h] at this; cases this
theorem ad_inj {u x y : Nat} (hx : u.testBit x = false) (h : ad u x = ad u y) : x = y := by
  have h1 := ad_mem u x
  rw [h, ad_bit, hx] at h1
  simpa [eq_comm] using h1
def rm (u x : Nat) : Nat := u ^^^ (u &&& (1 <<< x))
theorem rm_bit (u x y : Nat) : (rm u x).testBit y = (u.testBit y && !decide (x = y)) := by
  simp only [rm, Nat.testBit_xor, Nat.testBit_and, Nat.one_shiftLeft, Nat.testBit_two_pow]
  cases u.testBit y <;> simp
theorem rm_ad {u x : Nat} (h : u.testBit x = false) : rm (ad u x) x = u := by
  apply Nat.eq_of_testBit_eq; intro i; rw [rm_bit, ad_bit]
  by_cases e : x = i
  · subst e; simp [h]
  · simp [e]
theorem ad_rm {u x : Nat} (h : u.testBit x = true) : ad (rm u x) x = u := by
  apply Nat.eq_of_testBit_eq; intro i; rw [ad_bit, rm_bit]
  by_cases e : x = i
  · subst e; simp [h]
  · simp [e]
theorem rm_not (u x : Nat) : (rm u x).testBit x = false := by simp [rm_bit]

/-- The border of a chain. -/
def ex (C : Nat → Bool) (u x : Nat) : Bool := !u.testBit x && C (ad u x)
def bd (C : Nat → Bool) (u : Nat) : Bool := xs 6 (ex C u)
theorem bd_xor (C D : Nat → Bool) (u : Nat) : bd (fun v => C v ^^ D v) u = (bd C u ^^ bd D u) := by
  unfold bd
  rw [← xs_xor]
  apply xs_congr
  intro x _
  unfold ex
  cases u.testBit x <;> simp
theorem bd_congr {C D : Nat → Bool} {u : Nat} (h : ∀ v, C v = D v) : bd C u = bd D u := by
  have : C = D := funext h
  rw [this]
theorem bd_bd (C : Nat → Bool) (u : Nat) : bd (bd C) u = false := by
  have h : bd (bd C) u = xs 6 (fun x => xs 6 (fun y => !u.testBit x && ex C (ad u x) y)) := by
    unfold bd
    apply xs_congr
    intro x _
    rw [xs_and]
    rfl
  rw [h]
  apply xs_symm
  · intro x y
    simp only [ex, ad_bit, ad_comm u x y]
    by_cases e : x = y
    · subst e; rfl
    · have e2 : ¬ y = x := fun h => e h.symm
      simp only [e, e2, decide_false, Bool.or_false]
      cases u.testBit x <;> cases u.testBit y <;> rfl
  · intro x
    simp [ex, ad_bit]

def Sub (C K : Nat → Bool) : Prop := ∀ u, C u = true → K u = true
def Shut (K : Nat → Bool) : Prop := ∀ u x, K (ad u x) = true → K u = true
def Cyc (C : Nat → Bool) : Prop := ∀ u, bd C u = false
/-- Every chain of K without a border is the border of one of K. -/
def Whole (K : Nat → Bool) : Prop := ∀ C, Sub C K → Cyc C → ∃ D, Sub D K ∧ ∀ u, bd D u = C u
theorem Sub.xor {C D K : Nat → Bool} (h : Sub C K) (k : Sub D K) : Sub (fun u => C u ^^ D u) K := by
  intro u hu
  simp only at hu
  cases hc : C u
  · rw [hc] at hu; exact k u (by simpa using hu)
  · exact h u hc

/-- The one set t alone; its border are the sets with one element less. -/
def one (t : Nat) (u : Nat) : Bool := decide (u = t)
theorem bd_one {t u x : Nat} (hx : x < 6) (h : u.testBit x = false) (ht : ad u x = t) : bd (one t) u = true := by
  unfold bd
  rw [xs_one hx]
  · simp [ex, h, one, ht]
  · intro y _ hy
    simp only [ex, one]
    by_cases e : u.testBit y = true
    · simp [e]
    · have : ad u y ≠ t := fun h2 => hy (ad_inj (by simpa using e) (h2.trans ht.symm))
      simp [this]
theorem bd_one_sub {t u : Nat} (h : bd (one t) u = true) : ∃ x, x < 6 ∧ u.testBit x = false ∧ ad u x = t := by
  by_cases hex : ∃ x, x < 6 ∧ u.testBit x = false ∧ ad u x = t
  · exact hex
  · exfalso
    have : bd (one t) u = false := by
      unfold bd
      apply xs_zero
      intro x hx
      simp only [ex, one]
      by_cases e : u.testBit x = true
      · simp [e]
      · have : ad u x ≠ t := fun h2 => hex ⟨x, hx, by simpa using e, h2⟩
        simp [this]
    rw [this] at h; cases h
theorem bd_one_self (t : Nat) : bd (one t) t = false := by
  cases h : bd (one t) t
  · rfl
  · obtain ⟨x, _, h1, h2⟩ := bd_one_sub h
    exact absurd h2 (ad_ne h1)

/-- s is in just one greater set of K: t, with one element more. -/
structure Folds (K : Nat → Bool) (s t x : Nat) : Prop where
  x6 : x < 6
  out : s.testBit x = false
  ad_eq : ad s x = t
  inS : K s = true
  inT : K t = true
  only : ∀ y, y < 6 → s.testBit y = false → K (ad s y) = true → y = x
def less (K : Nat → Bool) (s t : Nat) : Nat → Bool := fun u => K u && !decide (u = s) && !decide (u = t)
theorem less_sub {K : Nat → Bool} {s t : Nat} : Sub (less K s t) K := by
  intro u hu
  unfold less at hu
  cases h : K u
  · simp [h] at hu
  · rfl
section
variable {K : Nat → Bool} {s t x : Nat}
theorem Folds.at_s (h : Folds K s t x) {C : Nat → Bool} (hC : Sub C K) : bd C s = C t := by
  unfold bd
  rw [xs_one h.x6]
  · simp [ex, h.out, h.ad_eq]
  · intro y hy hne
    simp only [ex]
    cases e : s.testBit y
    · cases e2 : C (ad s y)
      · rfl
      · exact absurd (h.only y hy e (hC _ e2)) hne
    · rfl
theorem Folds.one_sub (h : Folds K s t x) (hK : Shut K) : Sub (bd (one t)) K := by
  intro u hu
  obtain ⟨y, _, _, e⟩ := bd_one_sub hu
  exact hK u y (by rw [e]; exact h.inT)
theorem Folds.one_s (h : Folds K s t x) : bd (one t) s = true := bd_one h.x6 h.out h.ad_eq
theorem Folds.ne (h : Folds K s t x) : t ≠ s := by rw [← h.ad_eq]; exact ad_ne h.out
theorem mem_less {u : Nat} (h1 : K u = true) (h2 : u ≠ s) (h3 : u ≠ t) : less K s t u = true := by simp [less, h1, h2, h3]
/-- What folds to something whole is whole. -/
theorem Folds.back (h : Folds K s t x) (hK : Shut K) (hw : Whole (less K s t)) : Whole K := by
  intro C hC hcy
  have ht : C t = false := by rw [← h.at_s hC]; exact hcy s
  have key : ∀ C, Sub C K → Cyc C → C t = false → C s = false → ∃ D, Sub D K ∧ ∀ u, bd D u = C u := by
    intro C hC hcy ht hs
    obtain ⟨D, hD, he⟩ := hw C (fun u hu => mem_less (hC u hu) (by rintro rfl; rw [hs] at hu; cases hu) (by rintro rfl; rw [ht] at hu; cases hu)) hcy
    exact ⟨D, fun u hu => less_sub u (hD u hu), he⟩
  cases hs : C s
  · exact key C hC hcy ht hs
  · obtain ⟨D, hD, he⟩ := key (fun u => C u ^^ bd (one t) u) (hC.xor (h.one_sub hK)) (fun u => by rw [bd_xor, hcy u, bd_bd]; rfl) (by simp [ht, bd_one_self]) (by simp [hs, h.one_s])
    refine ⟨fun u => D u ^^ one t u, hD.xor ?_, fun u => ?_⟩
    · intro u hu
      have : u = t := by simpa [one] using hu
      subst this; exact h.inT
    · rw [bd_xor, he u]
      cases C u <;> cases bd (one t) u <;> rfl
/-- What a whole one folds to is whole. -/
theorem Folds.fore (h : Folds K s t x) (hK : Shut K) (hw : Whole K) : Whole (less K s t) := by
  intro C hC hcy
  have hCK : Sub C K := fun u hu => less_sub u (hC u hu)
  obtain ⟨D, hD, he⟩ := hw C hCK hcy
  have hCs : C s = false := by
    cases e : C s
    · rfl
    · have := hC s e; simp [less] at this
  have ht : D t = false := by rw [← h.at_s hD, he s, hCs]
  cases hs : D s
  · exact ⟨D, fun u hu => mem_less (hD u hu) (by rintro rfl; rw [hs] at hu; cases hu) (by rintro rfl; rw [ht] at hu; cases hu), he⟩
  · refine ⟨fun u => D u ^^ bd (one t) u, fun u hu => ?_, fun u => ?_⟩
    · have hk := (hD.xor (h.one_sub hK)) u hu
      refine mem_less hk ?_ ?_
      · rintro rfl; simp [hs, h.one_s] at hu
      · rintro rfl; simp [ht, bd_one_self] at hu
    · rw [bd_xor, he u, bd_bd]; simp
theorem Folds.shut (h : Folds K s t x) (hK : Shut K) (hb : ∀ u, K u = true → u < 64) : Shut (less K s t) := by
  intro u y hu
  have h1 : K (ad u y) = true := less_sub _ hu
  refine mem_less (hK u y h1) ?_ ?_
  · rintro rfl
    by_cases e : u.testBit y = true
    · rw [ad_self e] at hu; simp [less] at hu
    · have hy6 : y < 6 := by
        rcases Nat.lt_or_ge y 6 with g | g
        · exact g
        · exfalso
          have h2 := hb _ h1
          have h3 := ad_mem u y
          have h4 : (ad u y).testBit y = false := Nat.testBit_lt_two_pow (Nat.lt_of_lt_of_le h2 (by
            have := Nat.pow_le_pow_right (show 0 < 2 by decide) g
            simpa using this))
          rw [h4] at h3; cases h3
      have := h.only y hy6 (by simpa using e) h1
      subst this
      rw [h.ad_eq] at hu
      simp [less] at hu
  · rintro rfl
    by_cases e : u.testBit y = true
    · rw [ad_self e] at hu; simp [less] at hu
    · have e' : u.testBit y = false := by simpa using e
      have hyx : y ≠ x := by
        rintro rfl
        rw [← h.ad_eq, ad_mem] at e'; cases e'
      have hsy : s.testBit y = false := by
        rw [← h.ad_eq, ad_bit] at e'
        cases hh : s.testBit y
        · rfl
        · simp [hh] at e'
      have h2 : ad u y = ad (ad s y) x := by rw [← h.ad_eq, ad_comm]
      rw [h2] at h1
      have hy6 : y < 6 := by
        rcases Nat.lt_or_ge y 6 with g | g
        · exact g
        · exfalso
          have h5 := hb _ h1
          have h3 : (ad (ad s y) x).testBit y = true := by rw [ad_bit, ad_mem]; rfl
          have h4 : (ad (ad s y) x).testBit y = false := Nat.testBit_lt_two_pow (Nat.lt_of_lt_of_le h5 (by
            have := Nat.pow_le_pow_right (show 0 < 2 by decide) g
            simpa using this))
          rw [h4] at h3; cases h3
      exact hyx (h.only y hy6 hsy (hK _ x h1))
end
end Go.Proofs.YtjddbglbodkihaaDoor
