/- Plain law of asking: how many questions settle a view, and the first best one. No condition. -/
import Derived.Test.YtjddbglbodkihaaDoorFamM
namespace Go.Proofs.YtjddbglbodkihaaDoor

/-- Does a set agree with a view? -/
def agr (a i s : Nat) : Bool := s &&& a == i
/-- Are all sets below N that agree with a view in a family, or none? -/
def settl (N : Nat) (p : Nat → Bool) (a i : Nat) : Bool :=
  !((List.range N).any fun s => agr a i s && p s) || (List.range N).all fun s => !agr a i s || p s
/-- How many elements are not asked. -/
def un (n a : Nat) : Nat := (List.range n).countP fun x => !a.testBit x
/-- The least of v over the elements that are not asked, from s on down; and the first that has it. -/
def lb (a s : Nat) (v : Nat → Nat) : Nat → Nat × Option Nat
  | 0 => (s, none)
  | k+1 => if a.testBit k then lb a s v k else if v k < (lb a s v k).1 then (v k, some k) else lb a s v k
/-- How many questions settle a view with k elements not asked. -/
def askV (n : Nat) (p : Nat → Bool) : Nat → Nat → Nat → Nat
  | 0, _, _ => 0
  | k+1, a, i => if settl (2 ^ n) p a i then 0 else (lb a (n + 1) (fun x => 1 + max (askV n p k (ad a x) i) (askV n p k (ad a x) (ad i x))) n).1
def askN (n : Nat) (p : Nat → Bool) (a i : Nat) : Nat := askV n p (un n a) a i
def valN (n : Nat) (p : Nat → Bool) (a i x : Nat) : Nat := 1 + max (askN n p (ad a x) i) (askN n p (ad a x) (ad i x))
theorem un_ad_aux (a x : Nat) (hx : a.testBit x = false) : ∀ n, un n a = un n (ad a x) + if x < n then 1 else 0 := by
  intro n
  induction n with
  | zero => simp [un]
  | succ n ih =>
    unfold un at *
    rw [List.range_succ, List.countP_append, List.countP_append, ih]
    simp only [List.countP_cons, List.countP_nil]
    rw [ad_bit]
    by_cases e : x = n
    · subst e
      simp [hx]
    · by_cases h : x < n
      · have h2 : x < n + 1 := by omega
        simp [e, h, h2]
        omega
      · have h2 : ¬ x < n + 1 := by omega
        simp [e, h, h2]
theorem un_ad {n a x : Nat} (hx : x < n) (h : a.testBit x = false) : un n a = un n (ad a x) + 1 := by
  rw [un_ad_aux a x h n, if_pos hx]
theorem un_zero {n a : Nat} (h : un n a = 0) {x : Nat} (hx : x < n) : a.testBit x = true := by
  cases e : a.testBit x
  · have := un_ad hx e; omega
  · rfl
theorem un_le (n a : Nat) : un n a ≤ n := by
  unfold un
  exact Nat.le_trans List.countP_le_length (by simp)
theorem lb_congr {a s : Nat} {v w : Nat → Nat} : ∀ {n : Nat}, (∀ x, x < n → a.testBit x = false → v x = w x) → lb a s v n = lb a s w n := by
  intro n
  induction n with
  | zero => intro _; rfl
  | succ n ih =>
    intro h
    simp only [lb]
    rw [ih fun x hx => h x (by omega)]
    cases e : a.testBit n
    · rw [h n (by omega) e]
    · simp
/-- Does a view tell of sets below 2^n? -/
structure View (n a i : Nat) : Prop where
  lt : a < 2 ^ n
  sub : Sb i a
theorem ad_lt2 {n a x : Nat} (ha : a < 2 ^ n) (hx : x < n) : ad a x < 2 ^ n := or_lt ha hx
theorem View.out {n a i x : Nat} (h : View n a i) (hx : x < n) : View n (ad a x) i :=
  ⟨ad_lt2 h.lt hx, fun y hy => by rw [ad_bit, h.sub y hy]; rfl⟩
theorem View.inn {n a i x : Nat} (h : View n a i) (hx : x < n) : View n (ad a x) (ad i x) :=
  ⟨ad_lt2 h.lt hx, fun y hy => by
    rw [ad_bit] at hy ⊢
    rcases orE hy with g | g
    · rw [h.sub y g]; rfl
    · rw [g]; simp⟩
theorem View.zero (n : Nat) : View n 0 0 := ⟨Nat.two_pow_pos n, fun y hy => by simp at hy⟩
theorem View.ilt {n a i : Nat} (h : View n a i) : i < 2 ^ n := lt_of_bits fun y hy => bit_lt h.lt (h.sub y hy)
/-- A view with all elements asked is settled. -/
theorem settl_all {n a i : Nat} (h : un n a = 0) (p : Nat → Bool) : settl (2 ^ n) p a i = true := by
  have key : ∀ s, s < 2 ^ n → agr a i s = true → s = i := by
    intro s hs hg
    have e : s &&& a = i := by simpa [agr] using hg
    rw [← e]
    apply bits_ext
    intro y
    rw [Nat.testBit_and]
    cases hy : s.testBit y
    · rfl
    · rw [un_zero h (bit_lt hs hy)]; rfl
  unfold settl
  cases hp : p i
  · have : ((List.range (2 ^ n)).any fun s => agr a i s && p s) = false := by
      rw [List.any_eq_false]
      intro s hs hc
      obtain ⟨h1, h2⟩ := andE hc
      rw [key s (List.mem_range.1 hs) h1, hp] at h2
      cases h2
    rw [this]; rfl
  · have : ((List.range (2 ^ n)).all fun s => !agr a i s || p s) = true := by
      rw [List.all_eq_true]
      intro s hs
      cases hg : agr a i s
      · rfl
      · rw [key s (List.mem_range.1 hs) hg, hp]; rfl
    rw [this]; simp
/-- What ask reckons. -/
theorem askN_eq (n : Nat) (p : Nat → Bool) (a i : Nat) : askN n p a i = if settl (2 ^ n) p a i then 0 else (lb a (n + 1) (valN n p a i) n).1 := by
  cases hk : un n a with
  | zero => rw [settl_all hk p]; unfold askN; rw [hk]; rfl
  | succ k =>
    have h0 : askN n p a i = askV n p (k + 1) a i := by unfold askN; rw [hk]
    rw [h0]
    simp only [askV]
    split
    · rfl
    · congr 1
      apply lb_congr
      intro x hx ha
      have e : un n (ad a x) = k := by have := un_ad hx ha; omega
      unfold valN askN
      rw [e]
theorem lb_le {a s : Nat} {v : Nat → Nat} : ∀ {n x : Nat}, x < n → a.testBit x = false → (lb a s v n).1 ≤ v x := by
  intro n
  induction n with
  | zero => intro x h; omega
  | succ n ih =>
    intro x h ha
    simp only [lb]
    by_cases e : x = n
    · subst e
      rw [ha]
      simp only [Bool.false_eq_true, if_false]
      split
      · exact Nat.le_refl _
      · omega
    · have := ih (show x < n by omega) ha
      split
      · exact this
      · split
        · simp only; omega
        · exact this
theorem lb_some {a s : Nat} {v : Nat → Nat} : ∀ n, lb a s v n = (s, none) ∨ ∃ x, x < n ∧ a.testBit x = false ∧ lb a s v n = (v x, some x) := by
  intro n
  induction n with
  | zero => left; rfl
  | succ n ih =>
    simp only [lb]
    cases e : a.testBit n
    · simp only [Bool.false_eq_true, if_false]
      split
      · exact .inr ⟨n, by omega, e, rfl⟩
      · rcases ih with h | ⟨x, hx, h1, h2⟩
        · exact .inl h
        · exact .inr ⟨x, by omega, h1, h2⟩
    · simp only [if_true]
      rcases ih with h | ⟨x, hx, h1, h2⟩
      · exact .inl h
      · exact .inr ⟨x, by omega, h1, h2⟩
theorem askN_le (n : Nat) (p : Nat → Bool) : ∀ k a i, un n a = k → askN n p a i ≤ k := by
  intro k
  induction k with
  | zero => intro a i h; rw [askN_eq, settl_all h p]; simp
  | succ k ih =>
    intro a i h
    rw [askN_eq]
    split
    · omega
    · obtain ⟨x, hx, ha⟩ : ∃ x, x < n ∧ a.testBit x = false := by
        apply Classical.byContradiction
        intro hc
        have : un n a = 0 := by
          unfold un
          rw [List.countP_eq_zero]
          intro x hx
          cases e : a.testBit x
          · exact absurd ⟨x, List.mem_range.1 hx, e⟩ hc
          · simp
        omega
      have h1 := lb_le (s := n + 1) (v := valN n p a i) hx ha
      have e : un n (ad a x) = k := by have := un_ad hx ha; omega
      have h2 := ih (ad a x) i e
      have h3 := ih (ad a x) (ad i x) e
      have h4 : valN n p a i x ≤ k + 1 := by unfold valN; omega
      omega
theorem val_le (n : Nat) (p : Nat → Bool) {a i x : Nat} (hx : x < n) (ha : a.testBit x = false) : valN n p a i x ≤ n := by
  have e := un_ad hx ha
  have h2 := askN_le n p _ (ad a x) i rfl
  have h3 := askN_le n p _ (ad a x) (ad i x) rfl
  have := un_le n a
  unfold valN
  omega
/-- The best first question of a view that is not settled. -/
def bestN (n : Nat) (p : Nat → Bool) (a i : Nat) : Nat := (lb a (n + 1) (valN n p a i) n).2.getD 0
theorem best_is {n : Nat} {p : Nat → Bool} {a i : Nat} (h : settl (2 ^ n) p a i = false) : bestN n p a i < n ∧ a.testBit (bestN n p a i) = false ∧ askN n p a i = valN n p a i (bestN n p a i) ∧ (lb a (n + 1) (valN n p a i) n) = (askN n p a i, some (bestN n p a i)) := by
  have h0 : un n a ≠ 0 := fun e => by rw [settl_all e p] at h; cases h
  have hN := askN_eq n p a i
  rw [h] at hN
  simp only [Bool.false_eq_true, if_false] at hN
  rcases lb_some (a := a) (s := n + 1) (v := valN n p a i) n with e | ⟨x, hx, h1, h2⟩
  · have h3 := askN_le n p _ a i rfl
    have := un_le n a
    rw [e] at hN
    simp only at hN
    omega
  · unfold bestN
    rw [h2] at hN ⊢
    exact ⟨hx, h1, hN, by rw [hN]; rfl⟩
theorem ask_pos {n : Nat} {p : Nat → Bool} {a i : Nat} (h : settl (2 ^ n) p a i = false) : 0 < askN n p a i := by
  rw [(best_is h).2.2.1]; unfold valN; omega
theorem ask_zero {n : Nat} {p : Nat → Bool} {a i : Nat} : askN n p a i = 0 ↔ settl (2 ^ n) p a i = true := by
  constructor
  · intro h
    cases e : settl (2 ^ n) p a i
    · have := ask_pos e; omega
    · rfl
  · intro h; rw [askN_eq, h]; rfl
theorem askN_congr {n : Nat} {p q : Nat → Bool} (h : ∀ s, s < 2 ^ n → p s = q s) : ∀ k a i, un n a = k → askN n p a i = askN n q a i := by
  have hs : ∀ a i, settl (2 ^ n) p a i = settl (2 ^ n) q a i := by
    intro a i
    unfold settl
    have e1 : ((List.range (2 ^ n)).any fun s => agr a i s && p s) = (List.range (2 ^ n)).any fun s => agr a i s && q s := by
      rw [Bool.eq_iff_iff, List.any_eq_true, List.any_eq_true]
      constructor
      · rintro ⟨s, hs, hb⟩; exact ⟨s, hs, by rw [← h s (List.mem_range.1 hs)]; exact hb⟩
      · rintro ⟨s, hs, hb⟩; exact ⟨s, hs, by rw [h s (List.mem_range.1 hs)]; exact hb⟩
    have e2 : ((List.range (2 ^ n)).all fun s => !agr a i s || p s) = (List.range (2 ^ n)).all fun s => !agr a i s || q s := by
      rw [Bool.eq_iff_iff, List.all_eq_true, List.all_eq_true]
      constructor
      · intro hb s hs; rw [← h s (List.mem_range.1 hs)]; exact hb s hs
      · intro hb s hs; rw [h s (List.mem_range.1 hs)]; exact hb s hs
    rw [e1, e2]
  intro k
  induction k with
  | zero => intro a i hk; rw [askN_eq, askN_eq, settl_all hk p, settl_all hk q]; rfl
  | succ k ih =>
    intro a i hk
    rw [askN_eq, askN_eq, hs]
    split
    · rfl
    · congr 1
      apply lb_congr
      intro x hx ha
      have e : un n (ad a x) = k := by have := un_ad hx ha; omega
      unfold valN
      rw [ih _ _ e, ih _ _ e]
end Go.Proofs.YtjddbglbodkihaaDoor
