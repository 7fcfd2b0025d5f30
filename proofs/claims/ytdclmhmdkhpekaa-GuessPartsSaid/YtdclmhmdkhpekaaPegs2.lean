/- Plain laws of marks: symmetric; bounded by the holes; all black just for the same code; never all but one black and one white. Conditions: at least one colour and at most six, codes of the game. -/
import Derived.Test.YtdclmhmdkhpekaaPegs
namespace Go.Proofs.Ytdclmhmdkhpekaa

theorem hit_comm (x y : Int) : hit x y = hit y x := by unfold hit; split <;> split <;> omega
theorem hits_comm (c a b : Int) (n : Nat) : hits c a b n = hits c b a n := by
  induction n with
  | zero => rfl
  | succ n ih => simp only [hits, ih, hit_comm]
theorem pairs_comm (c a b : Int) (n m : Nat) : pairs c a b n m = pairs c b a n m := by
  induction m with
  | zero => rfl
  | succ m ih => simp only [pairs, ih, Int.min_comm]
theorem black_comm (c a b : Int) (n : Nat) : black c a b n = black c b a n := hits_comm c a b n
theorem white_comm (c a b : Int) (n : Nat) : white c a b n = white c b a n := by simp only [white, pairs_comm c a b, hits_comm c a b]

theorem pairs6 (c a b : Int) (n : Nat) : pairs c a b n 6 = min (cnt c a 0 n) (cnt c b 0 n) + min (cnt c a 1 n) (cnt c b 1 n) + min (cnt c a 2 n) (cnt c b 2 n) + min (cnt c a 3 n) (cnt c b 3 n) + min (cnt c a 4 n) (cnt c b 4 n) + min (cnt c a 5 n) (cnt c b 5 n) := by
  simp [pairs]

theorem digit_cases {c x : Int} (hc1 : 1 ≤ c) (hc2 : c ≤ 6) : x % c = 0 ∨ x % c = 1 ∨ x % c = 2 ∨ x % c = 3 ∨ x % c = 4 ∨ x % c = 5 := by
  have := Int.emod_nonneg x (show c ≠ 0 by omega)
  have := Int.emod_lt_of_pos x (show 0 < c by omega)
  omega

theorem cnt_sum (c a : Int) (hc1 : 1 ≤ c) (hc2 : c ≤ 6) (n : Nat) : cnt c a 0 n + cnt c a 1 n + cnt c a 2 n + cnt c a 3 n + cnt c a 4 n + cnt c a 5 n = n := by
  induction n with
  | zero => simp [cnt]
  | succ n ih =>
    simp only [cnt, hit]
    rcases digit_cases (x := quo c a n) hc1 hc2 with h | h | h | h | h | h <;> simp [h] <;> omega

theorem hits_le_pairs (c a b : Int) (hc1 : 1 ≤ c) (hc2 : c ≤ 6) (n : Nat) : hits c a b n ≤ pairs c a b n 6 := by
  rw [pairs6]
  induction n with
  | zero => simp [hits, cnt]
  | succ n ih =>
    simp only [cnt, hit, hits]
    by_cases e : quo c a n % c = quo c b n % c
    · rw [e]
      rcases digit_cases (x := quo c b n) hc1 hc2 with h | h | h | h | h | h <;> simp [h] <;> omega
    · rw [if_neg e]
      have key : ∀ (p : Prop) [Decidable p], (0 : Int) ≤ if p then 1 else 0 := fun p _ => by split <;> omega
      have k0 := key (quo c a n % c = 0); have k1 := key (quo c a n % c = 1); have k2 := key (quo c a n % c = 2); have k3 := key (quo c a n % c = 3); have k4 := key (quo c a n % c = 4); have k5 := key (quo c a n % c = 5)
      have l0 := key (quo c b n % c = 0); have l1 := key (quo c b n % c = 1); have l2 := key (quo c b n % c = 2); have l3 := key (quo c b n % c = 3); have l4 := key (quo c b n % c = 4); have l5 := key (quo c b n % c = 5)
      generalize (if quo c a n % c = 0 then (1 : Int) else 0) = u0 at *
      generalize (if quo c a n % c = 1 then (1 : Int) else 0) = u1 at *
      generalize (if quo c a n % c = 2 then (1 : Int) else 0) = u2 at *
      generalize (if quo c a n % c = 3 then (1 : Int) else 0) = u3 at *
      generalize (if quo c a n % c = 4 then (1 : Int) else 0) = u4 at *
      generalize (if quo c a n % c = 5 then (1 : Int) else 0) = u5 at *
      generalize (if quo c b n % c = 0 then (1 : Int) else 0) = v0 at *
      generalize (if quo c b n % c = 1 then (1 : Int) else 0) = v1 at *
      generalize (if quo c b n % c = 2 then (1 : Int) else 0) = v2 at *
      generalize (if quo c b n % c = 3 then (1 : Int) else 0) = v3 at *
      generalize (if quo c b n % c = 4 then (1 : Int) else 0) = v4 at *
      generalize (if quo c b n % c = 5 then (1 : Int) else 0) = v5 at *
      have m : ∀ x y u v : Int, 0 ≤ u → 0 ≤ v → min x y ≤ min (x + u) (y + v) := fun x y u v _ _ => by omega
      have := m (cnt c a 0 n) (cnt c b 0 n) u0 v0 k0 l0
      have := m (cnt c a 1 n) (cnt c b 1 n) u1 v1 k1 l1
      have := m (cnt c a 2 n) (cnt c b 2 n) u2 v2 k2 l2
      have := m (cnt c a 3 n) (cnt c b 3 n) u3 v3 k3 l3
      have := m (cnt c a 4 n) (cnt c b 4 n) u4 v4 k4 l4
      have := m (cnt c a 5 n) (cnt c b 5 n) u5 v5 k5 l5
      omega

theorem pairs_le (c a b : Int) (hc1 : 1 ≤ c) (hc2 : c ≤ 6) (n : Nat) : pairs c a b n 6 ≤ n := by
  have h := cnt_sum c a hc1 hc2 n
  have m : ∀ x y : Int, min x y ≤ x := fun x y => by omega
  have := m (cnt c a 0 n) (cnt c b 0 n)
  have := m (cnt c a 1 n) (cnt c b 1 n)
  have := m (cnt c a 2 n) (cnt c b 2 n)
  have := m (cnt c a 3 n) (cnt c b 3 n)
  have := m (cnt c a 4 n) (cnt c b 4 n)
  have := m (cnt c a 5 n) (cnt c b 5 n)
  rw [pairs6]
  omega

/-- All holes agree: the digits are the same. -/
theorem hits_all {c a b : Int} {n : Nat} (h : hits c a b n = n) : ∀ k, k < n → quo c a k % c = quo c b k % c := by
  induction n with
  | zero => intro k hk; omega
  | succ n ih =>
    have h1 := hits_bd c a b n
    have h2 := hit_bd (quo c a n % c) (quo c b n % c)
    simp only [hits] at h
    intro k hk
    by_cases e : k = n
    · subst e
      have h3 : hit (quo c a k % c) (quo c b k % c) = 1 := by omega
      unfold hit at h3
      split at h3
      · assumption
      · omega
    · exact ih (by omega) k (by omega)
theorem cnt_same {c a b : Int} {n : Nat} (h : ∀ k, k < n → quo c a k % c = quo c b k % c) (v : Int) : cnt c a v n = cnt c b v n := by
  induction n with
  | zero => rfl
  | succ n ih => simp only [cnt]; rw [ih fun k hk => h k (by omega), h n (by omega)]
/-- All but one hole agree: some colour comes once more in the one. -/
theorem hits_but {c a b : Int} {n : Nat} (h : hits c a b n = n - 1) (hn : 1 ≤ n) : ∃ k, k < n ∧ cnt c a (quo c a k % c) n = cnt c b (quo c a k % c) n + 1 := by
  induction n with
  | zero => omega
  | succ n ih =>
    have h1 := hits_bd c a b n
    simp only [hits] at h
    by_cases e : quo c a n % c = quo c b n % c
    · have h3 : hit (quo c a n % c) (quo c b n % c) = 1 := by unfold hit; rw [if_pos e]
      obtain ⟨k, hk, hc⟩ := ih (by omega) (by omega)
      refine ⟨k, by omega, ?_⟩
      simp only [cnt, hc, e]
      omega
    · have h3 : hit (quo c a n % c) (quo c b n % c) = 0 := by unfold hit; rw [if_neg e]
      have h4 := cnt_same (hits_all (show hits c a b n = n by omega)) (quo c a n % c)
      refine ⟨n, by omega, ?_⟩
      simp only [cnt, h4, hit, if_pos]
      rw [if_neg (Ne.symm e)]
      omega
theorem never_one {c a b : Int} {n : Nat} (hc1 : 1 ≤ c) (hc2 : c ≤ 6) (hn : 1 ≤ n) (hb : black c a b n = n - 1) (hw : white c a b n = 1) : False := by
  obtain ⟨k, _, hk⟩ := hits_but hb hn
  unfold black at hb
  unfold white at hw
  have hp := pairs6 c a b n
  have ha := cnt_sum c a hc1 hc2 n
  have m : ∀ x y : Int, min x y ≤ x := fun x y => by omega
  have m' : ∀ x y : Int, min x y ≤ y := fun x y => by omega
  have z0 := m (cnt c a 0 n) (cnt c b 0 n); have y0 := m' (cnt c a 0 n) (cnt c b 0 n)
  have z1 := m (cnt c a 1 n) (cnt c b 1 n); have y1 := m' (cnt c a 1 n) (cnt c b 1 n)
  have z2 := m (cnt c a 2 n) (cnt c b 2 n); have y2 := m' (cnt c a 2 n) (cnt c b 2 n)
  have z3 := m (cnt c a 3 n) (cnt c b 3 n); have y3 := m' (cnt c a 3 n) (cnt c b 3 n)
  have z4 := m (cnt c a 4 n) (cnt c b 4 n); have y4 := m' (cnt c a 4 n) (cnt c b 4 n)
  have z5 := m (cnt c a 5 n) (cnt c b 5 n); have y5 := m' (cnt c a 5 n) (cnt c b 5 n)
  rcases digit_cases (x := quo c a k) hc1 hc2 with h | h | h | h | h | h <;> rw [h] at hk <;> omega

theorem quo_zero {c : Int} (hc1 : 1 ≤ c) : ∀ (n : Nat) (a : Int), 0 ≤ a → a < pw c n → quo c a n = 0 := by
  intro n
  induction n with
  | zero => intro a h0 h1; simp only [pw] at h1; simp only [quo]; omega
  | succ n ih =>
    intro a h0 h1
    simp only [quo]
    exact ih _ (Int.ediv_nonneg h0 (by omega)) (Int.ediv_lt_of_lt_mul (by omega) h1)
theorem quo_same {c a b : Int} : ∀ (n : Nat), (∀ k, k < n → quo c a k % c = quo c b k % c) → quo c a n = quo c b n → a = b := by
  intro n
  induction n with
  | zero => intro _ h; exact h
  | succ n ih =>
    intro h1 h2
    refine ih (fun k hk => h1 k (by omega)) ?_
    have e1 := Int.mul_ediv_add_emod (quo c a n) c
    have e2 := Int.mul_ediv_add_emod (quo c b n) c
    rw [quo_succ, quo_succ] at h2
    rw [← e1, ← e2, h1 n (by omega), h2]
theorem hits_self (c a : Int) (n : Nat) : hits c a a n = n := by
  induction n with
  | zero => rfl
  | succ n ih => simp [hits, hit, ih]
theorem black_all {c a b : Int} {n : Nat} (hc1 : 1 ≤ c) (ha : 0 ≤ a ∧ a < pw c n) (hb : 0 ≤ b ∧ b < pw c n) : black c a b n = n ↔ a = b := by
  constructor
  · intro h
    exact quo_same n (hits_all h) (by rw [quo_zero hc1 n a ha.1 ha.2, quo_zero hc1 n b hb.1 hb.2])
  · rintro rfl
    exact hits_self c a n
end Go.Proofs.Ytdclmhmdkhpekaa
