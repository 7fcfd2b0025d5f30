/- The plain mathematics of the pegs: digits, hits, counts, marks. No condition. -/
namespace Go.Proofs.Ytdclmhmdkhpekaa

/-- The first n digits of a code, the last hole first; and what is left of it. -/
def dig (c code : Int) : Nat → List Int
  | 0 => []
  | n+1 => code % c :: dig c (code / c) n
def quo (c code : Int) : Nat → Int
  | 0 => code
  | n+1 => quo c (code / c) n

theorem quo_succ (c code : Int) (n : Nat) : quo c code (n+1) = quo c code n / c := by
  induction n generalizing code with
  | zero => rfl
  | succ n ih => rw [quo, ih]; rfl
theorem dig_succ (c code : Int) (n : Nat) : dig c code (n+1) = dig c code n ++ [quo c code n % c] := by
  induction n generalizing code with
  | zero => rfl
  | succ n ih => rw [dig, ih]; rfl
theorem dig_length (c code : Int) (n : Nat) : (dig c code n).length = n := by
  induction n generalizing code with
  | zero => rfl
  | succ n ih => simp [dig, ih]
theorem quo_bd (c code : Int) (n : Nat) (hc : 1 ≤ c) (h : 0 ≤ code) : 0 ≤ quo c code n ∧ quo c code n ≤ code := by
  induction n generalizing code with
  | zero => exact ⟨h, Int.le_refl _⟩
  | succ n ih =>
    have h1 := ih (code / c) (Int.ediv_nonneg h (by omega))
    have h2 : code / c ≤ code := Int.ediv_le_self _ h
    exact ⟨h1.1, by have := h1.2; simp only [quo]; omega⟩
theorem dig_get (c code : Int) (n k : Nat) (hk : k < n) : (dig c code n)[k]? = some (quo c code k % c) := by
  induction n generalizing code k with
  | zero => omega
  | succ n ih =>
    cases k with
    | zero => rfl
    | succ k => simp only [dig, List.getElem?_cons_succ, quo]; exact ih _ _ (by omega)
theorem dig_take (c code : Int) (n k : Nat) (hk : k ≤ n) : (dig c code n).take k = dig c code k := by
  induction k generalizing code n with
  | zero => simp [dig]
  | succ k ih =>
    cases n with
    | zero => omega
    | succ n => simp only [dig, List.take_succ_cons]; rw [ih _ _ (by omega)]
theorem dig_bd (c code : Int) (n : Nat) (hc : 1 ≤ c) : ∀ x ∈ dig c code n, 0 ≤ x ∧ x < c := by
  induction n generalizing code with
  | zero => simp [dig]
  | succ n ih =>
    intro x hx
    simp only [dig, List.mem_cons] at hx
    rcases hx with rfl | hx
    · exact ⟨Int.emod_nonneg _ (by omega), Int.emod_lt_of_pos _ (by omega)⟩
    · exact ih _ x hx

/-- c to the power of n. -/
def pw (c : Int) : Nat → Int
  | 0 => 1
  | n+1 => pw c n * c

/-- How many of the first k holes agree; how often a colour comes. -/
def hit (x y : Int) : Int := if x = y then 1 else 0
def hits (c a b : Int) : Nat → Int
  | 0 => 0
  | n+1 => hits c a b n + hit (quo c a n % c) (quo c b n % c)
def cnt (c a v : Int) : Nat → Int
  | 0 => 0
  | n+1 => cnt c a v n + hit (quo c a n % c) v

theorem hit_bd (x y : Int) : 0 ≤ hit x y ∧ hit x y ≤ 1 := by unfold hit; split <;> omega
theorem hits_bd (c a b : Int) (n : Nat) : 0 ≤ hits c a b n ∧ hits c a b n ≤ n := by
  induction n with
  | zero => simp [hits]
  | succ n ih => have := hit_bd (quo c a n % c) (quo c b n % c); simp only [hits]; omega
theorem cnt_bd (c a v : Int) (n : Nat) : 0 ≤ cnt c a v n ∧ cnt c a v n ≤ n := by
  induction n with
  | zero => simp [cnt]
  | succ n ih => have := hit_bd (quo c a n % c) v; simp only [cnt]; omega

theorem hits_step {c a b : Int} {k : Nat} {x y : Int} (hx : quo c a k % c = x) (hy : quo c b k % c = y) : hits c a b (k + 1) = hits c a b k + if x = y then 1 else 0 := by
  simp only [hits, hit, hx, hy]
theorem cnt_step {c a : Int} {k j v : Nat} (hx : quo c a k % c = (j : Int)) : cnt c a v (k + 1) = if v = j then cnt c a j k + 1 else cnt c a v k := by
  simp only [cnt, hit, hx]
  by_cases e : v = j
  · subst e; simp
  · rw [if_neg (by omega), if_neg e]; omega

/-- The pairs of the same colour, over the first m colours. -/
def pairs (c a b : Int) (n : Nat) : Nat → Int
  | 0 => 0
  | m+1 => pairs c a b n m + min (cnt c a m n) (cnt c b m n)
theorem pairs_bd (c a b : Int) (n m : Nat) : 0 ≤ pairs c a b n m ∧ pairs c a b n m ≤ m * n := by
  induction m with
  | zero => simp [pairs]
  | succ m ih =>
    have h1 := cnt_bd c a m n
    have h2 := cnt_bd c b m n
    simp only [pairs]
    have e : ((m + 1 : Nat) : Int) * n = m * n + n := by rw [Int.natCast_succ, Int.add_mul, Int.one_mul]
    rw [e]
    omega
/-- The marks of a guess for a code, in a game of n holes and c colours. -/
def black (c a b : Int) (n : Nat) : Int := hits c a b n
def white (c a b : Int) (n : Nat) : Int := pairs c a b n 6 - hits c a b n
end Go.Proofs.Ytdclmhmdkhpekaa
