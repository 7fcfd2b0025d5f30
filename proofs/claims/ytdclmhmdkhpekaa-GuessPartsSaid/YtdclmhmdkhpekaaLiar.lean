/- The plain mathematics of the liar's game: sums, questions, replies, weights. No condition. -/
namespace Go.Proofs.Ytdclmhmdkhpekaa

def at0 (xs : List Int) (j : Nat) : Int := xs.getD j 0
theorem at0_get {xs : List Int} {j : Nat} {x : Int} (h : xs[j]? = some x) : at0 xs j = x := by simp [at0, h]
theorem at0_mem {xs : List Int} {j : Nat} (h : j < xs.length) : at0 xs j ∈ xs := by
  simp [at0, List.getD, h]

/-- The sum of the first k. -/
def psum (xs : List Int) : Nat → Int
  | 0 => 0
  | k+1 => psum xs k + at0 xs k
def total (xs : List Int) : Int := psum xs xs.length
theorem psum_bd {xs : List Int} {m : Int} (h : ∀ x ∈ xs, 0 ≤ x ∧ x ≤ m) : ∀ k, k ≤ xs.length → 0 ≤ psum xs k ∧ psum xs k ≤ k * m := by
  intro k
  induction k with
  | zero => intro _; simp [psum]
  | succ k ih =>
    intro hk
    have h1 := ih (by omega)
    have h2 := h _ (at0_mem (xs := xs) (j := k) (by omega))
    have e : ((k + 1 : Nat) : Int) * m = k * m + m := by rw [Int.natCast_succ, Int.add_mul, Int.one_mul]
    simp only [psum]
    omega

def stateOk (m : Int) (xs : List Int) : Bool := decide (1 ≤ xs.length) && decide (xs.length ≤ 4) && (xs.all fun x => decide (0 ≤ x) && decide (x ≤ m)) && decide (total xs ≤ m)
theorem stateOk_iff {m : Int} {xs : List Int} : stateOk m xs = true ↔ 1 ≤ xs.length ∧ xs.length ≤ 4 ∧ (∀ x ∈ xs, 0 ≤ x ∧ x ≤ m) ∧ total xs ≤ m := by
  simp only [stateOk, Bool.and_eq_true, decide_eq_true_eq, List.all_eq_true, and_assoc]

def askOk (xs q : List Int) : Bool := decide (q.length = xs.length) && ((List.range q.length).all fun j => decide (0 ≤ at0 q j) && decide (at0 q j ≤ at0 xs j))
theorem askOk_iff {xs q : List Int} : askOk xs q = true ↔ q.length = xs.length ∧ ∀ j, j < q.length → 0 ≤ at0 q j ∧ at0 q j ≤ at0 xs j := by
  simp only [askOk, Bool.and_eq_true, decide_eq_true_eq, List.all_eq_true, List.mem_range]

/-- Those that agree with the reply; the state after it. -/
def inA (yes : Bool) (xs q : List Int) (j : Nat) : Int := if yes then at0 q j else at0 xs j - at0 q j
def aft (yes : Bool) (xs q : List Int) (j : Nat) : Int := inA yes xs q j + if j = 0 then 0 else inA (!yes) xs q (j - 1)
def after (yes : Bool) (xs q : List Int) : List Int := (List.range xs.length).map (aft yes xs q)
/-- What stands in the new state after k rounds. -/
def aftk (yes : Bool) (xs q : List Int) (k j : Nat) : Int := if j < k then aft yes xs q j else if j = k ∧ k ≠ 0 then inA (!yes) xs q (k - 1) else 0
theorem aftk_zero (yes : Bool) (xs q : List Int) (j : Nat) : aftk yes xs q 0 j = 0 := by simp [aftk]
theorem aftk_here (yes : Bool) (xs q : List Int) (k : Nat) : aftk yes xs q k k + inA yes xs q k = aft yes xs q k := by
  unfold aftk aft
  by_cases h : k = 0
  · simp [h]
  · simp [h]; omega
theorem aftk_next (yes : Bool) (xs q : List Int) (k : Nat) : aftk yes xs q k (k + 1) = 0 := by
  unfold aftk
  rw [if_neg (by omega), if_neg (by omega)]

/-- In how many ways j of q can be chosen; of fewer than m; the weight. -/
def ch (q : Int) : Nat → Int
  | 0 => 1
  | j+1 => ch q j * (q - j) / (j + 1)
def cs (q : Int) : Nat → Int
  | 0 => 0
  | m+1 => cs q m + ch q m
def pwt (xs : List Int) (q : Int) : Nat → Int
  | 0 => 0
  | k+1 => pwt xs q k + at0 xs k * cs q (xs.length - k)
def weight (xs : List Int) (q : Int) : Int := pwt xs q xs.length

theorem ch0 (q : Int) : ch q 0 = 1 := rfl
theorem ch1 (q : Int) : ch q 1 = q := by simp [ch]
theorem ch2 (q : Int) : ch q 2 = q * (q - 1) / 2 := by simp [ch]
theorem ch3 (q : Int) : ch q 3 = ch q 2 * (q - 2) / 3 := by simp [ch]
theorem ch_nonneg {q : Int} (h : 0 ≤ q) : ∀ j, j ≤ 3 → 0 ≤ ch q j ∧ 0 ≤ ch q j * (q - j) := by
  have n1 : 0 ≤ q * (q - 1) := by
    by_cases e : q = 0
    · subst e; simp
    · exact Int.mul_nonneg h (by omega)
  have n2 : 0 ≤ ch q 2 := by rw [ch2]; exact Int.ediv_nonneg n1 (by omega)
  have n3 : 0 ≤ ch q 2 * (q - 2) := by
    by_cases e : q = 0
    · subst e; simp [ch2]
    · by_cases e1 : q = 1
      · subst e1; simp [ch2]
      · exact Int.mul_nonneg n2 (by omega)
  have n4 : 0 ≤ ch q 3 := by rw [ch3]; exact Int.ediv_nonneg n3 (by omega)
  have n5 : 0 ≤ ch q 3 * (q - 3) := by
    by_cases e : q = 0
    · subst e; simp [ch3, ch2]
    · by_cases e1 : q = 1
      · subst e1; simp [ch3, ch2]
      · by_cases e2 : q = 2
        · subst e2; simp [ch3]
        · exact Int.mul_nonneg n4 (by omega)
  intro j hj
  have : j = 0 ∨ j = 1 ∨ j = 2 ∨ j = 3 := by omega
  rcases this with rfl | rfl | rfl | rfl
  · rw [ch0]; simp; omega
  · rw [ch1]; exact ⟨h, by simpa using n1⟩
  · exact ⟨n2, by simpa using n3⟩
  · exact ⟨n4, by simpa using n5⟩
theorem ch_le {q : Int} (h : 0 ≤ q) (h2 : q ≤ 1000) : ∀ j, j ≤ 3 → ch q j ≤ 1000000000 ∧ ch q j * (q - j) ≤ 1000000000000 := by
  have step : ∀ x : Int, ∀ m d : Int, 0 ≤ x → x ≤ m → 0 ≤ d → x * (q - d) ≤ m * 1000 := by
    intro x m d h0 h1 hd
    by_cases e : 0 ≤ q - d
    · exact Int.mul_le_mul h1 (by omega) e (by omega)
    · have : x * (q - d) ≤ 0 := Int.mul_nonpos_of_nonneg_of_nonpos h0 (by omega)
      have : 0 ≤ m * 1000 := by omega
      omega
  have nn := ch_nonneg h
  have l1 : ch q 1 ≤ 1000 := by rw [ch1]; exact h2
  have m1 := step (ch q 1) 1000 1 (nn 1 (by omega)).1 l1 (by omega)
  have l2 : ch q 2 ≤ 1000000 := by
    rw [ch2]; rw [ch1] at m1
    exact Int.le_trans (Int.ediv_le_self _ (by have := (nn 1 (by omega)).2; rw [ch1] at this; simpa using this)) (by omega)
  have m2 := step (ch q 2) 1000000 2 (nn 2 (by omega)).1 l2 (by omega)
  have l3 : ch q 3 ≤ 1000000000 := by
    rw [ch3]
    exact Int.le_trans (Int.ediv_le_self _ (by have := (nn 2 (by omega)).2; simpa using this)) (by omega)
  have m3 := step (ch q 3) 1000000000 3 (nn 3 (by omega)).1 l3 (by omega)
  intro j hj
  have : j = 0 ∨ j = 1 ∨ j = 2 ∨ j = 3 := by omega
  rcases this with rfl | rfl | rfl | rfl
  · rw [ch0]; simp; omega
  · exact ⟨by omega, by simp only [Int.natCast_one] ; omega⟩
  · exact ⟨by omega, by simp only [Int.cast_ofNat_Int]; omega⟩
  · exact ⟨by omega, by simp only [Int.cast_ofNat_Int]; omega⟩
theorem cs_bd {q : Int} (h : 0 ≤ q) (h2 : q ≤ 1000) : ∀ m, m ≤ 4 → 0 ≤ cs q m ∧ cs q m ≤ m * 1000000000 := by
  intro m
  induction m with
  | zero => intro _; simp [cs]
  | succ m ih =>
    intro hm
    have h1 := ih (by omega)
    have h3 := (ch_nonneg h m (by omega)).1
    have h4 := (ch_le h h2 m (by omega)).1
    simp only [cs]
    omega
theorem mul_bd {x y a b : Int} (h1 : 0 ≤ x) (h2 : x ≤ a) (h3 : 0 ≤ y) (h4 : y ≤ b) : 0 ≤ x * y ∧ x * y ≤ a * b :=
  ⟨Int.mul_nonneg h1 h3, Int.mul_le_mul h2 h4 h3 (by omega)⟩
theorem pwt_bd {xs : List Int} {q : Int} (h : 0 ≤ q) (h2 : q ≤ 1000) (hx : ∀ x ∈ xs, 0 ≤ x ∧ x ≤ 1000) (hl : xs.length ≤ 4) : ∀ k, k ≤ xs.length → 0 ≤ pwt xs q k ∧ pwt xs q k ≤ k * 4000000000000 := by
  intro k
  induction k with
  | zero => intro _; simp [pwt]
  | succ k ih =>
    intro hk
    have h1 := ih (by omega)
    have h3 := cs_bd h h2 (xs.length - k) (by omega)
    have h4 := hx _ (at0_mem (xs := xs) (j := k) (by omega))
    have h5 := mul_bd h4.1 h4.2 h3.1 (show cs q (xs.length - k) ≤ 4000000000 by omega)
    simp only [pwt]
    omega
end Go.Proofs.Ytdclmhmdkhpekaa
