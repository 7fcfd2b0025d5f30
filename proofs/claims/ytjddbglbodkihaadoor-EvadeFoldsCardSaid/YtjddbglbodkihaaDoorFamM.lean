/- Plain laws of families of sets: the family of a list and the list of a family; the least family with some sets. No condition. -/
import Derived.Test.YtjddbglbodkihaaDoorHom
import Derived.Test.YtjddbglbodkihaaDoorBits
namespace Go.Proofs.YtjddbglbodkihaaDoor

theorem orE {a b : Bool} (h : (a || b) = true) : a = true ∨ b = true := by cases a <;> simp_all
theorem andE {a b : Bool} (h : (a && b) = true) : a = true ∧ b = true := by cases a <;> simp_all
/-- A list of sets as a number: a bit for each set. -/
def setF (l : List Int) : Nat := l.foldl (fun s x => s ||| (1 <<< x.toNat)) 0
theorem setF_snoc (l : List Int) (x : Int) : setF (l ++ [x]) = setF l ||| (1 <<< x.toNat) := by simp [setF, List.foldl_append]
theorem setF_from (l : List Int) : ∀ s i, (l.foldl (fun s x => s ||| (1 <<< x.toNat)) s).testBit i = (s.testBit i || l.any fun x => x.toNat == i) := by
  induction l with
  | nil => intro s i; simp
  | cons x l ih =>
    intro s i
    simp only [List.foldl_cons, List.any_cons]
    rw [ih, Nat.testBit_or, Nat.one_shiftLeft, Nat.testBit_two_pow, Bool.or_assoc]
    rfl
theorem setF_bit (l : List Int) (i : Nat) : (setF l).testBit i = l.any fun x => x.toNat == i := by
  unfold setF; rw [setF_from]; simp
theorem lt_of_bits {a k : Nat} (h : ∀ i, a.testBit i = true → i < k) : a < 2 ^ k := by
  apply Nat.lt_pow_two_of_testBit
  intro i hi
  cases e : a.testBit i
  · rfl
  · have := h i e; omega
theorem setF_lt {l : List Int} {k : Nat} (h : ∀ x ∈ l, 0 ≤ x ∧ x < k) : setF l < 2 ^ k := by
  apply lt_of_bits
  intro i hi
  rw [setF_bit, List.any_eq_true] at hi
  obtain ⟨x, hx, e⟩ := hi
  have := h x hx
  simp at e
  omega
theorem setF_mem {l : List Int} (h : ∀ x ∈ l, 0 ≤ x) (i : Nat) : (setF l).testBit i = true ↔ (i : Int) ∈ l := by
  rw [setF_bit, List.any_eq_true]
  constructor
  · rintro ⟨x, hx, e⟩
    have := h x hx
    simp at e
    have e2 : (i : Int) = x := by omega
    rw [e2]; exact hx
  · intro hx
    exact ⟨_, hx, by simp⟩
theorem bit_lt {a k i : Nat} (h : a < 2 ^ k) (hi : a.testBit i = true) : i < k := by
  rcases Nat.lt_or_ge i k with g | g
  · exact g
  · have := Nat.testBit_lt_two_pow (Nat.lt_of_lt_of_le h (Nat.pow_le_pow_right (by decide) g))
    rw [this] at hi; cases hi
theorem bits_ext {a b : Nat} (h : ∀ i, a.testBit i = b.testBit i) : a = b := Nat.eq_of_testBit_eq h

/-- The sets below N of which p is true, rising. -/
def famL (N : Nat) (p : Nat → Bool) : List Int := ((List.range N).filter p).map fun (i : Nat) => (i : Int)
theorem mem_famL {N : Nat} {p : Nat → Bool} {x : Int} : x ∈ famL N p ↔ 0 ≤ x ∧ x < N ∧ p x.toNat = true := by
  unfold famL
  simp only [List.mem_map, List.mem_filter, List.mem_range]
  constructor
  · rintro ⟨i, ⟨h1, h2⟩, rfl⟩; exact ⟨by omega, by omega, by simpa using h2⟩
  · rintro ⟨h1, h2, h3⟩; exact ⟨x.toNat, ⟨by omega, h3⟩, by omega⟩
theorem famL_asc (N : Nat) (p : Nat → Bool) : (famL N p).Pairwise (· < ·) := by
  unfold famL
  rw [List.pairwise_map]
  exact (List.pairwise_lt_range.filter _).imp fun h => by omega
theorem famL_succ (N : Nat) (p : Nat → Bool) : famL (N + 1) p = famL N p ++ if p N = true then [(N : Int)] else [] := by
  unfold famL
  rw [List.range_succ, List.filter_append, List.map_append]
  congr 1
  cases h : p N <;> simp [h]
theorem famL_len (N : Nat) (p : Nat → Bool) : (famL N p).length ≤ N := by
  unfold famL
  rw [List.length_map]
  exact Nat.le_trans (List.length_filter_le _ _) (by simp)
theorem famL_congr {N : Nat} {p q : Nat → Bool} (h : ∀ i, i < N → p i = q i) : famL N p = famL N q := by
  unfold famL
  rw [List.filter_congr fun i hi => h i (List.mem_range.1 hi)]
theorem famL_wide {N M : Nat} (h : N ≤ M) {p : Nat → Bool} (hp : ∀ i, p i = true → i < N) : famL M p = famL N p := by
  induction h with
  | refl => rfl
  | step h ih =>
    rw [famL_succ, ih, if_neg, List.append_nil]
    intro hc
    have := hp _ hc
    have := Nat.le_of_succ_le_succ (Nat.succ_le_succ h)
    omega
theorem rising_eq : ∀ (xs ys : List Int), xs.Pairwise (· < ·) → ys.Pairwise (· < ·) → (∀ d, d ∈ xs ↔ d ∈ ys) → xs = ys := by
  intro xs
  induction xs with
  | nil =>
    intro ys _ _ h
    cases ys with
    | nil => rfl
    | cons d ys => exact absurd ((h d).2 (by simp)) (by simp)
  | cons c xs ih =>
    intro ys hx hy h
    cases ys with
    | nil => exact absurd ((h c).1 (by simp)) (by simp)
    | cons d ys =>
      obtain ⟨x1, x2⟩ := List.pairwise_cons.1 hx
      obtain ⟨y1, y2⟩ := List.pairwise_cons.1 hy
      have e : c = d := by
        have a := (h c).1 (by simp)
        have b := (h d).2 (by simp)
        rcases List.mem_cons.1 a with a | a
        · exact a
        · rcases List.mem_cons.1 b with b | b
          · exact b.symm
          · have := y1 c a; have := x1 d b; omega
      subst e
      congr 1
      apply ih ys x2 y2
      intro u
      constructor
      · intro hu
        rcases List.mem_cons.1 ((h u).1 (by simp [hu])) with a | a
        · have := x1 u hu; omega
        · exact a
      · intro hu
        rcases List.mem_cons.1 ((h u).2 (by simp [hu])) with a | a
        · have := y1 u hu; omega
        · exact a
theorem famL_setF {l : List Int} {N : Nat} (hb : ∀ x ∈ l, 0 ≤ x ∧ x < N) (ha : l.Pairwise (· < ·)) : famL N (setF l).testBit = l := by
  refine rising_eq _ _ (famL_asc _ _) ha fun d => ?_
  rw [mem_famL]
  constructor
  · rintro ⟨h1, _, h3⟩
    have := (setF_mem (fun x hx => (hb x hx).1) d.toNat).1 h3
    have e : ((d.toNat : Nat) : Int) = d := by omega
    rwa [e] at this
  · intro hd
    have := hb d hd
    have e : ((d.toNat : Nat) : Int) = d := by omega
    exact ⟨this.1, this.2, (setF_mem (fun x hx => (hb x hx).1) d.toNat).2 (by rw [e]; exact hd)⟩

/-- A family of n elements. -/
structure Fam (n : Int) (l : List Int) : Prop where
  n1 : 1 ≤ n
  n6 : n ≤ 6
  bd : ∀ s ∈ l, 0 ≤ s ∧ s < p2 n
  asc : l.Pairwise (· < ·)
  down : ∀ s ∈ l, ∀ x : Nat, (x : Int) < n → ((rm s.toNat x : Nat) : Int) ∈ l
/-- Whose sets lie with a set with one element less. -/
def DownN (n F : Nat) : Prop := ∀ s x, x < n → F.testBit s = true → F.testBit (rm s x) = true
theorem rm_lt {s x : Nat} (h : s.testBit x = true) : rm s x < s := by
  have e := ad_rm h
  have hx : (rm s x).testBit x = false := rm_not s x
  unfold ad at e
  have h2 : rm s x ≤ rm s x ||| (1 <<< x) := Nat.left_le_or
  rcases Nat.lt_or_ge (rm s x) s with g | g
  · exact g
  · have : rm s x = s := by omega
    rw [this] at hx; rw [hx] at h; cases h
theorem rm_le (s x : Nat) : rm s x ≤ s := by
  cases h : s.testBit x
  · have : rm s x = s := by
      apply bits_ext
      intro i
      rw [rm_bit]
      by_cases e : x = i
      · subst e; simp [h]
      · simp [e]
    omega
  · exact Nat.le_of_lt (rm_lt h)
theorem rm_same {s x : Nat} (h : s.testBit x = false) : rm s x = s := by
  apply bits_ext
  intro i
  rw [rm_bit]
  by_cases e : x = i
  · subst e; simp [h]
  · simp [e]
/-- Part of another set. -/
def Sb (u t : Nat) : Prop := ∀ y, u.testBit y = true → t.testBit y = true
theorem down_part {n F : Nat} (hd : DownN n F) : ∀ t u, t < 2 ^ n → Sb u t → F.testBit t = true → F.testBit u = true := by
  intro t
  induction t using Nat.strongRecOn with
  | _ t ih =>
    intro u ht hu hF
    by_cases e : u = t
    · subst e; exact hF
    · obtain ⟨y, h1, h2⟩ : ∃ y, t.testBit y = true ∧ u.testBit y = false := by
        apply Classical.byContradiction
        intro hc
        apply e
        apply bits_ext
        intro i
        cases h1 : t.testBit i
        · cases h2 : u.testBit i
          · rfl
          · have := hu i h2; rw [h1] at this; cases this
        · cases h2 : u.testBit i
          · exact absurd ⟨i, h1, h2⟩ hc
          · rfl
      refine ih (rm t y) (rm_lt h1) u (Nat.lt_of_le_of_lt (rm_le t y) ht) (fun i hi => ?_) (hd t y (bit_lt ht h1) hF)
      rw [rm_bit, hu i hi]
      have : y ≠ i := by rintro rfl; rw [h2] at hi; cases hi
      simp [this]
/-- The least family with the sets of F. -/
structure Clo (n F G : Nat) : Prop where
  lt : G < 2 ^ (2 ^ n)
  up : ∀ u, F.testBit u = true → G.testBit u = true
  lo : ∀ u, G.testBit u = true → ∃ t, F.testBit t = true ∧ Sb u t
  down : DownN n G
theorem Clo.mem {n F G : Nat} (h : Clo n F G) (u : Nat) : G.testBit u = true ↔ ∃ t, F.testBit t = true ∧ Sb u t :=
  ⟨h.lo u, fun ⟨t, ht, hs⟩ => down_part h.down t u (bit_lt h.lt (h.up t ht)) hs (h.up t ht)⟩
theorem Clo.one {n F G H : Nat} (h : Clo n F G) (k : Clo n F H) : G = H := by
  apply bits_ext
  intro u
  rw [Bool.eq_iff_iff, h.mem, k.mem]
theorem Clo.same {n F G : Nat} (h : Clo n F G) (hF : F < 2 ^ (2 ^ n)) : G = F ↔ DownN n F := by
  constructor
  · rintro rfl; exact h.down
  · intro hd
    exact h.one ⟨hF, fun _ h => h, fun u hu => ⟨u, hu, fun _ h => h⟩, hd⟩
/-- Where the loops of closed stand: the sets above s are done, and the elements below x of s. -/
structure Clo2 (n F G s x : Nat) : Prop where
  lt : G < 2 ^ (2 ^ n)
  up : ∀ u, F.testBit u = true → G.testBit u = true
  lo : ∀ u, G.testBit u = true → ∃ t, F.testBit t = true ∧ Sb u t
  above : ∀ t, s < t → G.testBit t = true → ∀ y, y < n → G.testBit (rm t y) = true
  here : G.testBit s = true → ∀ y, y < x → G.testBit (rm s y) = true
theorem clo_start {n F : Nat} (hF : F < 2 ^ (2 ^ n)) : Clo2 n F F (2 ^ n - 1) 0 :=
  ⟨hF, fun _ h => h, fun u hu => ⟨u, hu, fun _ h => h⟩, fun t ht hb => by have := bit_lt hF hb; omega, fun _ y h => by omega⟩
theorem Clo2.keep {n F G s x : Nat} (h : Clo2 n F G s x) (hn : G.testBit s = false ∨ s.testBit x = false) : Clo2 n F G s (x + 1) :=
  ⟨h.lt, h.up, h.lo, h.above, fun hs y hy => by
    by_cases e : y = x
    · subst e
      rcases hn with hn | hn
      · rw [hn] at hs; cases hs
      · rw [rm_same hn]; exact hs
    · exact h.here hs y (by omega)⟩
theorem or_bit1 (p t u : Nat) : (p ||| (1 <<< t)).testBit u = (p.testBit u || decide (t = u)) := ad_bit p t u
theorem or_lt {p t k : Nat} (hp : p < 2 ^ k) (ht : t < k) : p ||| (1 <<< t) < 2 ^ k := by
  apply lt_of_bits
  intro i hi
  rw [or_bit1] at hi
  rcases orE hi with h | h
  · exact bit_lt hp h
  · have := of_decide_eq_true h; omega
theorem Clo2.step {n F G s x : Nat} (h : Clo2 n F G s x) (h1 : G.testBit s = true) (h2 : s.testBit x = true) : Clo2 n F (G ||| (1 <<< rm s x)) s (x + 1) := by
  have hl := rm_lt h2
  have hs := bit_lt h.lt h1
  refine ⟨or_lt h.lt (by omega), fun u hu => by rw [or_bit1, h.up u hu]; rfl, fun u hu => ?_, fun t ht hb y hy => ?_, fun _ y hy => ?_⟩
  · rw [or_bit1] at hu
    rcases orE hu with g | g
    · exact h.lo u g
    · have e := of_decide_eq_true g
      obtain ⟨t, ht, hsb⟩ := h.lo s h1
      refine ⟨t, ht, fun y hy => hsb y ?_⟩
      rw [← e, rm_bit] at hy
      exact (andE hy).1
  · rw [or_bit1] at hb
    rcases orE hb with g | g
    · rw [or_bit1, h.above t ht g y hy]; rfl
    · have := of_decide_eq_true g; omega
  · rw [or_bit1]
    by_cases e : y = x
    · subst e; simp
    · rw [h.here h1 y (by omega)]; rfl
theorem Clo2.next {n F G s : Nat} (h : Clo2 n F G (s + 1) n) : Clo2 n F G s 0 :=
  ⟨h.lt, h.up, h.lo, fun t ht hb y hy => by
    by_cases e : t = s + 1
    · subst e; exact h.here hb y hy
    · exact h.above t (by omega) hb y hy, fun _ y hy => by omega⟩
theorem Clo2.done {n F G : Nat} (h : Clo2 n F G 0 0) : Clo n F G :=
  ⟨h.lt, h.up, h.lo, fun s x hx hs => by
    rcases Nat.eq_zero_or_pos s with e | e
    · subst e
      have : rm 0 x = 0 := by simp [rm]
      rw [this]; exact hs
    · exact h.above s e hs x hx⟩
/-- What read asks. -/
theorem fam_read {n : Nat} {l : List Int} (hn1 : 1 ≤ n) (hn6 : n ≤ 6) (hb : ∀ s ∈ l, 0 ≤ s ∧ s < (2 ^ n : Nat)) (G : Nat) (hG : Clo n (setF l) G) :
    Fam n l ↔ famL 64 (setF l).testBit = l ∧ G = setF l := by
  have h64 : 2 ^ n ≤ 64 := Nat.pow_le_pow_right (show 0 < 2 by decide) hn6
  have hlt : setF l < 2 ^ (2 ^ n) := setF_lt hb
  have hw : famL 64 (setF l).testBit = famL (2 ^ n) (setF l).testBit := famL_wide h64 fun i hi => bit_lt hlt hi
  rw [hG.same hlt]
  constructor
  · intro h
    refine ⟨by rw [hw]; exact famL_setF hb h.asc, fun s x hx hs => ?_⟩
    have h1 := (setF_mem (fun x hx => (hb x hx).1) s).1 hs
    have h2 := h.down _ h1 x (by omega)
    simp only [Int.toNat_natCast] at h2
    exact (setF_mem (fun x hx => (hb x hx).1) _).2 h2
  · rintro ⟨h1, h2⟩
    refine ⟨by omega, by omega, fun s hs => by have := hb s hs; rw [p2_nat]; omega, by rw [← h1]; exact famL_asc _ _, fun s hs x hx => ?_⟩
    have h3 := (setF_mem (fun x hx => (hb x hx).1) s.toNat).2 (by have := (hb s hs).1; rw [show ((s.toNat : Nat) : Int) = s by omega]; exact hs)
    exact (setF_mem (fun x hx => (hb x hx).1) _).1 (h2 _ _ (by omega) h3)
end Go.Proofs.YtjddbglbodkihaaDoor
