/- The plain law of turning: a class with some points turned has the same numbers. Conditions: fewer than six points, concepts within these. -/
import Derived.Test.YtpebglilphgamaaAskM
namespace Go.Proofs.Ytpebglilphgamaa

/-- A concept with some points turned. -/
def xorI (s : Nat) (c : Int) : Int := ((c.toNat ^^^ s : Nat) : Int)
theorem xorI_nat (s : Nat) (c : Int) : (xorI s c).toNat = c.toNat ^^^ s := by simp [xorI]
theorem xorI_nonneg (s : Nat) (c : Int) : 0 ≤ xorI s c := by unfold xorI; omega
theorem xorI_back {s : Nat} {c : Int} (h : 0 ≤ c) : xorI s (xorI s c) = c := by
  unfold xorI
  rw [Int.toNat_natCast, Nat.xor_assoc, Nat.xor_self, Nat.xor_zero]
  omega
theorem xorI_inj {s : Nat} {c d : Int} (hc : 0 ≤ c) (hd : 0 ≤ d) (h : xorI s c = xorI s d) : c = d := by
  rw [← xorI_back (s := s) hc, h, xorI_back hd]
theorem xorI_lt {p s : Nat} {c : Int} (hs : s < 2 ^ p) (hc : 0 ≤ c ∧ c < 2 ^ p) : 0 ≤ xorI s c ∧ xorI s c < 2 ^ p := by
  refine ⟨xorI_nonneg s c, ?_⟩
  have h2 : ((2 ^ p : Nat) : Int) = (2 : Int) ^ p := by simp
  have := Nat.xor_lt_two_pow (x := c.toNat) (y := s) (n := p) (by omega) hs
  unfold xorI
  omega
theorem xorI_bit {s : Nat} {c : Int} (hc : 0 ≤ c) (x : Nat) : bitB (xorI s c) x = (bitB c x ^^ s.testBit x) := by
  rw [bitB_nat (xorI_nonneg s c), bitB_nat hc, xorI_nat, Nat.testBit_xor]
theorem xorI_agree (s k : Nat) (c d : Int) : agree k (xorI s c) (xorI s d) = agree k c d := by
  rw [Bool.eq_iff_iff, agree_iff, agree_iff]
  simp only [xorI_nat, Nat.testBit_xor]
  constructor
  · intro h i hi
    have := h i hi
    simpa using this
  · intro h i hi
    rw [h i hi]
/-- One class is another one turned, in some order. -/
def Turned (s : Nat) (xs ys : List Int) : Prop := ys.Perm (xs.map (xorI s))
section
variable {p s : Nat} {xs ys : List Int}
theorem Turned.len (h : Turned s xs ys) : ys.length = xs.length := by have := List.Perm.length_eq h; simpa using this
theorem Turned.nil (h : Turned s xs ys) : ys = [] ↔ xs = [] := by
  have := h.len
  constructor
  · rintro rfl; exact List.eq_nil_of_length_eq_zero (by simpa using this.symm)
  · rintro rfl; exact List.eq_nil_of_length_eq_zero (by simpa using this)
theorem Turned.filter (h : Turned s xs ys) {f g : Int → Bool} (hfg : ∀ c ∈ xs, f (xorI s c) = g c) : Turned s (xs.filter g) (ys.filter f) := by
  unfold Turned at h ⊢
  have := h.filter f
  rw [List.filter_map] at this
  have e : xs.filter (f ∘ xorI s) = xs.filter g := List.filter_congr fun c hc => hfg c hc
  rw [e] at this
  exact this
theorem Turned.split (h : Turned s xs ys) (hi : InP p xs) (x : Nat) (y : Bool) : Turned s (split xs x (y ^^ s.testBit x)) (Go.Proofs.Ytpebglilphgamaa.split ys x y) :=
  h.filter fun c hc => by
    rw [xorI_bit (hi c hc).1]
    cases bitB c x <;> cases y <;> cases s.testBit x <;> rfl
theorem turned_dim : ∀ m, ∀ xs ys : List Int, xs.length = m → InP p xs → Turned s xs ys → dimL p ys = dimL p xs := by
  intro m
  induction m using Nat.strongRecOn with
  | _ m ih =>
    intro xs ys hm hi ht
    by_cases hx : xs = []
    · rw [ht.nil.2 hx, hx]
    · have hy : ys ≠ [] := fun e => hx (ht.nil.1 e)
      rw [dimL_eq hx, dimL_eq hy]
      apply best_congr
      intro x _
      congr 1
      have t0 := ht.split hi x false
      have t1 := ht.split hi x true
      have hs := split_len xs x
      unfold dim2L dim2W
      cases hb : s.testBit x with
      | false =>
        rw [hb] at t0 t1
        simp only [Bool.xor_false] at t0 t1
        simp only [t0.nil, t1.nil]
        by_cases hne : Go.Proofs.Ytpebglilphgamaa.split xs x false = [] ∨ Go.Proofs.Ytpebglilphgamaa.split xs x true = []
        · rw [if_pos hne, if_pos hne]
        · rw [if_neg hne, if_neg hne]
          have h1 : (Go.Proofs.Ytpebglilphgamaa.split xs x false).length ≠ 0 := fun e => hne (.inl (List.eq_nil_of_length_eq_zero e))
          have h2 : (Go.Proofs.Ytpebglilphgamaa.split xs x true).length ≠ 0 := fun e => hne (.inr (List.eq_nil_of_length_eq_zero e))
          rw [ih _ (by omega) _ _ rfl (hi.sub (split_self _ _ _)) t0, ih _ (by omega) _ _ rfl (hi.sub (split_self _ _ _)) t1]
      | true =>
        rw [hb] at t0 t1
        simp only [Bool.xor_true, Bool.not_false, Bool.not_true] at t0 t1
        simp only [t0.nil, t1.nil]
        by_cases hne : Go.Proofs.Ytpebglilphgamaa.split xs x false = [] ∨ Go.Proofs.Ytpebglilphgamaa.split xs x true = []
        · rw [if_pos hne.symm, if_pos hne]
        · rw [if_neg fun e => hne e.symm, if_neg hne]
          have h1 : (Go.Proofs.Ytpebglilphgamaa.split xs x false).length ≠ 0 := fun e => hne (.inl (List.eq_nil_of_length_eq_zero e))
          have h2 : (Go.Proofs.Ytpebglilphgamaa.split xs x true).length ≠ 0 := fun e => hne (.inr (List.eq_nil_of_length_eq_zero e))
          rw [ih _ (by omega) _ _ rfl (hi.sub (split_self _ _ _)) t0, ih _ (by omega) _ _ rfl (hi.sub (split_self _ _ _)) t1]
          omega
theorem turned_ask : ∀ m, ∀ xs ys : List Int, xs.length = m → InP p xs → Turned s xs ys → askL p ys = askL p xs := by
  intro m
  induction m using Nat.strongRecOn with
  | _ m ih =>
    intro xs ys hm hi ht
    by_cases hx : xs.length = 1
    · rw [askL_one hx, askL_one (by rw [ht.len]; exact hx)]
    · rw [askL_eq hx, askL_eq (by rw [ht.len]; exact hx)]
      apply least_congr
      intro x _
      have t0 := ht.split hi x false
      have t1 := ht.split hi x true
      have hs := split_len xs x
      unfold stepA
      cases hb : s.testBit x with
      | false =>
        rw [hb] at t0 t1
        simp only [Bool.xor_false] at t0 t1
        simp only [t0.nil, t1.nil]
        by_cases hne : Go.Proofs.Ytpebglilphgamaa.split xs x false = [] ∨ Go.Proofs.Ytpebglilphgamaa.split xs x true = []
        · rw [if_pos hne, if_pos hne]
        · rw [if_neg hne, if_neg hne]
          have h1 : (Go.Proofs.Ytpebglilphgamaa.split xs x false).length ≠ 0 := fun e => hne (.inl (List.eq_nil_of_length_eq_zero e))
          have h2 : (Go.Proofs.Ytpebglilphgamaa.split xs x true).length ≠ 0 := fun e => hne (.inr (List.eq_nil_of_length_eq_zero e))
          rw [ih _ (by omega) _ _ rfl (hi.sub (split_self _ _ _)) t0, ih _ (by omega) _ _ rfl (hi.sub (split_self _ _ _)) t1]
      | true =>
        rw [hb] at t0 t1
        simp only [Bool.xor_true, Bool.not_false, Bool.not_true] at t0 t1
        simp only [t0.nil, t1.nil]
        by_cases hne : Go.Proofs.Ytpebglilphgamaa.split xs x false = [] ∨ Go.Proofs.Ytpebglilphgamaa.split xs x true = []
        · rw [if_pos hne.symm, if_pos hne]
        · rw [if_neg fun e => hne e.symm, if_neg hne]
          have h1 : (Go.Proofs.Ytpebglilphgamaa.split xs x false).length ≠ 0 := fun e => hne (.inl (List.eq_nil_of_length_eq_zero e))
          have h2 : (Go.Proofs.Ytpebglilphgamaa.split xs x true).length ≠ 0 := fun e => hne (.inr (List.eq_nil_of_length_eq_zero e))
          rw [ih _ (by omega) _ _ rfl (hi.sub (split_self _ _ _)) t0, ih _ (by omega) _ _ rfl (hi.sub (split_self _ _ _)) t1]
          omega
theorem Turned.mem (h : Turned s xs ys) {d : Int} : d ∈ ys ↔ ∃ c ∈ xs, xorI s c = d := by
  rw [List.Perm.mem_iff h, List.mem_map]
theorem turned_keyOK (hi : InP p xs) (ht : Turned s xs ys) {c : Int} (hc : 0 ≤ c) (k : Nat) : keyOK ys (xorI s c) k = keyOK xs c k := by
  rw [Bool.eq_iff_iff, keyOK_iff, keyOK_iff]
  constructor
  · intro h d hd hn
    have := h (xorI s d) (ht.mem.2 ⟨d, hd, rfl⟩) fun e => hn (xorI_inj (hi d hd).1 hc e)
    rwa [xorI_agree] at this
  · intro h d hd hn
    obtain ⟨e, he, rfl⟩ := ht.mem.1 hd
    rw [xorI_agree]
    exact h e he fun g => hn (by rw [g])
theorem turned_key (hi : InP p xs) (ht : Turned s xs ys) {c : Int} (hc : 0 ≤ c) : keyL p ys (xorI s c) = keyL p xs c := keyL_congr (turned_keyOK hi ht hc)
theorem turned_teach (hi : InP p xs) (ht : Turned s xs ys) : teachL p ys = teachL p xs := by
  have h1 : teachL p ys ≤ teachL p xs := teach_le (teach_nonneg _ _) fun d hd => by
    obtain ⟨c, hc, rfl⟩ := ht.mem.1 hd
    rw [turned_key hi ht (hi c hc).1]
    exact teach_ge hc
  have h2 : teachL p xs ≤ teachL p ys := teach_le (teach_nonneg _ _) fun c hc => by
    rw [← turned_key hi ht (hi c hc).1]
    exact teach_ge (ht.mem.2 ⟨c, hc, rfl⟩)
  omega
theorem turned_next (hi : InP p xs) (ht : Turned s xs ys) (k : Nat) : Turned s (nextL p k xs) (nextL p k ys) :=
  ht.filter fun c hc => by rw [turned_key hi ht (hi c hc).1]
theorem turned_peels (k : Nat) : ∀ m, ∀ xs ys : List Int, xs.length = m → InP p xs → Turned s xs ys → peelsL p k ys = peelsL p k xs := by
  intro m
  induction m using Nat.strongRecOn with
  | _ m ih =>
    intro xs ys hm hi ht
    by_cases hx : xs = []
    · rw [ht.nil.2 hx, hx]
    · have hy : ys ≠ [] := fun e => hx (ht.nil.1 e)
      rw [peelsL_eq hx, peelsL_eq hy, ht.len, (turned_next hi ht k).len]
      have := (nextL_sub p k xs).length_le
      split
      · rfl
      · exact ih _ (by omega) _ _ rfl (hi.sub (nextL_sub p k xs)) (turned_next hi ht k)
theorem peelFrom_congr (h : ∀ k, peelsL p k ys = peelsL p k xs) : ∀ m k, peelFrom p ys m k = peelFrom p xs m k := by
  intro m
  induction m with
  | zero => intro k; rfl
  | succ m ih => intro k; simp only [peelFrom]; rw [h, ih]
theorem turned_peel (hi : InP p xs) (ht : Turned s xs ys) : peelL p ys = peelL p xs := peelFrom_congr (fun k => turned_peels k _ xs ys rfl hi ht) _ _
theorem Turned.back (hi : InP p xs) (ht : Turned s xs ys) : Turned s ys xs := by
  unfold Turned at ht ⊢
  have h1 := (ht.map (xorI s)).symm
  rw [List.map_map] at h1
  have : xs.map (xorI s ∘ xorI s) = xs := by
    conv => rhs; rw [← List.map_id xs]
    exact List.map_congr_left fun c hc => xorI_back (hi c hc).1
  rwa [this] at h1
theorem Turned.inP (hs : s < 2 ^ p) (hi : InP p xs) (ht : Turned s xs ys) : InP p ys := fun d hd => by
  obtain ⟨c, hc, rfl⟩ := ht.mem.1 hd
  exact xorI_lt hs (hi c hc)
end
/-- Two rising lists with the same elements are the same. -/
theorem rising_eq : ∀ (xs ys : List Int), xs.Pairwise (· < ·) → ys.Pairwise (· < ·) → (∀ d, d ∈ xs ↔ d ∈ ys) → xs = ys := by
  intro xs
  induction xs with
  | nil =>
    intro ys _ _ h
    cases ys with
    | nil => rfl
    | cons d ys => exact absurd ((h d).2 (by simp)) (by simp)
  | cons c xs ih =>
    intro ys hx hy h
    cases ys with
    | nil => exact absurd ((h c).1 (by simp)) (by simp)
    | cons d ys =>
      obtain ⟨x1, x2⟩ := List.pairwise_cons.1 hx
      obtain ⟨y1, y2⟩ := List.pairwise_cons.1 hy
      have e : c = d := by
        have a := (h c).1 (by simp)
        have b := (h d).2 (by simp)
        rcases List.mem_cons.1 a with a | a
        · exact a
        · rcases List.mem_cons.1 b with b | b
          · exact b.symm
          · have := y1 c a; have := x1 d b; omega
      subst e
      congr 1
      apply ih ys x2 y2
      intro u
      constructor
      · intro hu
        rcases List.mem_cons.1 ((h u).1 (by simp [hu])) with a | a
        · have := x1 u hu; omega
        · exact a
      · intro hu
        rcases List.mem_cons.1 ((h u).2 (by simp [hu])) with a | a
        · have := y1 u hu; omega
        · exact a
end Go.Proofs.Ytpebglilphgamaa
