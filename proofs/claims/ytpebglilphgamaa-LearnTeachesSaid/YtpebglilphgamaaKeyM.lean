/- The plain law of keys: the least of the smallest keys, and its bounds. Conditions: fewer than six points, concepts within these. -/
import Derived.Test.YtpebglilphgamaaDimM
namespace Go.Proofs.Ytpebglilphgamaa

/-- How many of the first n are true. -/
def cntB (n : Nat) (f : Nat → Bool) : Nat := ((List.range n).filter f).length
theorem cntB_sel (n : Nat) (f : Nat → Bool) (xs : List Int) : (sel n f xs).length = cntB n f := by simp [sel, cntB]
theorem cntB_succ (n : Nat) (f : Nat → Bool) : cntB (n + 1) f = cntB n f + (if f n then 1 else 0) := by
  unfold cntB
  rw [List.range_succ, List.filter_append, List.length_append]
  by_cases h : f n = true <;> simp [h]
theorem cntB_congr {n : Nat} {f g : Nat → Bool} (h : ∀ i, i < n → f i = g i) : cntB n f = cntB n g := by
  unfold cntB
  rw [List.filter_congr fun i hi => h i (by simpa using hi)]
/-- The number of elements of a set of points. -/
def sz (k : Nat) : Nat := cntB 16 k.testBit
def agree (k : Nat) (c d : Int) : Bool := (c.toNat &&& k) == (d.toNat &&& k)
def keyOK (xs : List Int) (c : Int) (k : Nat) : Bool := xs.all fun d => d == c || !agree k d c
def keyF (p : Nat) (xs : List Int) (c : Int) : Nat → Nat
  | 0 => 2 ^ p - 1
  | m+1 => if keyOK xs c m = true ∧ sz m < sz (keyF p xs c m) then m else keyF p xs c m
def keyL (p : Nat) (xs : List Int) (c : Int) : Nat := keyF p xs c (2 ^ p)

theorem agree_iff {k : Nat} {c d : Int} : agree k c d = true ↔ ∀ i, k.testBit i = true → c.toNat.testBit i = d.toNat.testBit i := by
  unfold agree
  rw [beq_iff_eq]
  constructor
  · intro h i hi
    have := congrArg (fun x => Nat.testBit x i) h
    simpa [Nat.testBit_and, hi] using this
  · intro h
    apply Nat.eq_of_testBit_eq
    intro i
    rw [Nat.testBit_and, Nat.testBit_and]
    by_cases e : k.testBit i = true
    · rw [h i e]
    · simp [e]
theorem agree_self (k : Nat) (c : Int) : agree k c c = true := by simp [agree]
theorem agree_sub {k m : Nat} {c d : Int} (h : ∀ i, k.testBit i = true → m.testBit i = true) (a : agree m c d = true) : agree k c d = true :=
  agree_iff.2 fun i hi => agree_iff.1 a i (h i hi)
theorem agree_full {p : Nat} {c d : Int} (hc : 0 ≤ c ∧ c < 2 ^ p) (hd : 0 ≤ d ∧ d < 2 ^ p) (a : agree (2 ^ p - 1) c d = true) : c = d := by
  have e : ∀ x : Int, 0 ≤ x ∧ x < 2 ^ p → x.toNat < 2 ^ p := by
    intro x hx
    have h2 : ((2 ^ p : Nat) : Int) = (2 : Int) ^ p := by simp
    omega
  have : c.toNat = d.toNat := by
    unfold agree at a
    rw [beq_iff_eq, Nat.and_two_pow_sub_one_eq_mod, Nat.and_two_pow_sub_one_eq_mod, Nat.mod_eq_of_lt (e c hc), Nat.mod_eq_of_lt (e d hd)] at a
    exact a
  omega
theorem sz_zero : sz 0 = 0 := by decide +kernel
theorem sz_le : ∀ p, p < 6 → ∀ k, k < 2 ^ p → sz k ≤ p := by decide +kernel
theorem sz_full : ∀ p, p < 6 → sz (2 ^ p - 1) = p := by decide +kernel
theorem sz_eq : ∀ p, p < 6 → ∀ k, k < 2 ^ p → sz k = p → k = 2 ^ p - 1 := by decide +kernel
theorem sz_or : ∀ x, x < 5 → ∀ k, k < 32 → sz (k ||| 2 ^ x) ≤ sz k + 1 := by decide +kernel
theorem or_lt : ∀ p, p < 6 → ∀ x, x < p → ∀ k, k < 2 ^ p → k ||| 2 ^ x < 2 ^ p := by decide +kernel
theorem le32 {p k : Nat} (hp : p < 6) (h : k < 2 ^ p) : k < 32 := by
  have := Nat.pow_le_pow_right (show 0 < 2 by decide) (show p ≤ 5 by omega)
  omega
/-- All concepts lie below two to the power of p. -/
def InP (p : Nat) (xs : List Int) : Prop := ∀ c ∈ xs, 0 ≤ c ∧ c < 2 ^ p
theorem InP.sub {p : Nat} {xs ys : List Int} (h : InP p xs) (hs : ys.Sublist xs) : InP p ys := fun c hc => h c (hs.subset hc)
theorem keyOK_iff {xs : List Int} {c : Int} {k : Nat} : keyOK xs c k = true ↔ ∀ d ∈ xs, d ≠ c → agree k d c = false := by
  unfold keyOK
  rw [List.all_eq_true]
  constructor
  · intro h d hd hn
    have := h d hd
    simpa [hn] using this
  · intro h d hd
    by_cases e : d = c
    · simp [e]
    · simp [h d hd e]
theorem keyOK_sub {xs ys : List Int} (h : ∀ d ∈ ys, d ∈ xs) {c : Int} {k : Nat} (hk : keyOK xs c k = true) : keyOK ys c k = true :=
  keyOK_iff.2 fun d hd hn => keyOK_iff.1 hk d (h d hd) hn
theorem keyOK_full {p : Nat} {xs : List Int} {c : Int} (h : InP p xs) (hc : 0 ≤ c ∧ c < 2 ^ p) : keyOK xs c (2 ^ p - 1) = true :=
  keyOK_iff.2 fun d hd hn => by
    rw [Bool.eq_false_iff]
    exact fun a => hn (agree_full (h d hd) hc a)
theorem keyF_spec {p : Nat} (hp : p < 6) {xs : List Int} {c : Int} (h : InP p xs) (hc : 0 ≤ c ∧ c < 2 ^ p) : ∀ m, m ≤ 2 ^ p →
    keyF p xs c m < 2 ^ p ∧ keyOK xs c (keyF p xs c m) = true ∧ ∀ k, k < m → keyOK xs c k = true → sz (keyF p xs c m) ≤ sz k ∧ (sz k = sz (keyF p xs c m) → keyF p xs c m ≤ k) := by
  intro m
  induction m with
  | zero => intro _; exact ⟨by simp only [keyF]; have := Nat.two_pow_pos p; omega, keyOK_full h hc, fun k hk => absurd hk (by omega)⟩
  | succ m ih =>
    intro hm
    obtain ⟨i1, i2, i3⟩ := ih (by omega)
    simp only [keyF]
    split
    · rename_i hk
      refine ⟨by omega, hk.1, fun k hkm hok => ?_⟩
      by_cases e : k = m
      · subst e; exact ⟨Nat.le_refl _, fun _ => Nat.le_refl _⟩
      · have := i3 k (by omega) hok
        exact ⟨by omega, fun e2 => by omega⟩
    · rename_i hk
      refine ⟨i1, i2, fun k hkm hok => ?_⟩
      by_cases e : k = m
      · subst e
        have : sz (keyF p xs c k) ≤ sz k := by
          rcases Nat.lt_or_ge (sz k) (sz (keyF p xs c k)) with g | g
          · exact absurd ⟨hok, g⟩ hk
          · exact g
        refine ⟨this, fun e2 => ?_⟩
        -- the best so far is not above k: it is an elder one, or the full set, and then k is full too
        rcases Nat.lt_or_ge k (keyF p xs c k) with g | g
        · exfalso
          have hlt : ∀ m, keyF p xs c m < m ∨ keyF p xs c m = 2 ^ p - 1 := by
            intro m
            induction m with
            | zero => exact .inr rfl
            | succ m ihm =>
              simp only [keyF]
              split
              · exact .inl (by omega)
              · rcases ihm with a | a
                · exact .inl (by omega)
                · exact .inr a
          rcases hlt k with a | a
          · omega
          · rw [a, sz_full p hp] at e2
            have := sz_eq p hp k (by omega) e2
            omega
        · exact g
      · exact i3 k (by omega) hok
theorem keyL_lt {p : Nat} (hp : p < 6) {xs : List Int} {c : Int} (h : InP p xs) (hc : 0 ≤ c ∧ c < 2 ^ p) : keyL p xs c < 2 ^ p := (keyF_spec hp h hc _ (Nat.le_refl _)).1
theorem keyL_ok {p : Nat} (hp : p < 6) {xs : List Int} {c : Int} (h : InP p xs) (hc : 0 ≤ c ∧ c < 2 ^ p) : keyOK xs c (keyL p xs c) = true := (keyF_spec hp h hc _ (Nat.le_refl _)).2.1
theorem keyL_min {p : Nat} (hp : p < 6) {xs : List Int} {c : Int} (h : InP p xs) (hc : 0 ≤ c ∧ c < 2 ^ p) {k : Nat} (hk : k < 2 ^ p) (ho : keyOK xs c k = true) : sz (keyL p xs c) ≤ sz k ∧ (sz k = sz (keyL p xs c) → keyL p xs c ≤ k) := (keyF_spec hp h hc _ (Nat.le_refl _)).2.2 k hk ho
/-- What is the least of all keys is the key. -/
theorem keyL_uniq {p : Nat} (hp : p < 6) {xs : List Int} {c : Int} (h : InP p xs) (hc : 0 ≤ c ∧ c < 2 ^ p) {k : Nat} (hk : k < 2 ^ p) (ho : keyOK xs c k = true)
    (hm : ∀ m, m < 2 ^ p → keyOK xs c m = true → sz k ≤ sz m ∧ (sz m = sz k → k ≤ m)) : k = keyL p xs c := by
  have h1 := keyL_min hp h hc hk ho
  have h2 := hm _ (keyL_lt hp h hc) (keyL_ok hp h hc)
  have e : sz k = sz (keyL p xs c) := by omega
  have a := h1.2 e
  have b := h2.2 e.symm
  omega
theorem keyF_congr {p : Nat} {xs ys : List Int} {c d : Int} (h : ∀ k, keyOK xs c k = keyOK ys d k) : ∀ m, keyF p xs c m = keyF p ys d m := by
  intro m
  induction m with
  | zero => rfl
  | succ m ih => simp only [keyF]; rw [ih, h m]
theorem keyL_congr {p : Nat} {xs ys : List Int} {c d : Int} (h : ∀ k, keyOK xs c k = keyOK ys d k) : keyL p xs c = keyL p ys d := keyF_congr h _
theorem sz_key_le {p : Nat} (hp : p < 6) {xs : List Int} {c : Int} (h : InP p xs) (hc : 0 ≤ c ∧ c < 2 ^ p) : sz (keyL p xs c) ≤ p := sz_le p hp _ (keyL_lt hp h hc)
/-- In a part the key is not greater. -/
theorem sz_key_sub {p : Nat} (hp : p < 6) {xs ys : List Int} {c : Int} (h : InP p xs) (hc : 0 ≤ c ∧ c < 2 ^ p) (hs : ∀ d ∈ ys, d ∈ xs) : sz (keyL p ys c) ≤ sz (keyL p xs c) :=
  (keyL_min hp (fun d hd => h d (hs d hd)) hc (keyL_lt hp h hc) (keyOK_sub hs (keyL_ok hp h hc))).1
/-- A point at which two concepts differ. -/
theorem differ {p : Nat} {c d : Int} (hc : 0 ≤ c ∧ c < 2 ^ p) (hd : 0 ≤ d ∧ d < 2 ^ p) (h : d ≠ c) : ∃ x, x < p ∧ d.toNat.testBit x ≠ c.toNat.testBit x := by
  refine Classical.byContradiction fun hno => h (agree_full (p := p) hd hc (agree_iff.2 fun i hi => ?_))
  refine Classical.byContradiction fun hne => hno ⟨i, ?_, hne⟩
  rw [Nat.testBit_two_pow_sub_one] at hi
  simpa using hi
theorem bitB_nat {c : Int} (hc : 0 ≤ c) (x : Nat) : bitB c x = c.toNat.testBit x := by
  obtain ⟨n, rfl⟩ := Int.eq_ofNat_of_zero_le hc
  rw [Int.toNat_natCast, Nat.testBit_eq_decide_div_mod_eq]
  unfold bitB bitV
  have e : ((n : Int) / 2 ^ (x : Int).toNat % 2) = ((n / 2 ^ x % 2 : Nat) : Int) := by simp
  rw [e]
  by_cases h : n / 2 ^ x % 2 = 1
  · simp [h]
  · have : n / 2 ^ x % 2 = 0 := by omega
    simp [this]
theorem testBit_or_pow (k x i : Nat) : (k ||| 2 ^ x).testBit i = (k.testBit i || decide (x = i)) := by
  rw [Nat.testBit_or, Nat.testBit_two_pow]
/-- A key with no more points than there are others. -/
theorem key_others {p : Nat} (hp : p < 6) {c : Int} (hc : 0 ≤ c ∧ c < 2 ^ p) : ∀ xs : List Int, InP p xs → ∃ k, k < 2 ^ p ∧ sz k ≤ (xs.filter fun d => d != c).length ∧ keyOK xs c k = true := by
  intro xs
  induction xs with
  | nil => intro _; exact ⟨0, Nat.two_pow_pos p, by rw [sz_zero]; exact Nat.zero_le _, rfl⟩
  | cons d xs ih =>
    intro h
    obtain ⟨k, k1, k2, k3⟩ := ih fun e he => h e (by simp [he])
    by_cases e : d = c
    · refine ⟨k, k1, by simpa [e] using k2, keyOK_iff.2 fun u hu hn => ?_⟩
      rcases List.mem_cons.1 hu with rfl | hu
      · exact absurd e hn
      · exact keyOK_iff.1 k3 u hu hn
    · obtain ⟨x, hx, hd⟩ := differ hc (h d (by simp)) e
      refine ⟨k ||| 2 ^ x, or_lt p hp x hx k k1, ?_, keyOK_iff.2 fun u hu hn => ?_⟩
      · have := sz_or x (by omega) k (le32 hp k1)
        have e2 : (d != c) = true := by rw [bne_iff_ne]; exact e
        rw [List.filter_cons, if_pos e2, List.length_cons]
        omega
      · rw [Bool.eq_false_iff]
        intro a
        rcases List.mem_cons.1 hu with rfl | hu
        · exact hd (agree_iff.1 a x (by rw [testBit_or_pow]; simp))
        · have := keyOK_iff.1 k3 u hu hn
          rw [agree_sub (m := k ||| 2 ^ x) (fun i hi => by rw [testBit_or_pow, hi]; rfl) a] at this
          cases this
end Go.Proofs.Ytpebglilphgamaa
