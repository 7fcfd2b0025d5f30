/- Plain laws of sums of signs of families, of their duals, and of what an early settled family sums to. Condition: at most six elements. -/
import Derived.Test.YtjddbglbodkihaaDoorAskM
import Derived.Test.YtjddbglbodkihaaDoorSrch
namespace Go.Proofs.YtjddbglbodkihaaDoor

/-- A sum over all numbers below N. -/
def gs (g : Nat → Int) : Nat → Int
  | 0 => 0
  | k+1 => gs g k + g k
theorem gs_congr {g h : Nat → Int} : ∀ {N : Nat}, (∀ s, s < N → g s = h s) → gs g N = gs h N := by
  intro N
  induction N with
  | zero => intro _; rfl
  | succ N ih => intro e; simp only [gs]; rw [ih fun s hs => e s (by omega), e N (by omega)]
theorem gs_add (g h : Nat → Int) : ∀ N, gs (fun s => g s + h s) N = gs g N + gs h N := by
  intro N
  induction N with
  | zero => rfl
  | succ N ih => simp only [gs]; rw [ih]; omega
theorem gs_mul (c : Int) (g : Nat → Int) : ∀ N, gs (fun s => c * g s) N = c * gs g N := by
  intro N
  induction N with
  | zero => simp [gs]
  | succ N ih => simp only [gs]; rw [ih, Int.mul_add]
theorem gs_zero {g : Nat → Int} : ∀ {N : Nat}, (∀ s, s < N → g s = 0) → gs g N = 0 := by
  intro N
  induction N with
  | zero => intro _; rfl
  | succ N ih => intro e; simp only [gs]; rw [ih fun s hs => e s (by omega), e N (by omega)]; rfl
theorem gs_one {g : Nat → Int} {k : Nat} : ∀ {N : Nat}, k < N → (∀ s, s < N → s ≠ k → g s = 0) → gs g N = g k := by
  intro N
  induction N with
  | zero => intro h; omega
  | succ N ih =>
    intro h e
    simp only [gs]
    by_cases h2 : k = N
    · subst h2; rw [gs_zero fun s hs => e s (by omega) (by omega)]; omega
    · rw [ih (by omega) fun s hs hn => e s (by omega) hn, e N (by omega) (Ne.symm h2)]; omega
theorem gs_front (g : Nat → Int) : ∀ N, gs g (N + 1) = g 0 + gs (fun s => g (s + 1)) N := by
  intro N
  induction N with
  | zero => simp [gs]
  | succ N ih => simp only [gs] at *; rw [ih]; omega
theorem gs_flip (N : Nat) : ∀ g : Nat → Int, gs g N = gs (fun s => g (N - 1 - s)) N := by
  induction N with
  | zero => intro g; rfl
  | succ N ih =>
    intro g
    rw [gs_front g N, ih fun s => g (s + 1)]
    simp only [gs]
    have e1 : gs (fun s => g (N + 1 - 1 - s)) N = gs (fun s => g (N - 1 - s + 1)) N := gs_congr fun s hs => by
      rw [show N + 1 - 1 - s = N - 1 - s + 1 by omega]
    rw [e1, show N + 1 - 1 - N = 0 by omega]
    omega

/-- The sign of a set. -/
def sg (s : Nat) : Int := 1 - 2 * ((sz s % 2 : Nat) : Int)
/-- The sum of a list of sets. -/
def sumL (l : List Int) : Int := l.foldl (fun a s => a + sg s.toNat) 0
def bi (b : Bool) (x : Int) : Int := if b then x else 0
def sumP (p : Nat → Bool) (N : Nat) : Int := gs (fun s => bi (p s) (sg s)) N
theorem sumL_snoc (l : List Int) (x : Int) : sumL (l ++ [x]) = sumL l + sg x.toNat := by simp [sumL, List.foldl_append]
theorem sumL_fam (p : Nat → Bool) : ∀ N, sumL (famL N p) = sumP p N := by
  intro N
  induction N with
  | zero => rfl
  | succ N ih =>
    rw [famL_succ]
    unfold sumP at *
    simp only [gs]
    rw [← ih]
    cases h : p N
    · simp [bi]
    · simp only [if_true]
      rw [sumL_snoc]; simp [bi]
theorem len_fam (p : Nat → Bool) : ∀ N, ((famL N p).length : Int) = gs (fun s => bi (p s) 1) N := by
  intro N
  induction N with
  | zero => rfl
  | succ N ih =>
    rw [famL_succ]
    simp only [gs]
    rw [← ih]
    cases h : p N
    · simp [bi]
    · simp [bi]
theorem bi_or {a b : Bool} (x : Int) (h : (a && b) = false) : bi (a || b) x = bi a x + bi b x := by cases a <;> cases b <;> simp_all [bi]

/-! views -/
theorem agr_iff {a i s : Nat} : agr a i s = true ↔ ∀ y, (s.testBit y && a.testBit y) = i.testBit y := by
  unfold agr
  rw [beq_iff_eq]
  constructor
  · intro h y; rw [← h, Nat.testBit_and]
  · intro h; apply bits_ext; intro y; rw [Nat.testBit_and]; exact h y
theorem agr_out {a i x s : Nat} (ha : a.testBit x = false) (hi : i.testBit x = false) : agr (ad a x) i s = (agr a i s && !s.testBit x) := by
  rw [Bool.eq_iff_iff, Bool.and_eq_true, agr_iff, agr_iff]
  constructor
  · intro h
    have hx := h x
    rw [ad_mem, hi] at hx
    refine ⟨fun y => ?_, by simpa using hx⟩
    have := h y
    rw [ad_bit] at this
    by_cases e : x = y
    · subst e; rw [ha, hi]; simp
    · simpa [e] using this
  · rintro ⟨h, hs⟩ y
    have := h y
    rw [ad_bit]
    by_cases e : x = y
    · subst e; rw [hi]; simp at hs; simp [hs]
    · simpa [e] using this
theorem agr_in {a i x s : Nat} (ha : a.testBit x = false) (hi : i.testBit x = false) : agr (ad a x) (ad i x) s = (agr a i s && s.testBit x) := by
  rw [Bool.eq_iff_iff, Bool.and_eq_true, agr_iff, agr_iff]
  constructor
  · intro h
    have hx := h x
    rw [ad_mem, ad_mem] at hx
    refine ⟨fun y => ?_, by simpa using hx⟩
    have := h y
    rw [ad_bit, ad_bit] at this
    by_cases e : x = y
    · subst e; rw [ha, hi]; simp
    · simpa [e] using this
  · rintro ⟨h, hs⟩ y
    have := h y
    rw [ad_bit, ad_bit]
    by_cases e : x = y
    · subst e; rw [hi, hs]; simp
    · simpa [e] using this
theorem View.ix {n a i x : Nat} (h : View n a i) (ha : a.testBit x = false) : i.testBit x = false := by
  cases e : i.testBit x
  · rfl
  · rw [h.sub x e] at ha; cases ha
def sumV (n : Nat) (p : Nat → Bool) (a i : Nat) : Int := sumP (fun s => agr a i s && p s) (2 ^ n)
theorem sumV_split {n a i x : Nat} (p : Nat → Bool) (hv : View n a i) (ha : a.testBit x = false) : sumV n p a i = sumV n p (ad a x) i + sumV n p (ad a x) (ad i x) := by
  have hi := hv.ix ha
  unfold sumV sumP
  rw [← gs_add]
  apply gs_congr
  intro s _
  dsimp only
  rw [agr_out ha hi, agr_in ha hi]
  cases agr a i s <;> cases s.testBit x <;> cases p s <;> simp [bi]
theorem un_free {n a k : Nat} (h : un n a = k + 1) : ∃ x, x < n ∧ a.testBit x = false := by
  apply Classical.byContradiction
  intro hc
  have : un n a = 0 := by
    unfold un
    rw [List.countP_eq_zero]
    intro x hx
    cases e : a.testBit x
    · exact absurd ⟨x, List.mem_range.1 hx, e⟩ hc
    · simp
  omega
theorem sg_all : ∀ u : Fin 64, ∀ x : Fin 6, u.val.testBit x.val = false → sg (ad u.val x.val) = - sg u.val := by decide +kernel
theorem sg_ad {u x : Nat} (h : u < 64) (hx : x < 6) (ho : u.testBit x = false) : sg (ad u x) = - sg u := sg_all ⟨u, h⟩ ⟨x, hx⟩ ho
theorem view_end {n a i s : Nat} (h0 : un n a = 0) (hv : View n a i) (hs : s < 2 ^ n) : agr a i s = decide (s = i) := by
  rw [Bool.eq_iff_iff, agr_iff, decide_eq_true_iff]
  constructor
  · intro h
    apply bits_ext
    intro y
    rw [← h y]
    cases hy : s.testBit y
    · rfl
    · rw [un_zero h0 (bit_lt hs hy)]; rfl
  · rintro rfl y
    cases hy : s.testBit y
    · rfl
    · rw [hv.sub y hy]; rfl
theorem sum_end {n a i : Nat} (h0 : un n a = 0) (hv : View n a i) : sumV n (fun _ => true) a i = sg i := by
  unfold sumV sumP
  rw [gs_one hv.ilt fun s hs hn => by dsimp only; rw [view_end h0 hv hs]; simp [hn, bi]]
  dsimp only
  rw [view_end h0 hv hv.ilt]
  simp [bi]
theorem two6 {n : Nat} (hn : n ≤ 6) : 2 ^ n ≤ 64 := Nat.pow_le_pow_right (show 0 < 2 by decide) hn
theorem sum_all {n : Nat} (hn : n ≤ 6) : ∀ k a i, un n a = k + 1 → View n a i → sumV n (fun _ => true) a i = 0 := by
  have h6 := two6 hn
  intro k
  induction k with
  | zero =>
    intro a i hu hv
    obtain ⟨x, hx, ha⟩ := un_free hu
    have e := un_ad hx ha
    rw [sumV_split _ hv ha, sum_end (by omega) (hv.out hx), sum_end (by omega) (hv.inn hx), sg_ad (by have := hv.ilt; omega) (by omega) (hv.ix ha)]
    omega
  | succ k ih =>
    intro a i hu hv
    obtain ⟨x, hx, ha⟩ := un_free hu
    have e := un_ad hx ha
    rw [sumV_split _ hv ha, ih _ _ (by omega) (hv.out hx), ih _ _ (by omega) (hv.inn hx)]
    rfl
theorem settl_iff {N : Nat} {p : Nat → Bool} {a i : Nat} : settl N p a i = true ↔ (∀ s, s < N → agr a i s = true → p s = false) ∨ ∀ s, s < N → agr a i s = true → p s = true := by
  unfold settl
  rw [Bool.or_eq_true, Bool.not_eq_true', List.any_eq_false, List.all_eq_true]
  constructor
  · rintro (h | h)
    · left
      intro s hs hg
      have := h s (List.mem_range.2 hs)
      rw [hg] at this
      simpa using this
    · right
      intro s hs hg
      have := h s (List.mem_range.2 hs)
      rw [hg] at this
      simpa using this
  · rintro (h | h)
    · left
      intro s hs hc
      obtain ⟨h1, h2⟩ := andE hc
      rw [h s (List.mem_range.1 hs) h1] at h2
      cases h2
    · right
      intro s hs
      cases hg : agr a i s
      · rfl
      · rw [h s (List.mem_range.1 hs) hg]; rfl
/-- A view that is settled early sums to 0. -/
theorem early_zero {n : Nat} (hn : n ≤ 6) (p : Nat → Bool) : ∀ k a i, askN n p a i = k → View n a i → k < un n a → sumV n p a i = 0 := by
  intro k
  induction k using Nat.strongRecOn with
  | _ k ih =>
    intro a i hk hv hlt
    cases hs : settl (2 ^ n) p a i
    · obtain ⟨h1, h2, h3, _⟩ := best_is hs
      generalize bestN n p a i = x at *
      have e := un_ad h1 h2
      unfold valN at h3
      rw [sumV_split _ hv h2, ih _ (by omega) _ _ rfl (hv.out h1) (by omega), ih _ (by omega) _ _ rfl (hv.inn h1) (by omega)]
      rfl
    · rcases settl_iff.1 hs with h | h
      · unfold sumV sumP
        apply gs_zero
        intro s hs
        dsimp only
        cases hg : agr a i s
        · rfl
        · rw [h s hs hg]; rfl
      · rw [← sum_all hn (un n a - 1) a i (by omega) hv]
        unfold sumV sumP
        apply gs_congr
        intro s hs
        dsimp only
        cases hg : agr a i s
        · rfl
        · rw [h s hs hg]
theorem agr_zero (s : Nat) : agr 0 0 s = true := by simp [agr]
theorem sumV_zero (n : Nat) (p : Nat → Bool) : sumV n p 0 0 = sumP p (2 ^ n) := by
  unfold sumV
  simp only [agr_zero, Bool.true_and]
theorem un_none (n : Nat) : un n 0 = n := by
  unfold un
  rw [List.countP_eq_length.2 (by simp)]
  simp
/-- A family that is settled early has the sum 0. -/
theorem early_sum {n : Nat} (hn : n ≤ 6) {p : Nat → Bool} (h : askN n p 0 0 < n) : sumP p (2 ^ n) = 0 := by
  rw [← sumV_zero]
  exact early_zero hn p _ 0 0 rfl (View.zero n) (by rw [un_none]; exact h)

/-! duals -/
/-- What a set lacks. -/
def flip (n s : Nat) : Nat := 2 ^ n - 1 - s
def dualP (n : Nat) (p : Nat → Bool) (s : Nat) : Bool := !p (flip n s)
theorem flip_lt (n s : Nat) : flip n s < 2 ^ n := by have := Nat.two_pow_pos n; unfold flip; omega
theorem flip_flip {n s : Nat} (h : s < 2 ^ n) : flip n (flip n s) = s := by unfold flip; omega
theorem flip_bit {n s : Nat} (h : s < 2 ^ n) (y : Nat) : (flip n s).testBit y = (decide (y < n) && !s.testBit y) := by
  have := Nat.testBit_two_pow_sub_succ h y
  unfold flip
  rw [show 2 ^ n - 1 - s = 2 ^ n - (s + 1) by omega]
  exact this
theorem sg_flip_all : ∀ n : Fin 7, ∀ s : Fin 64, s.val < 2 ^ n.val → sg (flip n.val s.val) = (1 - 2 * ((n.val % 2 : Nat) : Int)) * sg s.val := by decide +kernel
theorem sg_flip {n s : Nat} (hn : n ≤ 6) (h : s < 2 ^ n) : sg (flip n s) = (1 - 2 * ((n % 2 : Nat) : Int)) * sg s := by
  have := two6 hn
  exact sg_flip_all ⟨n, by omega⟩ ⟨s, by omega⟩ h
theorem bi_not (b : Bool) (x : Int) : bi (!b) x = x + -1 * bi b x := by cases b <;> simp [bi]; omega
theorem sum_dual {n : Nat} (h1 : 1 ≤ n) (hn : n ≤ 6) (p : Nat → Bool) : sumP (dualP n p) (2 ^ n) = sumP p (2 ^ n) * (1 - 2 * (((n + 1) % 2 : Nat) : Int)) := by
  have hall : gs (fun s => sg s) (2 ^ n) = 0 := by
    have := sum_all hn (n - 1) 0 0 (by rw [un_none]; omega) (View.zero n)
    rw [sumV_zero] at this
    unfold sumP at this
    simpa [bi] using this
  unfold sumP
  rw [gs_flip (2 ^ n) fun s => bi (dualP n p s) (sg s)]
  have e1 : gs (fun s => bi (dualP n p (2 ^ n - 1 - s)) (sg (2 ^ n - 1 - s))) (2 ^ n) = gs (fun s => (1 - 2 * ((n % 2 : Nat) : Int)) * (sg s + -1 * bi (p s) (sg s))) (2 ^ n) := gs_congr fun s hs => by
    have e2 := sg_flip hn hs
    unfold flip at e2
    have e3 := flip_flip hs
    unfold flip at e3
    unfold dualP flip
    rw [e2, e3, ← bi_not]
    cases p s <;> simp [bi]
  rw [e1, gs_mul, gs_add, gs_mul, hall]
  generalize gs (fun s => bi (p s) (sg s)) (2 ^ n) = S
  rcases Nat.mod_two_eq_zero_or_one n with h | h
  · rw [h, show (n + 1) % 2 = 1 by omega]; omega
  · rw [h, show (n + 1) % 2 = 0 by omega]; omega
theorem len_dual (n : Nat) (p : Nat → Bool) : ((famL (2 ^ n) (dualP n p)).length : Int) = (2 ^ n : Nat) - ((famL (2 ^ n) p).length : Int) := by
  rw [len_fam, len_fam, gs_flip]
  have e1 : gs (fun s => bi (dualP n p (2 ^ n - 1 - s)) 1) (2 ^ n) = gs (fun s => 1 + -1 * bi (p s) 1) (2 ^ n) := gs_congr fun s hs => by
    have e3 := flip_flip hs
    unfold flip at e3
    unfold dualP flip
    rw [e3, ← bi_not]
  have e2 : ∀ N : Nat, gs (fun _ => 1) N = N := by
    intro N
    induction N with
    | zero => rfl
    | succ N ih => simp only [gs]; rw [ih]; omega
  rw [e1, gs_add, gs_mul, e2]
  omega
theorem dual_dual {n s : Nat} (h : s < 2 ^ n) (p : Nat → Bool) : dualP n (dualP n p) s = p s := by
  unfold dualP
  rw [flip_flip h, Bool.not_not]
/-- The other side of a view. -/
structure Co (a i j : Nat) : Prop where
  bit : ∀ y, j.testBit y = (a.testBit y && !i.testBit y)
theorem Co.out {a i j x : Nat} (h : Co a i j) (hi : i.testBit x = false) : Co (ad a x) i (ad j x) := ⟨fun y => by
  rw [ad_bit, ad_bit, h.bit]
  by_cases e : x = y
  · subst e; simp [hi]
  · simp [e]⟩
theorem Co.inn {a i j x : Nat} (h : Co a i j) (ha : a.testBit x = false) : Co (ad a x) (ad i x) j := ⟨fun y => by
  rw [ad_bit, ad_bit, h.bit]
  by_cases e : x = y
  · subst e; simp [ha]
  · simp [e]⟩
theorem Co.view {n a i j : Nat} (h : Co a i j) (hv : View n a i) : View n a j := ⟨hv.lt, fun y hy => by rw [h.bit] at hy; exact (andE hy).1⟩
theorem agr_flip {n a i j s : Nat} (h : Co a i j) (hv : View n a i) (hs : s < 2 ^ n) : agr a j (flip n s) = agr a i s := by
  rw [Bool.eq_iff_iff, agr_iff, agr_iff]
  have key : ∀ y, ((flip n s).testBit y && a.testBit y) = j.testBit y ↔ (s.testBit y && a.testBit y) = i.testBit y := by
    intro y
    rw [flip_bit hs, h.bit]
    cases ha : a.testBit y
    · cases hi : i.testBit y
      · simp
      · rw [hv.sub y hi] at ha; cases ha
    · have hy : y < n := bit_lt hv.lt ha
      cases s.testBit y <;> cases i.testBit y <;> simp [hy]
  constructor
  · intro h y; exact (key y).1 (h y)
  · intro h y; exact (key y).2 (h y)
theorem settl_dual {n a i j : Nat} (p : Nat → Bool) (h : Co a i j) (hv : View n a i) : settl (2 ^ n) (dualP n p) a i = settl (2 ^ n) p a j := by
  rw [Bool.eq_iff_iff, settl_iff, settl_iff]
  have key : ∀ b : Bool, (∀ s, s < 2 ^ n → agr a i s = true → dualP n p s = b) ↔ ∀ s, s < 2 ^ n → agr a j s = true → p s = !b := by
    intro b
    constructor
    · intro g s hs hg
      have e := flip_flip hs
      have := g (flip n s) (flip_lt n s) (by rw [← agr_flip h hv (flip_lt n s), e]; exact hg)
      unfold dualP at this
      rw [e] at this
      rw [← this, Bool.not_not]
    · intro g s hs hg
      unfold dualP
      rw [g (flip n s) (flip_lt n s) (by rw [agr_flip h hv hs]; exact hg), Bool.not_not]
  rw [key, key]
  exact Or.comm
/-- What is turned needs as many questions. -/
theorem ask_dual {n : Nat} (p : Nat → Bool) : ∀ k a i j, un n a = k → View n a i → Co a i j → askN n (dualP n p) a i = askN n p a j := by
  intro k
  induction k with
  | zero => intro a i j hk hv hc; rw [askN_eq, askN_eq, settl_all hk, settl_all hk]; rfl
  | succ k ih =>
    intro a i j hk hv hc
    rw [askN_eq, askN_eq, settl_dual p hc hv]
    split
    · rfl
    · congr 1
      apply lb_congr
      intro x hx ha
      have e : un n (ad a x) = k := by have := un_ad hx ha; omega
      have hi := hv.ix ha
      unfold valN
      rw [ih _ _ _ e (hv.out hx) (hc.out hi), ih _ _ _ e (hv.inn hx) (hc.inn ha), Nat.max_comm]
theorem ask_dual0 (n : Nat) (p : Nat → Bool) : askN n (dualP n p) 0 0 = askN n p 0 0 :=
  ask_dual p _ 0 0 0 rfl (View.zero n) ⟨fun y => by simp⟩

/-! lists -/
theorem setF_famL (N : Nat) (q : Nat → Bool) (s : Nat) : (setF (famL N q)).testBit s = (decide (s < N) && q s) := by
  rw [Bool.eq_iff_iff, setF_mem (fun x hx => (mem_famL.1 hx).1), mem_famL, Bool.and_eq_true, decide_eq_true_iff]
  constructor
  · rintro ⟨_, h1, h2⟩; exact ⟨by omega, by simpa using h2⟩
  · rintro ⟨h1, h2⟩; exact ⟨by omega, by omega, by simpa using h2⟩
theorem fam_of {n : Nat} (h1 : 1 ≤ n) (hn : n ≤ 6) {q : Nat → Bool} (hd : ∀ s x, s < 2 ^ n → x < n → q s = true → q (rm s x) = true) : Fam n (famL (2 ^ n) q) := by
  refine ⟨by omega, by omega, fun s hs => ?_, famL_asc _ _, fun s hs x hx => ?_⟩
  · obtain ⟨a, b, _⟩ := mem_famL.1 hs
    rw [p2_nat]; exact ⟨a, b⟩
  · obtain ⟨a, b, c⟩ := mem_famL.1 hs
    have := rm_le s.toNat x
    exact mem_famL.2 ⟨by omega, by omega, by rw [Int.toNat_natCast]; exact hd _ _ (by omega) (by omega) c⟩
theorem Fam.same {n : Nat} {l : List Int} (h : Fam n l) : famL (2 ^ n) (setF l).testBit = l :=
  famL_setF (fun x hx => by have := h.bd x hx; rw [p2_nat] at this; exact this) h.asc
theorem Fam.lt {n : Nat} {l : List Int} (h : Fam n l) : setF l < 2 ^ (2 ^ n) := setF_lt fun x hx => by have := h.bd x hx; rw [p2_nat] at this; exact this
theorem Fam.mem {n : Nat} {l : List Int} (h : Fam n l) (s : Nat) : (setF l).testBit s = true ↔ (s : Int) ∈ l := setF_mem (fun x hx => (h.bd x hx).1) s
theorem Fam.rm {n : Nat} {l : List Int} (h : Fam n l) {s x : Nat} (hx : x < n) (hs : (setF l).testBit s = true) : (setF l).testBit (rm s x) = true := by
  rw [h.mem] at hs ⊢
  have := h.down s hs x (by omega)
  simpa using this
theorem fam_dual {n : Nat} {l : List Int} (h : Fam n l) : Fam n (famL (2 ^ n) (dualP n (setF l).testBit)) := by
  have h1 := h.n1; have h6 := h.n6
  refine fam_of (by omega) (by omega) fun s x hs hx hq => ?_
  unfold dualP at *
  cases e : (setF l).testBit (flip n (YtjddbglbodkihaaDoor.rm s x))
  · rfl
  · have hr := rm_le s x
    have hlt : YtjddbglbodkihaaDoor.rm s x < 2 ^ n := by omega
    have h3 : YtjddbglbodkihaaDoor.rm (flip n (YtjddbglbodkihaaDoor.rm s x)) x = flip n s ∨ flip n (YtjddbglbodkihaaDoor.rm s x) = flip n s := by
      cases hb : s.testBit x
      · right; rw [rm_same hb]
      · left
        apply bits_ext
        intro y
        rw [rm_bit, flip_bit hlt, flip_bit hs, rm_bit]
        by_cases e2 : x = y
        · subst e2; simp [hb]
        · simp [e2]
    rcases h3 with h3 | h3
    · have := h.rm hx e
      rw [h3] at this
      rw [this] at hq; cases hq
    · rw [h3] at e
      rw [e] at hq; cases hq
end Go.Proofs.YtjddbglbodkihaaDoor
