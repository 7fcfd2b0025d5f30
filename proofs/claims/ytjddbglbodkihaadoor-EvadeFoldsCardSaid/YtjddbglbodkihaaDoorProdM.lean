/- Plain laws of joins: their sums, their links, and that they are settled early with either part. Conditions: at most six elements. -/
import Derived.Test.YtjddbglbodkihaaDoorSplitM
namespace Go.Proofs.YtjddbglbodkihaaDoor

theorem gs_mul_add (h : Nat → Int) (A : Nat) : ∀ B, gs h (A * B) = gs (fun u => gs (fun x => h (A * u + x)) A) B := by
  have add : ∀ k K, gs h (K + k) = gs h K + gs (fun x => h (K + x)) k := by
    intro k
    induction k with
    | zero => intro K; simp [gs]
    | succ k ih => intro K; rw [show K + (k + 1) = (K + k) + 1 by omega]; simp only [gs]; rw [ih]; omega
  intro B
  induction B with
  | zero => simp [gs]
  | succ B ih =>
    rw [Nat.mul_succ, add, ih]
    rfl
theorem low_mod (s n : Nat) : s &&& (2 ^ n - 1) = s % 2 ^ n := Nat.and_two_pow_sub_one_eq_mod s n
theorem high_div (s n : Nat) : s >>> n = s / 2 ^ n := Nat.shiftRight_eq_div_pow s n
theorem sg_join_all : ∀ n : Fin 7, ∀ s : Fin 64, sg s.val = sg (s.val % 2 ^ n.val) * sg (s.val / 2 ^ n.val) := by decide +kernel
theorem sg_join {n s : Nat} (hn : n ≤ 6) (h : s < 64) : sg s = sg (s % 2 ^ n) * sg (s / 2 ^ n) := sg_join_all ⟨n, by omega⟩ ⟨s, h⟩
theorem bi_and (a b : Bool) (x y : Int) : bi (a && b) (x * y) = bi a x * bi b y := by cases a <;> cases b <;> simp [bi]
theorem gs_prod (f g : Nat → Int) (A B : Nat) (h : Nat → Int) (hh : ∀ x u, x < A → u < B → h (A * u + x) = f x * g u) : gs h (A * B) = gs f A * gs g B := by
  rw [gs_mul_add, ← gs_mul]
  apply gs_congr
  intro u hu
  rw [Int.mul_comm, ← gs_mul]
  apply gs_congr
  intro x hx
  rw [hh x u hx hu, Int.mul_comm]
theorem join_parts {n x u : Nat} (hx : x < 2 ^ n) : (2 ^ n * u + x) % 2 ^ n = x ∧ (2 ^ n * u + x) / 2 ^ n = u := by
  refine ⟨?_, ?_⟩
  · rw [Nat.mul_add_mod]; exact Nat.mod_eq_of_lt hx
  · rw [Nat.mul_add_div (Nat.two_pow_pos n), Nat.div_eq_of_lt hx]; omega
theorem join_top {n m x u : Nat} (hx : x < 2 ^ n) (hu : u < 2 ^ m) : 2 ^ n * u + x < 2 ^ (n + m) := by
  rw [Nat.pow_add]
  have h1 : 2 ^ n * u + x < 2 ^ n * (u + 1) := by rw [Nat.mul_succ]; omega
  exact Nat.lt_of_lt_of_le h1 (Nat.mul_le_mul_left _ hu)
theorem sum_join {n m F G : Nat} (h : n + m ≤ 6) : sumP (joinP n F G) (2 ^ (n + m)) = sumP F.testBit (2 ^ n) * sumP G.testBit (2 ^ m) := by
  unfold sumP
  rw [Nat.pow_add]
  refine gs_prod _ _ _ _ _ fun x u hx hu => ?_
  obtain ⟨e1, e2⟩ := join_parts (u := u) hx
  have ht := join_top hx hu
  have h64 := two6 h
  rw [sg_join (n := n) (by omega) (by omega)]
  unfold joinP
  rw [low_mod, high_div, e1, e2, bi_and]
theorem len_join {n m F G : Nat} : ((famL (2 ^ (n + m)) (joinP n F G)).length : Int) = ((famL (2 ^ n) F.testBit).length : Int) * ((famL (2 ^ m) G.testBit).length : Int) := by
  rw [len_fam, len_fam, len_fam, Nat.pow_add]
  refine gs_prod _ _ _ _ _ fun x u hx hu => ?_
  obtain ⟨e1, e2⟩ := join_parts (u := u) hx
  unfold joinP
  rw [low_mod, high_div, e1, e2, ← bi_and]
  simp
/-- A join of families is a family. -/
theorem low_rm {n s x : Nat} : rm s x &&& (2 ^ n - 1) = rm (s &&& (2 ^ n - 1)) x := by
  apply bits_ext
  intro y
  rw [low_bit, rm_bit, rm_bit, low_bit]
  cases s.testBit y <;> cases decide (x = y) <;> cases decide (y < n) <;> rfl
theorem low_rm2 {n s x : Nat} (hx : n ≤ x) : rm s x &&& (2 ^ n - 1) = s &&& (2 ^ n - 1) := by
  apply bits_ext
  intro y
  rw [low_bit, rm_bit, low_bit]
  by_cases h : y < n
  · have : ¬ x = y := by omega
    simp [this]
  · simp [h]
theorem high_rm {n s x : Nat} (hx : x < n) : rm s x >>> n = s >>> n := by
  apply bits_ext
  intro y
  rw [Nat.testBit_shiftRight, rm_bit, Nat.testBit_shiftRight]
  have : ¬ x = n + y := by omega
  simp [this]
theorem high_rm2 {n s x : Nat} (hx : n ≤ x) : rm s x >>> n = rm (s >>> n) (x - n) := by
  apply bits_ext
  intro y
  rw [Nat.testBit_shiftRight, rm_bit, rm_bit, Nat.testBit_shiftRight]
  by_cases e : x - n = y
  · have : x = n + y := by omega
    simp [this]
  · have : ¬ x = n + y := by omega
    simp [e, this]
theorem low_ad {n s x : Nat} (hx : x < n) : ad s x &&& (2 ^ n - 1) = ad (s &&& (2 ^ n - 1)) x := by
  apply bits_ext
  intro y
  rw [low_bit, ad_bit, ad_bit, low_bit]
  by_cases e : x = y
  · subst e; simp [hx]
  · simp [e]
theorem high_ad {n s x : Nat} (hx : x < n) : ad s x >>> n = s >>> n := by
  apply bits_ext
  intro y
  rw [Nat.testBit_shiftRight, ad_bit, Nat.testBit_shiftRight]
  have : ¬ x = n + y := by omega
  simp [this]
theorem fam_join {n m : Nat} {f g : List Int} (hf : Fam n f) (hg : Fam m g) (h : n + m ≤ 6) : Fam ((n + m : Nat) : Int) (famL (2 ^ (n + m)) (joinP n (setF f) (setF g))) := by
  have h1 := hf.n1n
  refine fam_of (by omega) h fun s x _ hx hs => ?_
  unfold joinP at hs ⊢
  obtain ⟨a, b⟩ := andE hs
  by_cases e : x < n
  · rw [low_rm, high_rm e, hf.rm e a, b]; rfl
  · rw [low_rm2 (by omega), high_rm2 (by omega), a, hg.rm (by omega) b]; rfl
/-- The link of a join is that of its first part joined. -/
theorem link_join {n m x : Nat} {f g : List Int} (hx : x < n) :
    famL (2 ^ (n + m)) (linkP x (setF (famL (2 ^ (n + m)) (joinP n (setF f) (setF g))))) = famL (2 ^ (n + m)) (joinP n (setF (famL (2 ^ n) (linkP x (setF f)))) (setF g)) := by
  apply famL_congr
  intro s hs
  have hl : ad s x < 2 ^ (n + m) := or_lt hs (by omega)
  unfold linkP
  rw [setF_famL]
  unfold joinP
  rw [setF_famL, low_ad hx, high_ad hx]
  have h2 : s &&& (2 ^ n - 1) < 2 ^ n := by rw [low_mod]; exact Nat.mod_lt _ (Nat.two_pow_pos n)
  have h3 : (s &&& (2 ^ n - 1)).testBit x = s.testBit x := by rw [low_bit]; simp [hx]
  simp only [hl, h2, h3, decide_true, Bool.true_and]
  cases s.testBit x <;> simp

/-- One question, whichever. -/
theorem ask_step {N : Nat} {q : Nat → Bool} {a i x : Nat} (hx : x < N) (ha : a.testBit x = false) : askN N q a i ≤ valN N q a i x := by
  rw [askN_eq]
  split
  · exact Nat.zero_le _
  · exact lb_le hx ha
/-- Views of both parts. -/
def jn (n a b : Nat) : Nat := a ||| (b <<< n)
theorem jn_bit {n a b : Nat} (ha : a < 2 ^ n) (y : Nat) : (jn n a b).testBit y = if y < n then a.testBit y else b.testBit (y - n) := by
  unfold jn
  rw [Nat.testBit_or, Nat.testBit_shiftLeft]
  by_cases h : y < n
  · have : ¬ y ≥ n := by omega
    simp [h, this]
  · have h1 : y ≥ n := by omega
    have : a.testBit y = false := by
      cases e : a.testBit y
      · rfl
      · exact absurd (bit_lt ha e) h
    simp [h, h1, this]
theorem jn_adl {n a b x : Nat} (ha : a < 2 ^ n) (hx : x < n) : ad (jn n a b) x = jn n (ad a x) b := by
  apply bits_ext
  intro y
  rw [ad_bit, jn_bit ha, jn_bit (ad_lt2 ha hx), ad_bit]
  by_cases h : y < n
  · simp [h]
  · have : ¬ x = y := by omega
    simp [h, this]
theorem jn_adh {n a b x : Nat} (ha : a < 2 ^ n) : ad (jn n a b) (n + x) = jn n a (ad b x) := by
  apply bits_ext
  intro y
  rw [ad_bit, jn_bit ha, jn_bit ha, ad_bit]
  by_cases h : y < n
  · have : ¬ n + x = y := by omega
    simp [h, this]
  · by_cases e : n + x = y
    · subst e
      simp
    · have : ¬ x = y - n := by omega
      simp [h, e, this]
theorem agr_jn {n a i b j s : Nat} (ha : a < 2 ^ n) (hi : i < 2 ^ n) : agr (jn n a b) (jn n i j) s = (agr a i (s &&& (2 ^ n - 1)) && agr b j (s >>> n)) := by
  rw [Bool.eq_iff_iff, Bool.and_eq_true, agr_iff, agr_iff, agr_iff]
  constructor
  · intro h
    refine ⟨fun y => ?_, fun y => ?_⟩
    · have := h y
      rw [jn_bit ha, jn_bit hi] at this
      rw [low_bit]
      by_cases e : y < n
      · simp only [e, if_true] at this
        simp [e, this]
      · have e1 : i.testBit y = false := by
          cases g : i.testBit y
          · rfl
          · exact absurd (bit_lt hi g) e
        simp [e, e1]
    · have := h (n + y)
      rw [jn_bit ha, jn_bit hi] at this
      have e : ¬ n + y < n := by omega
      simp only [e, if_false, Nat.add_sub_cancel_left] at this
      rw [Nat.testBit_shiftRight]
      exact this
  · rintro ⟨h1, h2⟩ y
    rw [jn_bit ha, jn_bit hi]
    by_cases e : y < n
    · have := h1 y
      rw [low_bit] at this
      simp only [e, decide_true, Bool.and_true] at this
      simp [e, this]
    · have := h2 (y - n)
      rw [Nat.testBit_shiftRight, show n + (y - n) = y by omega] at this
      simp [e, this]
section
variable {n m F G : Nat}
theorem low_lt (n s : Nat) : s &&& (2 ^ n - 1) < 2 ^ n := by rw [low_mod]; exact Nat.mod_lt _ (Nat.two_pow_pos n)
theorem high_lt {n m s : Nat} (h : s < 2 ^ (n + m)) : s >>> n < 2 ^ m := by
  rw [high_div]
  rw [Nat.pow_add] at h
  exact Nat.div_lt_of_lt_mul h
/-- Where all of the first part is in, the other part's elements are enough. -/
theorem ask_low {a i : Nat} (ha : a < 2 ^ n) (hi : i < 2 ^ n) (hall : ∀ s, s < 2 ^ n → agr a i s = true → F.testBit s = true) :
    ∀ k b j, un m b = k → View m b j → askN (n + m) (joinP n F G) (jn n a b) (jn n i j) ≤ k := by
  intro k
  induction k with
  | zero =>
    intro b j h0 hv
    have : settl (2 ^ (n + m)) (joinP n F G) (jn n a b) (jn n i j) = true := by
      rw [settl_iff]
      have one : ∀ s, s < 2 ^ (n + m) → agr (jn n a b) (jn n i j) s = true → joinP n F G s = G.testBit j := by
        intro s hs h
        rw [agr_jn ha hi] at h
        obtain ⟨h1, h2⟩ := andE h
        rw [view_end h0 hv (high_lt hs)] at h2
        unfold joinP
        rw [hall _ (low_lt n s) h1, of_decide_eq_true h2]; rfl
      cases e : G.testBit j
      · left; intro s hs h; rw [one s hs h, e]
      · right; intro s hs h; rw [one s hs h, e]
    rw [ask_zero.2 this]; exact Nat.le_refl _
  | succ k ih =>
    intro b j hk hv
    obtain ⟨x, hx, hb⟩ := un_free hk
    have h0 : (jn n a b).testBit (n + x) = false := by
      rw [jn_bit ha]
      have : ¬ n + x < n := by omega
      simp [this, hb]
    have h1 := ask_step (N := n + m) (q := joinP n F G) (i := jn n i j) (show n + x < n + m by omega) h0
    have hu := un_ad hx hb
    have h2 := ih (ad b x) j (by omega) (hv.out hx)
    have h3 := ih (ad b x) (ad j x) (by omega) (hv.inn hx)
    unfold valN at h1
    rw [jn_adh ha, jn_adh hi] at h1
    omega
theorem ask_high {b j : Nat} (hall : ∀ s, s < 2 ^ m → agr b j s = true → G.testBit s = true) :
    ∀ k a i, un n a = k → View n a i → askN (n + m) (joinP n F G) (jn n a b) (jn n i j) ≤ k := by
  intro k
  induction k with
  | zero =>
    intro a i h0 hv
    have ha := hv.lt
    have hi := hv.ilt
    have : settl (2 ^ (n + m)) (joinP n F G) (jn n a b) (jn n i j) = true := by
      rw [settl_iff]
      have one : ∀ s, s < 2 ^ (n + m) → agr (jn n a b) (jn n i j) s = true → joinP n F G s = F.testBit i := by
        intro s hs h
        rw [agr_jn ha hi] at h
        obtain ⟨h1, h2⟩ := andE h
        rw [view_end h0 hv (low_lt n s)] at h1
        unfold joinP
        rw [hall _ (high_lt hs) h2, of_decide_eq_true h1, Bool.and_true]
      cases e : F.testBit i
      · left; intro s hs h; rw [one s hs h, e]
      · right; intro s hs h; rw [one s hs h, e]
    rw [ask_zero.2 this]; exact Nat.le_refl _
  | succ k ih =>
    intro a i hk hv
    obtain ⟨x, hx, hb⟩ := un_free hk
    have ha := hv.lt
    have hi := hv.ilt
    have h0 : (jn n a b).testBit x = false := by
      rw [jn_bit ha]; simp [hx, hb]
    have h1 := ask_step (N := n + m) (q := joinP n F G) (i := jn n i j) (show x < n + m by omega) h0
    have hu := un_ad hx hb
    have h2 := ih (ad a x) i (by omega) (hv.out hx)
    have h3 := ih (ad a x) (ad i x) (by omega) (hv.inn hx)
    unfold valN at h1
    rw [jn_adl ha hx, jn_adl hi hx] at h1
    omega
theorem settl_none {a i b j : Nat} (ha : a < 2 ^ n) (hi : i < 2 ^ n) (h : (∀ s, s < 2 ^ n → agr a i s = true → F.testBit s = false) ∨ (∀ s, s < 2 ^ m → agr b j s = true → G.testBit s = false)) : askN (n + m) (joinP n F G) (jn n a b) (jn n i j) = 0 := by
  apply ask_zero.2
  rw [settl_iff]
  left
  intro s hs hag
  rw [agr_jn ha hi] at hag
  obtain ⟨h1, h2⟩ := andE hag
  unfold joinP
  rcases h with h | h
  · rw [h _ (low_lt n s) h1]; rfl
  · rw [h _ (high_lt hs) h2, Bool.and_false]
theorem ask_first : ∀ k a i, un n a = k → View n a i → askN (n + m) (joinP n F G) (jn n a 0) (jn n i 0) ≤ askN n F.testBit a i + m := by
  intro k
  induction k with
  | zero =>
    intro a i h0 hv
    rcases settl_iff.1 (settl_all (i := i) h0 F.testBit) with h | h
    · rw [settl_none hv.lt hv.ilt (.inl h)]; exact Nat.zero_le _
    · have := ask_low (m := m) (G := G) hv.lt hv.ilt h _ 0 0 rfl (View.zero m)
      rw [un_none] at this
      omega
  | succ k ih =>
    intro a i hk hv
    cases hs : settl (2 ^ n) F.testBit a i
    · obtain ⟨hx, hb, he, _⟩ := best_is hs
      have h0 : (jn n a 0).testBit (bestN n F.testBit a i) = false := by rw [jn_bit hv.lt]; simp [hx, hb]
      have h1 := ask_step (N := n + m) (q := joinP n F G) (i := jn n i 0) (show bestN n F.testBit a i < n + m by omega) h0
      have hu := un_ad hx hb
      have h2 := ih (ad a (bestN n F.testBit a i)) i (by omega) (hv.out hx)
      have h3 := ih (ad a (bestN n F.testBit a i)) (ad i (bestN n F.testBit a i)) (by omega) (hv.inn hx)
      unfold valN at h1 he
      rw [jn_adl hv.lt hx, jn_adl hv.ilt hx] at h1
      omega
    · rcases settl_iff.1 hs with h | h
      · rw [settl_none hv.lt hv.ilt (.inl h)]; exact Nat.zero_le _
      · have := ask_low (m := m) (G := G) hv.lt hv.ilt h _ 0 0 rfl (View.zero m)
        rw [un_none] at this
        omega
theorem ask_second : ∀ k b j, un m b = k → View m b j → askN (n + m) (joinP n F G) (jn n 0 b) (jn n 0 j) ≤ askN m G.testBit b j + n := by
  have z := (View.zero n)
  intro k
  induction k with
  | zero =>
    intro b j h0 hv
    rcases settl_iff.1 (settl_all (i := j) h0 G.testBit) with h | h
    · rw [settl_none z.lt z.lt (.inr h)]; exact Nat.zero_le _
    · have := ask_high (n := n) (F := F) h _ 0 0 rfl z
      rw [un_none] at this
      omega
  | succ k ih =>
    intro b j hk hv
    cases hs : settl (2 ^ m) G.testBit b j
    · obtain ⟨hx, hb, he, _⟩ := best_is hs
      have h0 : (jn n 0 b).testBit (n + bestN m G.testBit b j) = false := by
        rw [jn_bit z.lt]
        have : ¬ n + bestN m G.testBit b j < n := by omega
        simp [this, hb]
      have h1 := ask_step (N := n + m) (q := joinP n F G) (i := jn n 0 j) (show n + bestN m G.testBit b j < n + m by omega) h0
      have hu := un_ad hx hb
      have h2 := ih (ad b (bestN m G.testBit b j)) j (by omega) (hv.out hx)
      have h3 := ih (ad b (bestN m G.testBit b j)) (ad j (bestN m G.testBit b j)) (by omega) (hv.inn hx)
      unfold valN at h1 he
      rw [jn_adh z.lt, jn_adh z.lt] at h1
      omega
    · rcases settl_iff.1 hs with h | h
      · rw [settl_none z.lt z.lt (.inr h)]; exact Nat.zero_le _
      · have := ask_high (n := n) (F := F) h _ 0 0 rfl z
        rw [un_none] at this
        omega
theorem early_join (h : askN n F.testBit 0 0 < n ∨ askN m G.testBit 0 0 < m) : askN (n + m) (joinP n F G) 0 0 < n + m := by
  have e : jn n 0 0 = 0 := by simp [jn]
  have h1 := ask_first (n := n) (m := m) (F := F) (G := G) _ 0 0 rfl (View.zero n)
  have h2 := ask_second (n := n) (m := m) (F := F) (G := G) _ 0 0 rfl (View.zero m)
  rw [e] at h1 h2
  omega
end
end Go.Proofs.YtjddbglbodkihaaDoor
