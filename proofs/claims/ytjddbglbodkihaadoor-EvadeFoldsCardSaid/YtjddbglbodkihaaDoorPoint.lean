/- Plain laws of families of sets of six elements: one that is whole and cannot be folded is a point; one whose two parts at an element are whole is whole. No condition. -/
import Derived.Test.YtjddbglbodkihaaDoorSrch
namespace Go.Proofs.YtjddbglbodkihaaDoor

theorem sz_all : ∀ u : Fin 64, ∀ x : Fin 6, u.val.testBit x.val = false → sz (ad u.val x.val) = sz u.val + 1 := by decide +kernel
theorem ad_lt_all : ∀ u : Fin 64, ∀ x : Fin 6, ad u.val x.val < 64 := by decide +kernel
theorem ad_lt {u x : Nat} (h : u < 64) (hx : x < 6) : ad u x < 64 := ad_lt_all ⟨u, h⟩ ⟨x, hx⟩
theorem sz_ad {u x : Nat} (h : u < 64) (hx : x < 6) (ho : u.testBit x = false) : sz (ad u x) = sz u + 1 := sz_all ⟨u, h⟩ ⟨x, hx⟩ ho
theorem sz_one_all : ∀ u : Fin 64, sz u.val = 1 → ∃ x : Fin 6, u.val = 1 <<< x.val := by decide +kernel
theorem sz_zero_all : ∀ u : Fin 64, sz u.val = 0 → u.val = 0 := by decide +kernel
theorem two_cyc : ∀ x y : Fin 6, x ≠ y → bm ((1 <<< (1 <<< x.val)) ||| (1 <<< (1 <<< y.val))) 64 = 0 := by decide +kernel
theorem sz_le (u : Nat) : sz u ≤ 6 := by unfold sz; exact Nat.le_trans List.countP_le_length (by simp)
theorem one_cyc : bm 1 64 = 0 := by decide +kernel
theorem mem_faces {k u : Nat} : u ∈ facesOf k ↔ u < 64 ∧ sz u = k := by simp [facesOf]
theorem mem_cofs {r t : Nat} : t ∈ cofs r ↔ ∃ y, y < 6 ∧ r.testBit y = false ∧ t = ad r y := by
  unfold cofs
  simp only [List.mem_filterMap, List.mem_range]
  constructor
  · rintro ⟨y, hy, h⟩
    cases e : r.testBit y
    · rw [e] at h; simp at h; exact ⟨y, hy, e, h.symm⟩
    · rw [e] at h; simp at h
  · rintro ⟨y, hy, h1, h2⟩
    exact ⟨y, hy, by simp [h1, h2]⟩

/-- A family: sets of six elements. -/
def Small (K : Nat → Bool) : Prop := ∀ u, K u = true → u < 64
/-- Just one element alone, and the empty set. -/
def Point (K : Nat → Bool) : Prop := ∃ v, v < 6 ∧ ∀ u, K u = (decide (u = 0) || decide (u = 1 <<< v))

theorem top_ex {K : Nat → Bool} {u0 : Nat} (h0 : K u0 = true) : ∀ n, (∀ u, K u = true → sz u ≤ n) → ∃ k, (∃ u, K u = true ∧ sz u = k) ∧ ∀ u, K u = true → sz u ≤ k := by
  intro n
  induction n with
  | zero => intro h; exact ⟨0, ⟨u0, h0, by have := h u0 h0; omega⟩, h⟩
  | succ n ih =>
    intro h
    by_cases e : ∃ u, K u = true ∧ sz u = n + 1
    · exact ⟨n + 1, e, h⟩
    · exact ih fun u hu => by
        have := h u hu
        rcases Nat.lt_or_ge n (sz u) with g | g
        · exact absurd ⟨u, hu, by omega⟩ e
        · exact g

theorem whole_stuck {K : Nat → Bool} (hs : Small K) (hK : Shut K) (hw : Whole K) (h0 : K 0 = true) (hn : ∀ s t x, s ≠ 0 → ¬ Folds K s t x) : Point K := by
  obtain ⟨k, ⟨u1, hu1, hk1⟩, hmax⟩ := top_ex h0 6 fun u _ => sz_le u
  let T : Nat → Bool := fun u => K u && decide (sz u = k)
  have hT : ∀ u, T u = true ↔ K u = true ∧ sz u = k := fun u => by simp [T]
  have hno : ¬ HasCyc T := by
    rintro ⟨Z, hZ, hin, hb⟩
    have hin' : ∀ u, Z.testBit u = true → K u = true ∧ sz u = k := fun u hu => (hT u).1 (hin u hu)
    obtain ⟨D, hD, he⟩ := hw (fun u => Z.testBit u) (fun u hu => (hin' u hu).1) (cyc_of (fun u hu => hs u (hin' u hu).1) hb)
    obtain ⟨u, hu⟩ := Nat.exists_testBit_of_ne_zero hZ
    have hbd := he u
    simp only [hu] at hbd
    have : ∃ x, x < 6 ∧ ex D u x = true := by
      by_cases hex : ∃ x, x < 6 ∧ ex D u x = true
      · exact hex
      · exfalso
        unfold bd at hbd
        rw [xs_zero fun x hx => by
          cases e : ex D u x
          · rfl
          · exact absurd ⟨x, hx, e⟩ hex] at hbd
        cases hbd
    obtain ⟨x, hx, hex⟩ := this
    simp only [ex, Bool.and_eq_true, Bool.not_eq_true'] at hex
    have h1 := sz_ad (hs u (hin' u hu).1) hx hex.1
    have h2 := hmax _ (hD _ hex.2)
    have h3 := (hin' u hu).2
    omega
  have hk6 : k ≤ 6 := hk1 ▸ sz_le u1
  by_cases k0 : k = 0
  · exfalso
    refine hno ⟨1, by decide, fun u hu => ?_, one_cyc⟩
    have : u = 0 := by
      rcases Nat.eq_zero_or_pos u with g | g
      · exact g
      · have : (1 : Nat).testBit u = false := Nat.testBit_lt_two_pow (by
          have := Nat.pow_lt_pow_right (show 1 < 2 by decide) g
          simpa using this)
        rw [this] at hu; cases hu
    subst this
    exact (hT 0).2 ⟨h0, by rw [k0]; decide⟩
  by_cases k1 : k = 1
  · subst k1
    obtain ⟨v, hv⟩ := sz_one_all ⟨u1, hs u1 hu1⟩ hk1
    simp only at hv
    refine ⟨v.val, v.isLt, fun u => ?_⟩
    rw [Bool.eq_iff_iff]
    simp only [Bool.or_eq_true, decide_eq_true_eq]
    constructor
    · intro hu
      have h1 := hmax u hu
      rcases Nat.lt_or_ge (sz u) 1 with g | g
      · exact .inl (sz_zero_all ⟨u, hs u hu⟩ (by simp only; omega))
      · right
        have hu2 : sz u = 1 := by omega
        obtain ⟨w, hw2⟩ := sz_one_all ⟨u, hs u hu⟩ hu2
        simp only at hw2
        by_cases e : v = w
        · rw [hw2, e]
        · exfalso
          refine hno ⟨(1 <<< (1 <<< v.val)) ||| (1 <<< (1 <<< w.val)), ?_, fun y hy => ?_, two_cyc v w e⟩
          · intro h
            have : ((1 <<< (1 <<< v.val)) ||| (1 <<< (1 <<< w.val))).testBit (1 <<< w.val) = true := by rw [or_bit]; simp
            rw [h] at this; simp at this
          · rw [or_bit] at hy
            rw [hT]
            simp only [Nat.one_shiftLeft, Nat.testBit_two_pow, Bool.or_eq_true, decide_eq_true_eq] at hy
            rcases hy with hy | hy
            · rw [← hy, ← Nat.one_shiftLeft, ← hv]; exact ⟨hu1, hk1⟩
            · rw [← hy, ← Nat.one_shiftLeft, ← hw2]; exact ⟨hu, hu2⟩
    · rintro (rfl | rfl)
      · exact h0
      · rw [← hv]; exact hu1
  · exfalso
    have N : NoFree (facesOf (k - 1)) T := ⟨fun r hr t ht hTt => by
      obtain ⟨hr1, hr2⟩ := mem_faces.1 hr
      obtain ⟨x, hx, hxo, rfl⟩ := mem_cofs.1 ht
      by_cases hex : ∃ t' ∈ cofs r, t' ≠ ad r x ∧ T t' = true
      · exact hex
      · exfalso
        have hr0 : r ≠ 0 := by
          rintro rfl
          have : sz 0 = 0 := by decide
          omega
        have hKt := ((hT _).1 hTt).1
        refine hn r (ad r x) x hr0 ⟨hx, hxo, rfl, hK r x hKt, hKt, fun y hy hyo hKy => ?_⟩
        by_cases e : ad r y = ad r x
        · exact ad_inj hyo e
        · exact absurd ⟨ad r y, mem_cofs.2 ⟨y, hy, hyo, rfl⟩, e, (hT _).2 ⟨hKy, by rw [sz_ad hr1 hy hyo]; omega⟩⟩ hex⟩
    have hex : ∃ t ∈ facesOf k, T t = true := ⟨u1, mem_faces.2 ⟨hs u1 hu1, hk1⟩, (hT u1).2 ⟨hu1, hk1⟩⟩
    obtain ⟨s2, s3, s4, s5, s6⟩ := starts
    have : start k = true := by
      rcases (show k = 2 ∨ k = 3 ∨ k = 4 ∨ k = 5 ∨ k = 6 by omega) with rfl | rfl | rfl | rfl | rfl
      · exact s2
      · exact s3
      · exact s4
      · exact s5
      · exact s6
    exact hno (start_has this N hex)

/-- A point is whole. -/
theorem Point.whole {K : Nat → Bool} (h : Point K) : Whole K := by
  obtain ⟨v, hv, hK⟩ := h
  intro C hC hcy
  have hz : (0 : Nat).testBit v = false := Nat.zero_testBit _
  have ha : ad 0 v = 1 <<< v := by simp [ad]
  have hne : (1 <<< v : Nat) ≠ 0 := by
    intro e
    have := ad_mem 0 v
    rw [ha, e] at this; simp at this
  have h1 : C (1 <<< v) = false := by
    have := hcy 0
    unfold bd at this
    rw [xs_one hv] at this
    · simpa [ex, hz, ha] using this
    · intro y _ hy
      simp only [ex, Nat.zero_testBit, Bool.not_false, Bool.true_and]
      cases e : C (ad 0 y)
      · rfl
      · have h2 := hC _ e
        rw [hK] at h2
        simp only [Bool.or_eq_true, decide_eq_true_eq] at h2
        rcases h2 with h2 | h2
        · have := ad_mem 0 y; rw [h2] at this; simp at this
        · rw [← ha] at h2
          exact absurd (ad_inj (Nat.zero_testBit _) h2) hy
  cases h0 : C 0
  · refine ⟨fun _ => false, fun u h => (by cases h), fun u => ?_⟩
    have e1 : bd (fun _ => false) u = false := by
      unfold bd
      exact xs_zero fun x _ => by simp [ex]
    rw [e1]
    cases e : C u
    · rfl
    · have h2 := hC u e
      rw [hK] at h2
      simp only [Bool.or_eq_true, decide_eq_true_eq] at h2
      rcases h2 with rfl | rfl
      · rw [h0] at e; cases e
      · rw [h1] at e; cases e
  · refine ⟨one (1 <<< v), fun u hu => ?_, fun u => ?_⟩
    · have : u = 1 <<< v := by simpa [one] using hu
      subst this
      rw [hK]; simp
    · cases e : C u
      · cases e2 : bd (one (1 <<< v)) u
        · rfl
        · obtain ⟨x, _, h3, h4⟩ := bd_one_sub e2
          rw [← ha] at h4
          have hb : ∀ y, (ad u x).testBit y = (ad 0 v).testBit y := fun y => by rw [h4]
          have hu0 : u = 0 := by
            apply Nat.eq_of_testBit_eq
            intro i
            rw [Nat.zero_testBit]
            cases hi : u.testBit i
            · rfl
            · have g1 := hb i
              rw [ad_bit, ad_bit, hi] at g1
              have hvi : v = i := by simpa using g1.symm
              have g2 := hb x
              rw [ad_mem, ad_bit] at g2
              have hvx : v = x := by simpa using g2.symm
              subst hvi; subst hvx
              rw [h3] at hi; cases hi
          subst hu0
          rw [h0] at e; cases e
      · have h2 := hC u e
        rw [hK] at h2
        simp only [Bool.or_eq_true, decide_eq_true_eq] at h2
        rcases h2 with rfl | rfl
        · exact bd_one hv hz ha
        · rw [h1] at e; cases e

/-- The two parts of a family at an element. -/
def lk (x : Nat) (K : Nat → Bool) (u : Nat) : Bool := !u.testBit x && K (ad u x)
def wo (x : Nat) (K : Nat → Bool) (u : Nat) : Bool := !u.testBit x && K u
theorem bd_out {C : Nat → Bool} {x u : Nat} (hx : x < 6) (hu : u.testBit x = false) : bd C u = (bd (wo x C) u ^^ lk x C u) := by
  have h : ∀ y, ex C u y = (ex (wo x C) u y ^^ (decide (y = x) && lk x C u)) := by
    intro y
    by_cases e : y = x
    · subst e; simp [ex, wo, lk, hu, ad_mem]
    · simp [ex, wo, ad_bit, hu, e]
  unfold bd
  rw [xs_congr (fun y _ => h y), xs_xor]
  congr 1
  rw [xs_one hx]
  · simp
  · intro y _ hne; simp [hne]
theorem bd_in {C : Nat → Bool} {x u : Nat} (hu : u.testBit x = false) : bd C (ad u x) = bd (lk x C) u := by
  unfold bd
  apply xs_congr
  intro y _
  simp only [ex, lk, ad_bit, hu]
  by_cases e : x = y
  · subst e; simp [hu]
  · have e2 : ¬ y = x := fun h => e h.symm
    simp [e, e2, ad_comm u x y]
theorem lk_out {C : Nat → Bool} {x u : Nat} (hu : u.testBit x = true) : lk x C u = false := by simp [lk, hu]
theorem bd_lk_in {C : Nat → Bool} {x u : Nat} (hu : u.testBit x = true) : bd (lk x C) u = false := by
  unfold bd
  apply xs_zero
  intro y _
  simp [ex, lk, ad_bit, hu]
/-- A cone over a chain without x. -/
def cone (x : Nat) (D : Nat → Bool) (u : Nat) : Bool := u.testBit x && D (rm u x)
theorem lk_cone {x : Nat} {D : Nat → Bool} (hD : ∀ u, D u = true → u.testBit x = false) (u : Nat) : lk x (cone x D) u = D u := by
  unfold lk cone
  cases h : u.testBit x
  · simp [ad_mem, rm_ad h]
  · cases e : D u
    · rfl
    · rw [hD u e] at h; cases h
theorem wo_cone (x : Nat) (D : Nat → Bool) (u : Nat) : wo x (cone x D) u = false := by
  unfold wo cone
  cases u.testBit x <;> simp
theorem bd_zero {C : Nat → Bool} (h : ∀ u, C u = false) (u : Nat) : bd C u = false := by
  unfold bd
  exact xs_zero fun x _ => by simp [ex, h]

theorem whole_split {K : Nat → Bool} {x : Nat} (hx : x < 6) (hK : Shut K) (hL : Whole (lk x K)) (hM : Whole (wo x K)) : Whole K := by
  intro C hC hcy
  have hL1 : Sub (lk x C) (lk x K) := by
    intro u hu
    simp only [lk, Bool.and_eq_true] at hu ⊢
    exact ⟨hu.1, hC _ hu.2⟩
  have hL2 : Cyc (lk x C) := by
    intro u
    cases h : u.testBit x
    · rw [← bd_in h]; exact hcy _
    · exact bd_lk_in h
  obtain ⟨D1, hD1, e1⟩ := hL _ hL1 hL2
  have hD1x : ∀ u, D1 u = true → u.testBit x = false := fun u hu => by
    have := hD1 u hu
    simp only [lk, Bool.and_eq_true, Bool.not_eq_true'] at this
    exact this.1
  have hlc := lk_cone hD1x
  have hc1 : ∀ u, u.testBit x = false → bd (cone x D1) (ad u x) = lk x C u := fun u hu => by
    rw [bd_in hu, bd_congr hlc]; exact e1 u
  have hc0 : ∀ u, u.testBit x = false → bd (cone x D1) u = D1 u := fun u hu => by
    rw [bd_out hx hu, bd_zero (wo_cone x D1), hlc u]; simp
  have hS : Sub (fun u => C u ^^ bd (cone x D1) u) (wo x K) := by
    intro u hu
    simp only at hu
    cases h : u.testBit x
    · rw [hc0 u h] at hu
      simp only [wo, h, Bool.not_false, Bool.true_and]
      cases hc : C u
      · rw [hc] at hu
        have h2 := hD1 u (by simpa using hu)
        simp only [lk, Bool.and_eq_true] at h2
        exact hK u x h2.2
      · exact hC u hc
    · exfalso
      have h2 := hc1 (rm u x) (rm_not u x)
      rw [ad_rm h] at h2
      rw [h2, lk, rm_not, ad_rm h] at hu
      simp at hu
  obtain ⟨D0, hD0, e0⟩ := hM _ hS fun u => by rw [bd_xor, hcy u, bd_bd]; rfl
  refine ⟨fun u => D0 u ^^ cone x D1 u, ?_, fun u => ?_⟩
  · refine Sub.xor (fun u hu => ?_) (fun u hu => ?_)
    · have := hD0 u hu
      simp only [wo, Bool.and_eq_true] at this
      exact this.2
    · simp only [cone, Bool.and_eq_true] at hu
      have := hD1 _ hu.2
      simp only [lk, Bool.and_eq_true] at this
      rw [ad_rm hu.1] at this
      exact this.2
  · rw [bd_xor, e0 u]
    cases C u <;> cases bd (cone x D1) u <;> rfl

theorem xor_lem {a b : Bool} (h : false = (b ^^ a)) : a = b := by cases a <;> cases b <;> first | rfl | cases h
/-- All sets of some elements, of which there is one: whole. -/
theorem whole_cone {K : Nat → Bool} {x : Nat} (hx : x < 6) (h : ∀ u, K u = true → K (ad u x) = true) : Whole K := by
  intro C hC hcy
  refine ⟨cone x (wo x C), fun u hu => ?_, fun u => ?_⟩
  · simp only [cone, wo, Bool.and_eq_true] at hu
    have := h _ (hC _ hu.2.2)
    rw [ad_rm hu.1] at this
    exact this
  · have hlc := lk_cone (x := x) (D := wo x C) fun u hu => by
      simp only [wo, Bool.and_eq_true, Bool.not_eq_true'] at hu; exact hu.1
    cases hu : u.testBit x
    · rw [bd_out hx hu, bd_zero (wo_cone x _), hlc u]
      simp [wo, hu]
    · have h1 := ad_rm hu
      have h2 := rm_not u x
      have h3 : bd (cone x (wo x C)) (ad (rm u x) x) = bd (wo x C) (rm u x) := by rw [bd_in h2, bd_congr hlc]
      rw [h1] at h3
      rw [h3]
      have h4 := bd_out (C := C) hx h2
      rw [hcy] at h4
      have h5 : lk x C (rm u x) = C u := by simp [lk, h2, h1]
      rw [h5] at h4
      exact (xor_lem h4).symm
end Go.Proofs.YtjddbglbodkihaaDoor
