/- Plain laws of folding: what is kept along folds, where folding stands still, and that what is settled early folds away. Conditions: families of at most six elements. -/
import Derived.Test.YtjddbglbodkihaaDoorPoint
import Derived.Test.YtjddbglbodkihaaDoorSubM
namespace Go.Proofs.YtjddbglbodkihaaDoor

/-- s lies in just one greater set of F: t, with one element more. -/
structure FR (F s t : Nat) : Prop where
  pos : 0 < s
  inS : F.testBit s = true
  inT : F.testBit t = true
  ne : t ≠ s
  sub : s &&& t = s
  sz1 : sz t = sz s + 1
  only : ∀ v, F.testBit v = true → v ≠ s → s &&& v = s → v = t
def remF (F s t : Nat) : Nat := mkN 64 (less F.testBit s t)
theorem remF_bit {F s t : Nat} (hF : F < 18446744073709551616) (u : Nat) : (remF F s t).testBit u = less F.testBit s t u := by
  unfold remF
  rw [mkN_bit]
  by_cases h : u < 64
  · simp [h]
  · have : F.testBit u = false := by
      cases e : F.testBit u
      · rfl
      · exact absurd (bit_lt (k := 64) (by simpa using hF) e) h
    simp [h, less, this]
theorem remF_lt (F s t : Nat) : remF F s t < 18446744073709551616 := by
  have := mkN_lt (less F.testBit s t) 64
  simpa [remF] using this
def supB (s x : Nat) : Bool := decide (x ≠ s) && (s &&& x == s)
def supL (F s : Nat) : List Int := (famL 64 F.testBit).filter fun x => supB s x.toNat
theorem mem_supL {F s : Nat} (hF : F < 18446744073709551616) {d : Int} : d ∈ supL F s ↔ 0 ≤ d ∧ F.testBit d.toNat = true ∧ d.toNat ≠ s ∧ s &&& d.toNat = s := by
  unfold supL supB
  rw [List.mem_filter, mem_famL, Bool.and_eq_true, decide_eq_true_iff, beq_iff_eq]
  constructor
  · rintro ⟨⟨h0, _, h2⟩, h3, h4⟩
    exact ⟨h0, h2, h3, h4⟩
  · rintro ⟨h0, h2, h3, h4⟩
    refine ⟨⟨h0, ?_, h2⟩, h3, h4⟩
    have := bit_lt (k := 64) (by simpa using hF) h2
    omega
def lastD (l : List Int) : Int := l.getLastD 0
theorem fold_yes {F s : Nat} (hF : F < 18446744073709551616) (h0 : 0 < s) (hs : F.testBit s = true) (h1 : (supL F s).length = 1) (h2 : sz (lastD (supL F s)).toNat = sz s + 1) : ∃ t : Nat, lastD (supL F s) = t ∧ FR F s t := by
  obtain ⟨d, hd⟩ := List.length_eq_one_iff.1 h1
  rw [hd] at h2 ⊢
  have hm : d ∈ supL F s := by rw [hd]; simp
  obtain ⟨m0, m1, m2, m3⟩ := (mem_supL hF).1 hm
  obtain ⟨t, rfl⟩ := Int.eq_ofNat_of_zero_le m0
  rw [Int.toNat_natCast] at m1 m2 m3
  refine ⟨t, rfl, h0, hs, m1, m2, m3, by simpa [lastD] using h2, fun v hv hne hsv => ?_⟩
  have : (v : Int) ∈ supL F s := (mem_supL hF).2 ⟨by omega, by rw [Int.toNat_natCast]; exact hv, by rw [Int.toNat_natCast]; exact hne, by rw [Int.toNat_natCast]; exact hsv⟩
  rw [hd] at this
  simp at this
  omega
theorem FR.sup {F s t : Nat} (hF : F < 18446744073709551616) (h : FR F s t) : supL F s = [(t : Int)] := by
  refine rising_eq _ _ ((famL_asc _ _).filter _) (by simp) fun d => ?_
  rw [mem_supL hF, List.mem_singleton]
  constructor
  · rintro ⟨h0, h1, h2, h3⟩
    have := h.only _ h1 h2 h3
    omega
  · rintro rfl
    rw [Int.toNat_natCast]
    exact ⟨by omega, h.inT, h.ne, h.sub⟩
theorem fold_no {F s : Nat} (hF : F < 18446744073709551616) (h : ¬ ((supL F s).length = 1 ∧ sz (lastD (supL F s)).toNat = sz s + 1)) (t : Nat) : ¬ FR F s t := by
  intro hr
  refine h ?_
  rw [hr.sup hF]
  exact ⟨rfl, by simpa [lastD] using hr.sz1⟩
theorem codim_all : ∀ s t : Fin 64, s.val &&& t.val = s.val → sz t.val = sz s.val + 1 → ∃ x : Fin 6, s.val.testBit x.val = false ∧ ad s.val x.val = t.val := by decide +kernel
theorem sub_ad {s x : Nat} : s &&& ad s x = s := by
  apply bits_ext
  intro y
  rw [Nat.testBit_and, ad_bit]
  cases s.testBit y <;> simp
theorem FR.folds {F s t : Nat} (h : FR F s t) (hs : ∀ u, F.testBit u = true → u < 64) : ∃ x, Folds F.testBit s t x := by
  obtain ⟨x, h1, h2⟩ := codim_all ⟨s, hs _ h.inS⟩ ⟨t, hs _ h.inT⟩ h.sub h.sz1
  simp only at h1 h2
  refine ⟨x, x.isLt, h1, h2, h.inS, h.inT, fun y hy hsy hk => ?_⟩
  have := h.only _ hk (ad_ne hsy) sub_ad
  exact ad_inj hsy (this.trans h2.symm)
theorem shut_part {K : Nat → Bool} (hK : Shut K) : ∀ k u t, (∀ y, y < 6 → t.testBit y = true → u.testBit y = false → y < k) → (∀ y, u.testBit y = true → t.testBit y = true) → t < 64 → K t = true → K u = true := by
  intro k
  induction k with
  | zero =>
    intro u t h1 h2 h3 ht
    have : u = t := by
      apply bits_ext
      intro y
      cases e : t.testBit y
      · cases f : u.testBit y
        · rfl
        · rw [h2 y f] at e; cases e
      · cases f : u.testBit y
        · have hy : y < 6 := bit_lt (k := 6) (by simpa using h3) e
          exact absurd (h1 y hy e f) (by omega)
        · rfl
    rw [this]; exact ht
  | succ k ih =>
    intro u t h1 h2 h3 ht
    by_cases e : t.testBit k = true ∧ u.testBit k = false
    · have : K (ad u k) = true := by
        refine ih (ad u k) t (fun y hy hty huy => ?_) (fun y hy => ?_) h3 ht
        · rw [ad_bit] at huy
          have h4 : u.testBit y = false := by cases f : u.testBit y; rfl; rw [f] at huy; cases huy
          have := h1 y hy hty h4
          by_cases e2 : k = y
          · subst e2; simp at huy
          · omega
        · rw [ad_bit] at hy
          rcases orE hy with h | h
          · exact h2 y h
          · have := of_decide_eq_true h; subst this; exact e.1
      exact hK u k this
    · refine ih u t (fun y hy hty huy => ?_) h2 h3 ht
      have := h1 y hy hty huy
      by_cases e2 : y = k
      · subst e2; exact absurd ⟨hty, huy⟩ e
      · omega
theorem Folds.fr {F s t x : Nat} (h : Folds F.testBit s t x) (hK : Shut F.testBit) (hs : ∀ u, F.testBit u = true → u < 64) (h0 : s ≠ 0) : FR F s t where
  pos := by omega
  inS := h.inS
  inT := h.inT
  ne := h.ne
  sub := by rw [← h.ad_eq]; exact sub_ad
  sz1 := by rw [← h.ad_eq]; exact sz_ad (hs _ h.inS) h.x6 h.out
  only := fun v hv hne hsv => by
    have hsub : ∀ y, s.testBit y = true → v.testBit y = true := fun y hy => by
      rw [← hsv, Nat.testBit_and] at hy
      exact (andE hy).2
    have hone : ∀ y, v.testBit y = true → s.testBit y = false → y = x := fun y hvy hsy => by
      have hy : y < 6 := bit_lt (k := 6) (by simpa using hs v hv) hvy
      refine h.only y hy hsy ?_
      refine shut_part hK 6 _ v (fun z hz _ _ => hz) (fun z hz => ?_) (hs v hv) hv
      rw [ad_bit] at hz
      rcases orE hz with g | g
      · exact hsub z g
      · have := of_decide_eq_true g; subst this; exact hvy
    rw [← h.ad_eq]
    apply bits_ext
    intro y
    rw [ad_bit]
    cases hvy : v.testBit y
    · cases hsy : s.testBit y
      · by_cases e : x = y
        · subst e
          exfalso
          refine hne (bits_ext fun z => ?_)
          cases hvz : v.testBit z
          · cases hsz : s.testBit z
            · rfl
            · rw [hsub z hsz] at hvz; cases hvz
          · cases hsz : s.testBit z
            · have := hone z hvz hsz
              subst this; rw [hvy] at hvz; cases hvz
            · rfl
        · simp [e]
      · rw [hsub y hsy] at hvy; cases hvy
    · cases hsy : s.testBit y
      · have := hone y hvy hsy
        subst this; simp
      · simp
/-- Folds one after the other. -/
inductive FRun (F0 : Nat) : List (Int × Int) → Nat → Prop
  | nil : FRun F0 [] F0
  | snoc {l : List (Int × Int)} {F s t : Nat} : FRun F0 l F → FR F s t → FRun F0 (l ++ [((s : Int), (t : Int))]) (remF F s t)
/-- A family, as a set of sets of six elements. -/
structure FS (F : Nat) : Prop where
  lt : F < 18446744073709551616
  shut : Shut F.testBit
theorem FS.small {F : Nat} (h : FS F) : ∀ u, F.testBit u = true → u < 64 := fun u hu => bit_lt (k := 64) (by simpa using h.lt) hu
theorem fs_of {n : Nat} {l : List Int} (h : Fam n l) : FS (setF l) where
  lt := by
    have h1 := h.lt
    have h2 := two6 h.n6n
    have h3 := Nat.pow_le_pow_right (show 0 < 2 by decide) h2
    have : (2 : Nat) ^ 64 = 18446744073709551616 := by decide
    omega
  shut := fun u x hu => by
    have hl := bit_lt h.lt hu
    have hx : x < n := bit_lt hl (ad_mem u x)
    cases e : u.testBit x
    · have := h.rm hx hu
      rwa [rm_ad e] at this
    · rwa [ad_self e] at hu
theorem rem_less {F s t : Nat} (hF : F < 18446744073709551616) : (remF F s t).testBit = less F.testBit s t := funext fun u => remF_bit hF u
theorem FR.fs {F s t : Nat} (h : FR F s t) (hF : FS F) : FS (remF F s t) := by
  obtain ⟨x, hx⟩ := h.folds hF.small
  refine ⟨remF_lt _ _ _, ?_⟩
  rw [rem_less hF.lt]
  exact hx.shut hF.shut hF.small
theorem FRun.fs {F0 : Nat} (hF : FS F0) {l : List (Int × Int)} {G : Nat} (h : FRun F0 l G) : FS G := by
  induction h with
  | nil => exact hF
  | snoc _ hr ih => exact hr.fs ih
theorem FRun.whole {F0 : Nat} (hF : FS F0) {l : List (Int × Int)} {G : Nat} (h : FRun F0 l G) : Whole F0.testBit ↔ Whole G.testBit := by
  induction h with
  | nil => exact Iff.rfl
  | snoc hl hr ih =>
    have hf := hl.fs hF
    obtain ⟨x, hx⟩ := hr.folds hf.small
    rw [ih, rem_less hf.lt]
    exact ⟨hx.fore hf.shut, hx.back hf.shut⟩
theorem FRun.zero {F0 : Nat} (hF : FS F0) {l : List (Int × Int)} {G : Nat} (h : FRun F0 l G) (h0 : F0.testBit 0 = true) : G.testBit 0 = true := by
  induction h with
  | nil => exact h0
  | @snoc l F s t hl hr ih =>
    have hf := hl.fs hF
    rw [remF_bit hf.lt]
    refine mem_less ih (by have := hr.pos; omega) ?_
    intro e
    have := hr.sz1
    rw [← e] at this
    have hz : sz 0 = 0 := by decide
    omega
theorem stuck_point {G : Nat} (hG : FS G) (hw : Whole G.testBit) (h0 : G.testBit 0 = true) (hn : ∀ s t, ¬ FR G s t) : Point G.testBit :=
  whole_stuck hG.small hG.shut hw h0 fun s t _ hs hf => hn s t (hf.fr hG.shut hG.small hs)
/-- What is settled early is whole. -/
theorem early_sub {n F : Nat} (hn : n ≤ 6) (hF : Shut F.testBit) (hlt : F < 2 ^ (2 ^ n)) : ∀ k a i, un n a = k → View n a i → askN n F.testBit a i < un n a → Whole (subP a i F) := by
  have shut : ∀ a i, Shut (subP a i F) := fun a i u x hu => by
    unfold subP at hu ⊢
    obtain ⟨h1, h2⟩ := andE hu
    have h3 : (u &&& a == 0) = true := dj_iff.2 fun y hy => dj_iff.1 h1 y (by rw [ad_bit, hy]; rfl)
    have h4 : ad u x ||| i = ad (u ||| i) x := by
      apply bits_ext
      intro y
      rw [Nat.testBit_or, ad_bit, ad_bit, Nat.testBit_or]
      cases u.testBit y <;> cases i.testBit y <;> simp
    rw [h4] at h2
    rw [h3, hF _ _ h2]; rfl
  intro k
  induction k with
  | zero => intro a i h0 _ h; omega
  | succ k ih =>
    intro a i hk hv h
    cases hst : settl (2 ^ n) F.testBit a i
    · obtain ⟨h1, h2, h3, _⟩ := best_is hst
      have hu := un_ad h1 h2
      unfold valN at h3
      generalize bestN n F.testBit a i = x at *
      have e1 : wo x (subP a i F) = subP (ad a x) i F := funext fun u => by
        unfold wo subP
        rw [dj_ad, Bool.and_assoc]
      have e2 : lk x (subP a i F) = subP (ad a x) (ad i x) F := funext fun u => by
        unfold lk subP
        rw [dj_ad, ad_dj h2, Bool.and_assoc]
        have e : ad u x ||| i = u ||| ad i x := by
          apply bits_ext
          intro y
          rw [Nat.testBit_or, Nat.testBit_or, ad_bit, ad_bit]
          cases u.testBit y <;> cases i.testBit y <;> simp
        rw [e]
      refine whole_split (x := x) (by omega) (shut a i) ?_ ?_
      · rw [e2]; exact ih _ _ (by omega) (hv.inn h1) (by omega)
      · rw [e1]; exact ih _ _ (by omega) (hv.out h1) (by omega)
    · rcases settl_iff.1 hst with g | g
      · have hz : ∀ u, subP a i F u = false := fun u => by
          cases e : subP a i F u
          · rfl
          · unfold subP at e
            obtain ⟨h1, h2⟩ := andE e
            have hl := bit_lt hlt h2
            have hul : u < 2 ^ n := lt_of_bits fun y hy => bit_lt hl (by rw [Nat.testBit_or, hy]; rfl)
            rw [(agr_sub (P := fun s => F.testBit s = false) hv).1 g u hul h1] at h2
            cases h2
        intro C hC _
        refine ⟨C, hC, fun u => ?_⟩
        have hc : ∀ v, C v = false := fun v => by
          cases e : C v
          · rfl
          · have := hC v e; rw [hz] at this; cases this
        rw [bd_zero hc, hc]
      · obtain ⟨x, hx, hax⟩ := un_free hk
        refine whole_cone (x := x) (by omega) fun u hu => ?_
        unfold subP at hu ⊢
        obtain ⟨h1, h2⟩ := andE hu
        have hl := bit_lt hlt h2
        have hul : u < 2 ^ n := lt_of_bits fun y hy => bit_lt hl (by rw [Nat.testBit_or, hy]; rfl)
        have h3 : (ad u x &&& a == 0) = true := by rw [ad_dj hax]; exact h1
        rw [h3, (agr_sub (P := fun s => F.testBit s = true) hv).1 g (ad u x) (or_lt hul hx) h3]; rfl
theorem early_whole {n : Nat} {l : List Int} (h : Fam n l) (he : askN n (setF l).testBit 0 0 < n) : Whole (setF l).testBit := by
  have hf := fs_of h
  have := early_sub h.n6n hf.shut h.lt _ 0 0 rfl (View.zero n) (by rw [un_none]; exact he)
  have e : subP 0 0 (setF l) = (setF l).testBit := funext fun u => by unfold subP; simp
  rwa [e] at this
/-- Sums stay along folds, and each takes two sets. -/
theorem sumP_less {F s t : Nat} (hF : F < 18446744073709551616) (h : FR F s t) : sumP (remF F s t).testBit 64 = sumP F.testBit 64 ∧ gs (fun u => bi (F.testBit u) 1) 64 = gs (fun u => bi ((remF F s t).testBit u) 1) 64 + 2 := by
  have hs := bit_lt (k := 64) (by simpa using hF) h.inS
  have ht := bit_lt (k := 64) (by simpa using hF) h.inT
  obtain ⟨x, hx1, hx2⟩ := codim_all ⟨s, hs⟩ ⟨t, ht⟩ h.sub h.sz1
  simp only at hx1 hx2
  have hsg : sg t = - sg s := by rw [← hx2]; exact sg_ad hs x.isLt hx1
  have key : ∀ f : Nat → Int, gs (fun u => bi (F.testBit u) (f u)) 64 = gs (fun u => bi ((remF F s t).testBit u) (f u)) 64 + (f s + f t) := by
    intro f
    have e1 : gs (fun u => bi (decide (u = s)) (f u)) 64 = f s := by
      rw [gs_one hs fun v _ hv => by simp [bi, hv]]; simp [bi]
    have e2 : gs (fun u => bi (decide (u = t)) (f u)) 64 = f t := by
      rw [gs_one ht fun v _ hv => by simp [bi, hv]]; simp [bi]
    rw [← e1, ← e2, ← gs_add, ← gs_add]
    apply gs_congr
    intro u _
    rw [remF_bit hF]
    unfold less
    by_cases c1 : u = s
    · subst c1
      have : ¬ u = t := fun e => h.ne e.symm
      simp [h.inS, this, bi]
    · by_cases c2 : u = t
      · subst c2
        simp [h.inT, c1, bi]
      · simp [c1, c2, bi]
  refine ⟨?_, ?_⟩
  · unfold sumP
    have := key sg
    omega
  · have := key fun _ => 1
    omega
theorem FRun.sums {F0 : Nat} (hF : FS F0) {l : List (Int × Int)} {G : Nat} (h : FRun F0 l G) : sumP G.testBit 64 = sumP F0.testBit 64 ∧ gs (fun u => bi (F0.testBit u) 1) 64 = gs (fun u => bi (G.testBit u) 1) 64 + 2 * l.length := by
  induction h with
  | nil => simp
  | snoc hl hr ih =>
    have hf := hl.fs hF
    obtain ⟨a, b⟩ := sumP_less hf.lt hr
    refine ⟨a.trans ih.1, ?_⟩
    rw [List.length_append, List.length_singleton]
    omega
theorem point_sums_all : ∀ v : Fin 6, sumP (fun u => decide (u = 0) || decide (u = 1 <<< v.val)) 64 = 0 ∧ gs (fun u => bi (decide (u = 0) || decide (u = 1 <<< v.val)) 1) 64 = 2 := by decide +kernel
theorem Point.sums {K : Nat → Bool} (h : Point K) : sumP K 64 = 0 ∧ gs (fun u => bi (K u) 1) 64 = 2 := by
  obtain ⟨v, hv, hK⟩ := h
  have e : K = fun u => decide (u = 0) || decide (u = 1 <<< v) := funext hK
  rw [e]
  exact point_sums_all ⟨v, hv⟩
theorem Point.list {F : Nat} (h : Point F.testBit) : ∃ v, v < 6 ∧ famL 64 F.testBit = ([0, ((1 <<< v : Nat) : Int)] : List Int) := by
  obtain ⟨v, hv, hK⟩ := h
  have h1 : 1 <<< v < 64 := by
    have := Nat.pow_lt_pow_right (show 1 < 2 by decide) hv
    rw [Nat.shiftLeft_eq]; omega
  have h2 : 0 < 1 <<< v := by rw [Nat.shiftLeft_eq]; have := Nat.two_pow_pos v; omega
  refine ⟨v, hv, rising_eq _ _ (famL_asc _ _) (List.pairwise_cons.2 ⟨fun x hx => by rw [List.mem_singleton] at hx; omega, List.pairwise_singleton _ _⟩) fun d => ?_⟩
  rw [mem_famL, hK]
  simp only [List.mem_cons, List.not_mem_nil, or_false, Bool.or_eq_true, decide_eq_true_iff]
  constructor
  · rintro ⟨h0, _, h | h⟩
    · left; omega
    · right; omega
  · rintro (h | h)
    · exact ⟨by omega, by omega, .inl (by omega)⟩
    · exact ⟨by omega, by omega, .inr (by omega)⟩
theorem point_list {F : Nat} (hF : FS F) {a b : Int} (hl : famL 64 F.testBit = [a, b]) (hb : sz b.toNat = 1) : Point F.testBit := by
  have hbm : b ∈ famL 64 F.testBit := by rw [hl]; simp
  obtain ⟨b0, b1, b2⟩ := mem_famL.1 hbm
  obtain ⟨v, hv⟩ := sz_one_all ⟨b.toNat, by omega⟩ hb
  simp only at hv
  have hz : F.testBit 0 = true := by
    refine hF.shut 0 v.val ?_
    have : ad 0 v.val = b.toNat := by unfold ad; rw [Nat.zero_or, hv]
    rw [this]; exact b2
  have hz0 : (0 : Int) ∈ famL 64 F.testBit := mem_famL.2 ⟨by omega, by omega, hz⟩
  rw [hl] at hz0
  have hbne : b ≠ 0 := by
    intro e; rw [e] at hb
    have : sz (0 : Int).toNat = 0 := by decide
    omega
  have ha : a = 0 := by
    simp only [List.mem_cons, List.not_mem_nil, or_false] at hz0
    omega
  refine ⟨v.val, v.isLt, fun u => ?_⟩
  rw [Bool.eq_iff_iff, Bool.or_eq_true, decide_eq_true_iff, decide_eq_true_iff]
  constructor
  · intro hu
    have : (u : Int) ∈ famL 64 F.testBit := mem_famL.2 ⟨by omega, by have := hF.small u hu; omega, by rw [Int.toNat_natCast]; exact hu⟩
    rw [hl] at this
    simp only [List.mem_cons, List.not_mem_nil, or_false] at this
    omega
  · rintro (rfl | rfl)
    · exact hz
    · rw [← hv]; exact b2
end Go.Proofs.YtjddbglbodkihaaDoor
