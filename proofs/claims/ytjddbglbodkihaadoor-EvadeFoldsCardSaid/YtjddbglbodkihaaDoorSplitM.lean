/- Plain laws of the link of an element and of what is left without it. Conditions: families of at most six elements. -/
import Derived.Test.YtjddbglbodkihaaDoorJoinM
namespace Go.Proofs.YtjddbglbodkihaaDoor

def outP (x F s : Nat) : Bool := !s.testBit x && F.testBit s
def linkP (x F s : Nat) : Bool := !s.testBit x && F.testBit (ad s x)
def outR (f : List Int) (x : Nat) : List Int := f.filter fun s => !s.toNat.testBit x
def linkR (f : List Int) (x : Nat) : List Int := (f.filter fun s => s.toNat.testBit x).map fun s => ((rm s.toNat x : Nat) : Int)
theorem rm_sub_all : ∀ s : Fin 64, ∀ x : Fin 6, s.val.testBit x.val = true → rm s.val x.val + 2 ^ x.val = s.val := by decide +kernel
theorem rm_sub {s x : Nat} (h : s < 64) (hx : x < 6) (hb : s.testBit x = true) : rm s x + 2 ^ x = s := rm_sub_all ⟨s, h⟩ ⟨x, hx⟩ hb
theorem ad_of_rm {s x : Nat} (h : s.testBit x = true) : ad (rm s x) x = s := ad_rm h
theorem rm_of_ad {s x : Nat} (h : s.testBit x = false) : rm (ad s x) x = s := by
  apply bits_ext
  intro y
  rw [rm_bit, ad_bit]
  by_cases e : x = y
  · subst e; simp [h]
  · simp [e]
section
variable {n : Nat} {l : List Int}
theorem Fam.nlt (h : Fam n l) {s : Int} (hs : s ∈ l) : 0 ≤ s ∧ s < (2 ^ n : Nat) := by have := h.bd s hs; rwa [p2_nat] at this
theorem Fam.n6n (h : Fam n l) : n ≤ 6 := by have := h.n6; omega
theorem Fam.n1n (h : Fam n l) : 1 ≤ n := by have := h.n1; omega
theorem Fam.memz (h : Fam n l) {s : Int} (hs : s ∈ l) : (setF l).testBit s.toNat = true := (h.mem _).2 (by rw [show ((s.toNat : Nat) : Int) = s by have := h.nlt hs; omega]; exact hs)
theorem out_ref (h : Fam n l) (x : Nat) : outR l x = famL (2 ^ n) (outP x (setF l)) := by
  refine rising_eq _ _ (h.asc.filter _) (famL_asc _ _) fun d => ?_
  rw [mem_famL]
  unfold outR outP
  rw [List.mem_filter]
  constructor
  · rintro ⟨h1, h2⟩
    have := h.nlt h1
    exact ⟨this.1, by omega, by rw [h2, h.memz h1]; rfl⟩
  · rintro ⟨h0, h1, h2⟩
    obtain ⟨h3, h4⟩ := andE h2
    have := (h.mem _).1 h4
    rw [show ((d.toNat : Nat) : Int) = d by omega] at this
    exact ⟨this, h3⟩
theorem link_ref (h : Fam n l) {x : Nat} (hx : x < n) : linkR l x = famL (2 ^ n) (linkP x (setF l)) := by
  have h6 := h.n6n
  have h64 := two6 h6
  refine rising_eq _ _ ?_ (famL_asc _ _) fun d => ?_
  · unfold linkR
    rw [List.pairwise_map, List.pairwise_filter]
    refine h.asc.imp_of_mem fun {a b} ha hb hab h1 h2 => ?_
    have a1 := h.nlt ha; have b1 := h.nlt hb
    have a2 := rm_sub (by omega) (by omega : x < 6) h1
    have b2 := rm_sub (by omega) (by omega : x < 6) h2
    omega
  · rw [mem_famL]
    unfold linkR linkP
    rw [List.mem_map]
    constructor
    · rintro ⟨s, hs, rfl⟩
      obtain ⟨h1, h2⟩ := List.mem_filter.1 hs
      have b1 := h.nlt h1
      have hle := rm_le s.toNat x
      rw [Int.toNat_natCast, rm_not, ad_of_rm h2, h.memz h1]
      exact ⟨by omega, by omega, rfl⟩
    · rintro ⟨h0, h1, h2⟩
      obtain ⟨h3, h4⟩ := andE h2
      have hn : d.toNat.testBit x = false := by simpa using h3
      refine ⟨((ad d.toNat x : Nat) : Int), List.mem_filter.2 ⟨(h.mem _).1 h4, ?_⟩, ?_⟩
      · rw [Int.toNat_natCast, ad_bit]; simp
      · rw [Int.toNat_natCast, rm_of_ad hn]; omega
/-- Links, and what is left, are families. -/
theorem fam_out (h : Fam n l) (x : Nat) : Fam n (famL (2 ^ n) (outP x (setF l))) := by
  refine fam_of h.n1n h.n6n fun s y _ hy hs => ?_
  unfold outP at hs ⊢
  obtain ⟨h1, h2⟩ := andE hs
  rw [h.rm hy h2, rm_bit]
  have : s.testBit x = false := by simpa using h1
  simp [this]
theorem rm_ad_comm {s x y : Nat} (e : x ≠ y) : rm (ad s x) y = ad (rm s y) x := by
  apply bits_ext
  intro z
  rw [rm_bit, ad_bit, ad_bit, rm_bit]
  by_cases e1 : x = z
  · subst e1
    have : ¬ y = x := fun a => e a.symm
    simp [this]
  · simp [e1]
theorem fam_link (h : Fam n l) (x : Nat) : Fam n (famL (2 ^ n) (linkP x (setF l))) := by
  refine fam_of h.n1n h.n6n fun s y _ hy hs => ?_
  unfold linkP at hs ⊢
  obtain ⟨h1, h2⟩ := andE hs
  have h3 : s.testBit x = false := by simpa using h1
  rw [rm_bit, h3]
  by_cases e : x = y
  · subst e
    rw [rm_same h3, h2]; rfl
  · rw [← rm_ad_comm e, h.rm hy h2]; rfl
theorem link_sub (h : Fam n l) {x s : Nat} (hx : x < n) (hs : linkP x (setF l) s = true) : outP x (setF l) s = true := by
  unfold linkP at hs
  unfold outP
  obtain ⟨h1, h2⟩ := andE hs
  have := h.rm hx h2
  rw [rm_of_ad (by simpa using h1)] at this
  rw [h1, this]; rfl
end
/-- What is left, and the link with its element again: all sets. -/
def bothL (f : List Int) (x : Nat) (N : Nat) : List Int := famL N (outP x (setF f)) ++ (famL N (linkP x (setF f))).map fun s => ((ad s.toNat x : Nat) : Int)
theorem perm_of_nodup {xs ys : List Int} (h1 : xs.Nodup) (h2 : ys.Nodup) (h : ∀ d, d ∈ xs ↔ d ∈ ys) : xs.Perm ys := (List.perm_ext_iff_of_nodup h1 h2).2 h
theorem asc_nodup {xs : List Int} (h : xs.Pairwise (· < ·)) : xs.Nodup := h.imp fun h e => by omega
theorem both_perm {n : Nat} {l : List Int} (h : Fam n l) (x : Nat) : (bothL l x (2 ^ n)).Perm l := by
  have h6 := h.n6n
  have h64 := two6 h6
  have bl : ∀ s, s ∈ famL (2 ^ n) (linkP x (setF l)) → 0 ≤ s ∧ s < (2 ^ n : Nat) ∧ s.toNat.testBit x = false ∧ (setF l).testBit (ad s.toNat x) = true := by
    intro s hs
    obtain ⟨h0, h1, h2⟩ := mem_famL.1 hs
    obtain ⟨h3, h4⟩ := andE h2
    exact ⟨h0, by omega, by simpa using h3, h4⟩
  refine perm_of_nodup ?_ (asc_nodup h.asc) fun d => ?_
  · unfold bothL
    rw [List.nodup_append]
    refine ⟨asc_nodup (famL_asc _ _), ?_, ?_⟩
    · unfold List.Nodup
      rw [List.pairwise_map]
      refine (famL_asc _ _).imp_of_mem fun {a b} ha hb hab e => ?_
      have a1 := bl a ha; have b1 := bl b hb
      have e2 : ad a.toNat x = ad b.toNat x := by omega
      have e3 := congrArg (fun z => rm z x) e2
      rw [rm_of_ad a1.2.2.1, rm_of_ad b1.2.2.1] at e3
      omega
    · intro a ha b hb e
      subst e
      obtain ⟨h0, h1, h2⟩ := mem_famL.1 ha
      obtain ⟨s, hs, e⟩ := List.mem_map.1 hb
      unfold outP at h2
      obtain ⟨h3, _⟩ := andE h2
      rw [← e, Int.toNat_natCast, ad_bit] at h3
      simp at h3
  · unfold bothL
    rw [List.mem_append, List.mem_map]
    constructor
    · rintro (h1 | ⟨s, hs, rfl⟩)
      · obtain ⟨h0, h1, h2⟩ := mem_famL.1 h1
        have := (h.mem _).1 (andE h2).2
        rwa [show ((d.toNat : Nat) : Int) = d by omega] at this
      · exact (h.mem _).1 (bl s hs).2.2.2
    · intro hd
      have b := h.nlt hd
      have m := h.memz hd
      cases e : d.toNat.testBit x
      · left
        exact mem_famL.2 ⟨b.1, by omega, by unfold outP; rw [e, m]; rfl⟩
      · right
        have hle := rm_le d.toNat x
        refine ⟨((rm d.toNat x : Nat) : Int), mem_famL.2 ⟨by omega, by omega, ?_⟩, ?_⟩
        · rw [Int.toNat_natCast]; unfold linkP; rw [rm_not, ad_of_rm e, m]; rfl
        · rw [Int.toNat_natCast, ad_of_rm e]; omega
def sumM (l : List Int) : Int := (l.map fun s => sg s.toNat).sum
theorem sumL_eq (l : List Int) : sumL l = sumM l := by
  have : ∀ (l : List Int) (a : Int), l.foldl (fun a s => a + sg s.toNat) a = a + sumM l := by
    intro l
    induction l with
    | nil => intro a; simp [sumM]
    | cons x l ih => intro a; simp only [List.foldl_cons]; rw [ih]; simp [sumM]; omega
  unfold sumL
  rw [this]; omega
theorem sumM_perm {xs ys : List Int} (h : xs.Perm ys) : sumM xs = sumM ys := by
  induction h with
  | nil => rfl
  | cons x _ ih => simp only [sumM, List.map_cons, List.sum_cons] at ih ⊢; omega
  | swap x y l => simp only [sumM, List.map_cons, List.sum_cons]; omega
  | trans _ _ ih1 ih2 => rw [ih1, ih2]
theorem sumM_app (xs ys : List Int) : sumM (xs ++ ys) = sumM xs + sumM ys := by simp [sumM]
theorem sum_split {n : Nat} {l : List Int} (h : Fam n l) {x : Nat} (hx : x < n) : sumL l = sumL (famL (2 ^ n) (outP x (setF l))) - sumL (famL (2 ^ n) (linkP x (setF l))) := by
  rw [sumL_eq, sumL_eq, sumL_eq, ← sumM_perm (both_perm h x)]
  unfold bothL
  rw [sumM_app]
  have key : ∀ zs : List Int, (∀ z ∈ zs, z.toNat < 64 ∧ z.toNat.testBit x = false) → sumM (zs.map fun s => ((ad s.toNat x : Nat) : Int)) = - sumM zs := by
    intro zs
    induction zs with
    | nil => intro _; rfl
    | cons z zs ih =>
      intro hz
      have i1 := ih fun y hy => hz y (by simp [hy])
      have z1 := hz z (by simp)
      have e := sg_ad z1.1 (show x < 6 by have := h.n6n; omega) z1.2
      simp only [sumM, List.map_cons, List.sum_cons, Int.toNat_natCast] at i1 ⊢
      omega
  have h64 := two6 h.n6n
  rw [key _ fun z hz => by
    obtain ⟨h0, h1, h2⟩ := mem_famL.1 hz
    exact ⟨by omega, by simpa using (andE h2).1⟩]
  omega
theorem sort_fam {n : Nat} {l : List Int} (h : Fam n l) {x : Nat} {ys : List Int} (hp : ys.Perm (bothL l x (2 ^ n))) (hs : ys.Pairwise (· ≤ ·)) : ys = l := by
  have hp2 := hp.trans (both_perm h x)
  refine rising_eq _ _ ?_ h.asc fun d => hp2.mem_iff
  have hn : ys.Nodup := hp2.nodup_iff.2 (asc_nodup h.asc)
  exact (hs.and hn).imp fun ⟨h1, h2⟩ => by omega
end Go.Proofs.YtjddbglbodkihaaDoor
