/- Plain laws of what is left of a family at a view: lists of sets of the elements that were not asked. Conditions: at most six elements. -/
import Derived.Test.YtjddbglbodkihaaDoorSplitM
namespace Go.Proofs.YtjddbglbodkihaaDoor

/-- The sets of the elements that were not asked that belong to a family with the view's set. -/
def subP (a i F s : Nat) : Bool := (s &&& a == 0) && F.testBit (s ||| i)
def fv (n F a i : Nat) : List Int := famL (2 ^ n) (subP a i F)
/-- The elements that were not asked. -/
def lf (n a : Nat) : Nat := mkN n fun y => !a.testBit y
theorem lf_bit (n a y : Nat) : (lf n a).testBit y = (decide (y < n) && !a.testBit y) := mkN_bit _ _ _
theorem lf_lt (n a : Nat) : lf n a < 2 ^ n := mkN_lt _ _
theorem lf_rm (n a x : Nat) : rm (lf n a) x = lf n (ad a x) := by
  apply bits_ext
  intro y
  rw [rm_bit, lf_bit, lf_bit, ad_bit]
  cases a.testBit y <;> cases decide (x = y) <;> simp
theorem lf_zero (n : Nat) : ((lf n 0 : Nat) : Int) = p2 (n : Int) - 1 := by
  have e : lf n 0 = mkN n fun _ => true := mkN_congr fun i _ => by simp
  have := mk_all n
  unfold mk at this
  rw [e, this]
theorem lf_sz_all : ∀ n : Fin 7, ∀ a : Fin 64, sz (lf n.val a.val) = un n.val a.val := by decide +kernel
theorem lf_sz {n a : Nat} (hn : n ≤ 6) (ha : a < 64) : sz (lf n a) = un n a := lf_sz_all ⟨n, by omega⟩ ⟨a, ha⟩
theorem dj_iff {s a : Nat} : (s &&& a == 0) = true ↔ ∀ y, s.testBit y = true → a.testBit y = false := by
  rw [beq_iff_eq]
  constructor
  · intro h y hy
    have := congrArg (fun z => z.testBit y) h
    simp only [Nat.testBit_and, hy, Bool.true_and, Nat.zero_testBit] at this
    exact this
  · intro h
    apply bits_ext
    intro y
    rw [Nat.testBit_and, Nat.zero_testBit]
    cases hy : s.testBit y
    · rfl
    · rw [h y hy]; rfl
theorem dj_ad {s a x : Nat} : (s &&& ad a x == 0) = (!s.testBit x && (s &&& a == 0)) := by
  rw [Bool.eq_iff_iff, Bool.and_eq_true, dj_iff, dj_iff]
  constructor
  · intro h
    refine ⟨?_, fun y hy => ?_⟩
    · cases hx : s.testBit x
      · rfl
      · have := h x hx
        rw [ad_mem] at this; cases this
    · have := h y hy
      rw [ad_bit] at this
      cases ha : a.testBit y
      · rfl
      · rw [ha] at this; cases this
  · rintro ⟨h1, h2⟩ y hy
    rw [ad_bit, h2 y hy]
    by_cases e : x = y
    · subst e; rw [hy] at h1; cases h1
    · simp [e]
theorem ad_dj {s a x : Nat} (ha : a.testBit x = false) : (ad s x &&& a == 0) = (s &&& a == 0) := by
  rw [Bool.eq_iff_iff, dj_iff, dj_iff]
  constructor
  · intro h y hy
    exact h y (by rw [ad_bit, hy]; rfl)
  · intro h y hy
    rw [ad_bit] at hy
    rcases orE hy with h1 | h1
    · exact h y h1
    · have := of_decide_eq_true h1
      subst this; exact ha
theorem out_gen (N x : Nat) (p : Nat → Bool) : outR (famL N p) x = famL N fun s => !s.testBit x && p s := by
  unfold outR famL
  rw [List.filter_map, List.filter_filter]
  congr 1
theorem link_gen {n x : Nat} (h6 : n ≤ 6) (hx : x < n) (p : Nat → Bool) : linkR (famL (2 ^ n) p) x = famL (2 ^ n) fun s => !s.testBit x && p (ad s x) := by
  have h64 := two6 h6
  refine rising_eq _ _ ?_ (famL_asc _ _) fun d => ?_
  · unfold linkR
    rw [List.pairwise_map, List.pairwise_filter]
    refine (famL_asc _ _).imp_of_mem fun {a b} ha hb hab h1 h2 => ?_
    have a1 := mem_famL.1 ha; have b1 := mem_famL.1 hb
    have a2 := rm_sub (by omega) (by omega : x < 6) h1
    have b2 := rm_sub (by omega) (by omega : x < 6) h2
    omega
  · rw [mem_famL]
    unfold linkR
    rw [List.mem_map]
    constructor
    · rintro ⟨s, hs, rfl⟩
      obtain ⟨h1, h2⟩ := List.mem_filter.1 hs
      obtain ⟨b1, b2, b3⟩ := mem_famL.1 h1
      have hle := rm_le s.toNat x
      rw [Int.toNat_natCast, rm_not, ad_of_rm h2, b3]
      exact ⟨by omega, by omega, rfl⟩
    · rintro ⟨h0, h1, h2⟩
      obtain ⟨h3, h4⟩ := andE h2
      have hn : d.toNat.testBit x = false := by simpa using h3
      have hl : ad d.toNat x < 2 ^ n := or_lt (by omega) hx
      refine ⟨((ad d.toNat x : Nat) : Int), List.mem_filter.2 ⟨mem_famL.2 ⟨by omega, by omega, by rw [Int.toNat_natCast]; exact h4⟩, ?_⟩, ?_⟩
      · rw [Int.toNat_natCast, ad_bit]; simp
      · rw [Int.toNat_natCast, rm_of_ad hn]; omega
section
variable {n F a i x : Nat}
theorem fv_out (n F a i x : Nat) : outR (fv n F a i) x = fv n F (ad a x) i := by
  unfold fv
  rw [out_gen]
  apply famL_congr
  intro s _
  unfold subP
  rw [dj_ad, Bool.and_assoc]
theorem fv_link (h6 : n ≤ 6) (hx : x < n) (ha : a.testBit x = false) : linkR (fv n F a i) x = fv n F (ad a x) (ad i x) := by
  unfold fv
  rw [link_gen h6 hx]
  apply famL_congr
  intro s _
  unfold subP
  rw [dj_ad, ad_dj ha, Bool.and_assoc]
  have e : ad s x ||| i = s ||| ad i x := by
    apply bits_ext
    intro y
    rw [Nat.testBit_or, Nat.testBit_or, ad_bit, ad_bit]
    cases s.testBit y <;> cases i.testBit y <;> simp
  rw [e]
theorem agr_sub {P : Nat → Prop} (hv : View n a i) : (∀ s, s < 2 ^ n → agr a i s = true → P s) ↔ ∀ u, u < 2 ^ n → (u &&& a == 0) = true → P (u ||| i) := by
  constructor
  · intro h u hu hd
    refine h _ (lt_of_bits fun y hy => ?_) (agr_iff.2 fun y => ?_)
    · rw [Nat.testBit_or] at hy
      rcases orE hy with h1 | h1
      · exact bit_lt hu h1
      · exact bit_lt hv.ilt h1
    · rw [Nat.testBit_or]
      have h1 := dj_iff.1 hd y
      have h2 := hv.sub y
      cases hu' : u.testBit y <;> cases hi : i.testBit y <;> cases ha : a.testBit y <;> simp_all
  · intro h s hs hag
    have e : s = (s ^^^ i) ||| i := by
      apply bits_ext
      intro y
      have := agr_iff.1 hag y
      rw [Nat.testBit_or, Nat.testBit_xor]
      cases hu' : s.testBit y <;> cases hi : i.testBit y <;> simp_all
    rw [e]
    clear e
    refine h _ (lt_of_bits fun y hy => ?_) (dj_iff.2 fun y hy => ?_)
    · rw [Nat.testBit_xor] at hy
      have := agr_iff.1 hag y
      cases hu' : s.testBit y
      · cases hi : i.testBit y
        · simp_all
        · exact bit_lt hv.ilt hi
      · exact bit_lt hs hu'
    · rw [Nat.testBit_xor] at hy
      have := agr_iff.1 hag y
      cases hu' : s.testBit y <;> cases hi : i.testBit y <;> cases ha : a.testBit y <;> simp_all
theorem djl_all : ∀ n : Fin 7, ∀ a : Fin 64, a.val < 2 ^ n.val → ((List.range (2 ^ n.val)).filter fun s => s &&& a.val == 0).length = 2 ^ un n.val a.val := by decide +kernel
theorem fv_settl (h6 : n ≤ 6) (hv : View n a i) : settl (2 ^ n) F.testBit a i = (decide ((fv n F a i).length = 0) || decide ((fv n F a i).length = 2 ^ un n a)) := by
  have hl : (fv n F a i).length = (((List.range (2 ^ n)).filter fun s => s &&& a == 0).filter fun s => F.testBit (s ||| i)).length := by
    unfold fv famL subP
    rw [List.length_map, List.filter_filter]
    congr 1
    apply List.filter_congr
    intro s _
    rw [Bool.and_comm]
  have h64 := two6 h6
  have hd : ((List.range (2 ^ n)).filter fun s => s &&& a == 0).length = 2 ^ un n a := djl_all ⟨n, by omega⟩ ⟨a, by have := hv.lt; omega⟩ hv.lt
  rw [Bool.eq_iff_iff, Bool.or_eq_true, decide_eq_true_iff, decide_eq_true_iff, settl_iff, hl, ← hd, List.length_filter_eq_length_iff, List.length_eq_zero_iff, List.filter_eq_nil_iff, agr_sub hv, agr_sub hv]
  constructor
  · rintro (h | h)
    · left
      intro s hs
      obtain ⟨h1, h2⟩ := List.mem_filter.1 hs
      rw [h s (List.mem_range.1 h1) h2]; decide
    · right
      intro s hs
      obtain ⟨h1, h2⟩ := List.mem_filter.1 hs
      exact h s (List.mem_range.1 h1) h2
  · rintro (h | h)
    · left
      intro s hs hdj
      have := h s (List.mem_filter.2 ⟨List.mem_range.2 hs, hdj⟩)
      simpa using this
    · right
      intro s hs hdj
      exact h s (List.mem_filter.2 ⟨List.mem_range.2 hs, hdj⟩)
theorem fv_bd (h6 : n ≤ 6) : ∀ s ∈ fv n F a i, 0 ≤ s ∧ s < 64 := fun s hs => by
  have h64 := two6 h6
  obtain ⟨h0, h1, _⟩ := mem_famL.1 hs
  omega
theorem fv_len (h6 : n ≤ 6) : (fv n F a i).length ≤ 64 := Nat.le_trans (famL_len _ _) (two6 h6)
theorem fv_zero {l : List Int} (h : Fam n l) : fv n (setF l) 0 0 = l := by
  conv => rhs; rw [← h.same]
  exact famL_congr fun s _ => by unfold subP; simp
end
end Go.Proofs.YtjddbglbodkihaaDoor
