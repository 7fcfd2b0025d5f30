/- Plain laws of plans: the plan that is made is one, and as long as the least one. Condition: views of at most six elements. -/
import Derived.Test.YtjddbglbodkihaaDoorNodes
import Derived.Test.YtjddbglbodkihaaDoorAskM
namespace Go.Proofs.YtjddbglbodkihaaDoor

def rootP (n F a i q : Nat) : Int := if settl (2 ^ n) F.testBit a i then -1 else q
def planK (n F : Nat) : Nat → Nat → Nat → Nat → List Nd
  | 0, _, _, _ => []
  | k+1, a, i, q =>
    if settl (2 ^ n) F.testBit a i then []
    else
      let x := bestN n F.testBit a i
      let L0 := planK n F k (ad a x) i (q + 1)
      ⟨x, rootP n F (ad a x) i (q + 1), rootP n F (ad a x) (ad i x) (q + 1 + L0.length)⟩ :: (L0 ++ planK n F k (ad a x) (ad i x) (q + 1 + L0.length))
/-- The nodes that plan appends for a view. -/
def planL (n F a i q : Nat) : List Nd := planK n F (un n a) a i q
theorem planK_len (n F : Nat) : ∀ k a i q, (planK n F k a i q).length + 1 ≤ 2 ^ k := by
  intro k
  induction k with
  | zero => intro a i q; simp [planK]
  | succ k ih =>
    intro a i q
    unfold planK
    have := Nat.two_pow_pos k
    split
    · rw [Nat.pow_succ]; simp; omega
    · have h1 := ih (ad a (bestN n F.testBit a i)) i (q + 1)
      have h2 := ih (ad a (bestN n F.testBit a i)) (ad i (bestN n F.testBit a i)) (q + 1 + (planK n F k (ad a (bestN n F.testBit a i)) i (q + 1)).length)
      rw [List.length_cons, List.length_append, Nat.pow_succ]
      omega
theorem planL_len (n F a i q : Nat) (hn : n ≤ 6) : (planL n F a i q).length ≤ 63 := by
  have h1 := planK_len n F (un n a) a i q
  have h2 := un_le n a
  have h3 := Nat.pow_le_pow_right (show 0 < 2 by decide) (show un n a ≤ 6 by omega)
  unfold planL
  omega
theorem planL_set {n F a i q : Nat} (h : settl (2 ^ n) F.testBit a i = true) : planL n F a i q = [] := by
  unfold planL
  cases un n a with
  | zero => rfl
  | succ k => unfold planK; rw [if_pos h]
theorem planL_step {n F a i q : Nat} (h : settl (2 ^ n) F.testBit a i = false) :
    planL n F a i q = ⟨bestN n F.testBit a i, rootP n F (ad a (bestN n F.testBit a i)) i (q + 1), rootP n F (ad a (bestN n F.testBit a i)) (ad i (bestN n F.testBit a i)) (q + 1 + (planL n F (ad a (bestN n F.testBit a i)) i (q + 1)).length)⟩ ::
      (planL n F (ad a (bestN n F.testBit a i)) i (q + 1) ++ planL n F (ad a (bestN n F.testBit a i)) (ad i (bestN n F.testBit a i)) (q + 1 + (planL n F (ad a (bestN n F.testBit a i)) i (q + 1)).length)) := by
  obtain ⟨h1, h2, _⟩ := best_is h
  have hu := un_ad h1 h2
  unfold planL
  rw [hu]
  conv => lhs; unfold planK
  rw [h]
  rfl
/-- All of a list lies in another one from q on. -/
def Lies (ts : List Nd) (q : Nat) (L : List Nd) : Prop := ∀ j u, L[j]? = some u → ts[q + j]? = some u
theorem Lies.split {ts : List Nd} {q : Nat} {u : Nd} {L0 L1 : List Nd} (h : Lies ts q (u :: (L0 ++ L1))) : ts[q]? = some u ∧ Lies ts (q + 1) L0 ∧ Lies ts (q + 1 + L0.length) L1 := by
  refine ⟨h 0 u rfl, fun j v hv => ?_, fun j v hv => ?_⟩
  · have hj := (List.getElem?_eq_some_iff.1 hv).1
    have := h (j + 1) v (by rw [List.getElem?_cons_succ, List.getElem?_append_left hj]; exact hv)
    rw [show q + 1 + j = q + (j + 1) by omega]; exact this
  · have := h (L0.length + j + 1) v (by rw [List.getElem?_cons_succ, List.getElem?_append_right (by omega), Nat.add_sub_cancel_left]; exact hv)
    rw [show q + 1 + L0.length + j = q + (L0.length + j + 1) by omega]; exact this
/-- Where a node may go on. -/
def goOk (j len : Nat) (z : Int) : Prop := z = -1 ∨ ((j : Int) < z ∧ z < len)
def ndOk (n j len : Nat) (u : Nd) : Prop := (0 ≤ u.pt ∧ u.pt < n) ∧ goOk j len u.zero ∧ goOk j len u.one
def okP (n : Nat) (ts : List Nd) : Prop := ts.length ≤ 70 ∧ ∀ j u, ts[j]? = some u → ndOk n j ts.length u
theorem goOk.root {n F a i q len : Nat} {j : Nat} (hj : j < q) (hl : (planL n F a i q).length + q ≤ len) : goOk j len (rootP n F a i q) := by
  unfold rootP goOk
  cases h : settl (2 ^ n) F.testBit a i
  · right
    rw [planL_step h, List.length_cons] at hl
    simp only [Bool.false_eq_true, if_false]
    omega
  · left; rfl
theorem plan_ok (n F : Nat) : ∀ k (a i q len : Nat), un n a = k → (planL n F a i q).length + q ≤ len → ∀ j u, (planL n F a i q)[j]? = some u → ndOk n (q + j) len u := by
  intro k
  induction k with
  | zero =>
    intro a i q len h0 _ j u hu
    rw [planL_set (settl_all h0 _)] at hu
    simp at hu
  | succ k ih =>
    intro a i q len hk hl j u hu
    cases h : settl (2 ^ n) F.testBit a i
    · obtain ⟨h1, h2, _⟩ := best_is h
      have hun := un_ad h1 h2
      rw [planL_step h] at hu hl
      generalize bestN n F.testBit a i = x at *
      rw [List.length_cons, List.length_append] at hl
      cases j with
      | zero =>
        simp only [List.getElem?_cons_zero, Option.some.injEq] at hu
        subst hu
        exact ⟨⟨by simp, by simp; exact h1⟩, goOk.root (by omega) (by omega), goOk.root (by omega) (by omega)⟩
      | succ j =>
        rw [List.getElem?_cons_succ] at hu
        by_cases hj : j < (planL n F (ad a x) i (q + 1)).length
        · rw [List.getElem?_append_left hj] at hu
          have := ih (ad a x) i (q + 1) len (by omega) (by omega) j u hu
          rwa [show q + 1 + j = q + (j + 1) by omega] at this
        · rw [List.getElem?_append_right (by omega)] at hu
          have := ih (ad a x) (ad i x) (q + 1 + (planL n F (ad a x) i (q + 1)).length) len (by omega) (by omega) _ u hu
          rwa [show q + 1 + (planL n F (ad a x) i (q + 1)).length + (j - (planL n F (ad a x) i (q + 1)).length) = q + (j + 1) by omega] at this
    · rw [planL_set h] at hu
      simp at hu
theorem plan_okP {n F : Nat} (hn : n ≤ 6) : okP n (planL n F 0 0 0) := by
  have hl := planL_len n F 0 0 0 hn
  refine ⟨by omega, fun j u hu => ?_⟩
  have := plan_ok n F _ 0 0 0 (planL n F 0 0 0).length rfl (by simp) j u hu
  rwa [Nat.zero_add] at this
/-- The length of a plan from a node on; false: it is none. -/
def lenK (n F : Nat) (ts : List Nd) : Nat → Int → Nat → Nat → Nat × Bool
  | 0, r, a, i => (0, decide (r = -1) && settl (2 ^ n) F.testBit a i)
  | k+1, r, a, i =>
    if r = -1 ∨ settl (2 ^ n) F.testBit a i = true then (0, decide (r = -1) && settl (2 ^ n) F.testBit a i)
    else
      let x := (nd ts r).pt.toNat
      if a.testBit x = true then (0, false)
      else
        let o := lenK n F ts k (nd ts r).zero (ad a x) i
        if o.2 = false then (0, false)
        else
          let p := lenK n F ts k (nd ts r).one (ad a x) (ad i x)
          (1 + max o.1 p.1, p.2)
def lenN (n F : Nat) (ts : List Nd) (r : Int) (a i : Nat) : Nat × Bool := lenK n F ts (un n a) r a i
theorem len_stop {n F : Nat} {ts : List Nd} {r : Int} {a i : Nat} (h : r = -1 ∨ settl (2 ^ n) F.testBit a i = true) : lenN n F ts r a i = (0, decide (r = -1) && settl (2 ^ n) F.testBit a i) := by
  unfold lenN
  cases un n a with
  | zero => rfl
  | succ k => unfold lenK; rw [if_pos h]
theorem len_go {n F : Nat} {ts : List Nd} {r : Int} {a i : Nat} (h0 : r ≠ -1) (h : settl (2 ^ n) F.testBit a i = false) (hx : (nd ts r).pt.toNat < n) :
    lenN n F ts r a i = if a.testBit (nd ts r).pt.toNat = true then (0, false)
      else if (lenN n F ts (nd ts r).zero (ad a (nd ts r).pt.toNat) i).2 = false then (0, false)
      else (1 + max (lenN n F ts (nd ts r).zero (ad a (nd ts r).pt.toNat) i).1 (lenN n F ts (nd ts r).one (ad a (nd ts r).pt.toNat) (ad i (nd ts r).pt.toNat)).1, (lenN n F ts (nd ts r).one (ad a (nd ts r).pt.toNat) (ad i (nd ts r).pt.toNat)).2) := by
  cases hu : un n a with
  | zero => rw [settl_all hu] at h; cases h
  | succ k =>
    have e : lenN n F ts r a i = lenK n F ts (k + 1) r a i := by unfold lenN; rw [hu]
    rw [e]
    unfold lenK
    rw [if_neg (by rw [h]; simp [h0])]
    by_cases ha : a.testBit (nd ts r).pt.toNat = true
    · simp only [ha, if_true]
    · have ha' : a.testBit (nd ts r).pt.toNat = false := by simpa using ha
      have hk : un n (ad a (nd ts r).pt.toNat) = k := by have := un_ad hx ha'; omega
      unfold lenN
      rw [hk]
/-- The plan that is made is as long as the least one. -/
theorem plan_len (n F : Nat) (ts : List Nd) : ∀ k (a i q : Nat), un n a = k → Lies ts q (planL n F a i q) → lenN n F ts (rootP n F a i q) a i = (askN n F.testBit a i, true) := by
  intro k
  induction k with
  | zero =>
    intro a i q h0 _
    have hs := settl_all (i := i) h0 F.testBit
    have hr : rootP n F a i q = -1 := by unfold rootP; rw [hs]; rfl
    rw [hr, len_stop (.inl rfl), hs, ask_zero.2 hs]; rfl
  | succ k ih =>
    intro a i q hk hl
    cases h : settl (2 ^ n) F.testBit a i
    · obtain ⟨h1, h2, h3, _⟩ := best_is h
      have hun := un_ad h1 h2
      rw [planL_step h] at hl
      have hr : rootP n F a i q = q := by unfold rootP; rw [h]; rfl
      rw [hr]
      have hval : askN n F.testBit a i = 1 + max (askN n F.testBit (ad a (bestN n F.testBit a i)) i) (askN n F.testBit (ad a (bestN n F.testBit a i)) (ad i (bestN n F.testBit a i))) := h3
      generalize bestN n F.testBit a i = x at *
      obtain ⟨e1, e2, e3⟩ := hl.split
      have i0 := ih (ad a x) i (q + 1) (by omega) e2
      have i1 := ih (ad a x) (ad i x) _ (by omega) e3
      have hnd := nd_of e1
      rw [len_go (by omega) h (by rw [hnd]; simpa using h1), hnd]
      simp only [Int.toNat_natCast]
      rw [if_neg (by rw [h2]; simp), i0, i1, hval]
      simp
    · have hr : rootP n F a i q = -1 := by unfold rootP; rw [h]; rfl
      rw [hr, len_stop (.inl rfl), h, ask_zero.2 h]; rfl
/-- What Check tells. -/
def firstN (ts : List Nd) : Int := if ts.length = 0 then -1 else 0
theorem plan_check {n F : Nat} : lenN n F (planL n F 0 0 0) (firstN (planL n F 0 0 0)) 0 0 = (askN n F.testBit 0 0, true) := by
  have h := plan_len n F (planL n F 0 0 0) _ 0 0 0 rfl (fun j u hu => by rw [Nat.zero_add]; exact hu)
  have e : firstN (planL n F 0 0 0) = rootP n F 0 0 0 := by
    unfold firstN rootP
    cases hs : settl (2 ^ n) F.testBit 0 0
    · have := planL_step (q := 0) hs
      rw [this]; simp
    · rw [planL_set hs]; rfl
  rw [e]; exact h
end Go.Proofs.YtjddbglbodkihaaDoor
