/- Plain laws of properties of graphs: their sum is not zero, the least property is a family, its dual a property. Condition: two to four nodes (the kernel looks at all of them). -/
import Derived.Test.YtjddbglbodkihaaDoorRefProp
import Derived.Test.YtjddbglbodkihaaDoorSumM
import Derived.Test.YtjddbglbodkihaaDoorRefF
namespace Go.Proofs.YtjddbglbodkihaaDoor

/-- The graph that one exchange leads to, towards the first of its class. -/
def parT : Nat → List Nat
  | 2 => [0, 1]
  | 3 => [0, 1, 1, 3, 1, 3, 3, 7]
  | 4 => [0, 1, 1, 3, 1, 3, 3, 7, 1, 3, 3, 11, 12, 13, 13, 15, 1, 9, 12, 13, 10, 11, 19, 15, 9, 7, 19, 15, 13, 27, 30, 31, 8, 12, 10, 19, 9, 13, 11, 15, 10, 13, 7, 15, 41, 30, 43, 31, 3, 19, 26, 30, 7, 43, 27, 31, 11, 27, 43, 31, 15, 31, 59, 63]
  | _ => []
/-- One of the nodes exchanged. -/
def xT : Nat → List Nat
  | 2 => [1, 1]
  | 3 => [1, 1, 2, 1, 2, 1, 2, 1]
  | 4 => [1, 1, 2, 1, 3, 3, 3, 1, 2, 1, 2, 1, 1, 1, 2, 1, 3, 3, 1, 1, 3, 3, 3, 3, 3, 1, 2, 1, 3, 3, 1, 1, 3, 2, 3, 2, 3, 3, 3, 3, 3, 2, 2, 2, 3, 2, 3, 2, 3, 3, 3, 2, 3, 3, 3, 3, 3, 3, 3, 2, 3, 3, 3, 1]
  | _ => []
/-- The other one. -/
def yT : Nat → List Nat
  | 2 => [0, 0]
  | 3 => [0, 0, 1, 0, 0, 0, 0, 0]
  | 4 => [0, 0, 1, 0, 1, 2, 1, 0, 0, 0, 0, 0, 0, 0, 1, 0, 0, 2, 0, 0, 2, 2, 1, 2, 0, 0, 0, 0, 0, 2, 0, 0, 1, 0, 1, 1, 1, 1, 1, 1, 0, 0, 0, 0, 1, 1, 1, 1, 0, 0, 1, 0, 0, 2, 1, 1, 0, 0, 0, 0, 0, 0, 1, 0]
  | _ => []
/-- The class of a graph. -/
def clsT : Nat → List Nat
  | 2 => [0, 1]
  | 3 => [0, 1, 1, 2, 1, 2, 2, 3]
  | 4 => [0, 1, 1, 2, 1, 2, 2, 3, 1, 2, 2, 4, 5, 6, 6, 7, 1, 2, 5, 6, 2, 4, 6, 7, 2, 3, 6, 7, 6, 7, 8, 9, 1, 5, 2, 6, 2, 6, 4, 7, 2, 6, 3, 7, 6, 8, 7, 9, 2, 6, 6, 8, 3, 7, 7, 9, 4, 7, 7, 9, 7, 9, 9, 10]
  | _ => []
/-- The first graphs of the classes. -/
def repT : Nat → List Nat
  | 2 => [0, 1]
  | 3 => [0, 1, 3, 7]
  | 4 => [0, 1, 3, 7, 11, 12, 13, 15, 30, 31, 63]
  | _ => []
/-- Which class lies below which. -/
def covT : Nat → List (Nat × Nat)
  | 2 => [(1, 0)]
  | 3 => [(1, 0), (2, 1), (3, 2)]
  | 4 => [(1, 0), (2, 1), (3, 2), (4, 2), (5, 1), (6, 2), (6, 5), (7, 3), (7, 4), (7, 6), (8, 6), (9, 7), (9, 8), (10, 9)]
  | _ => []
def parF (m u : Nat) : Nat := (parT m).getD u 0
def clsF (m u : Nat) : Nat := (clsT m).getD u 0
def repF (m k : Nat) : Nat := (repT m).getD k 0
def ckA (m : Nat) : Bool := (List.range (2 ^ nP m)).all fun u => parF m u == u || (decide ((yT m).getD u 0 < (xT m).getD u 0) && decide ((xT m).getD u 0 < m) && exS m u ((xT m).getD u 0) ((yT m).getD u 0) (pairsL m) == parF m u && exS m (parF m u) ((xT m).getD u 0) ((yT m).getD u 0) (pairsL m) == u)
def ckB (m : Nat) : Bool := (List.range (2 ^ nP m)).all fun u => parF m (parF m (parF m u)) == repF m (clsF m u) && decide (clsF m u < (repT m).length) && decide (parF m u < 2 ^ nP m)
def ckC (m : Nat) : Bool := (covT m).all fun c => decide (c.1 < (repT m).length) && decide (c.2 < (repT m).length) && decide (repF m c.1 < 2 ^ nP m) && (List.range (nP m)).any fun x => clsF m (rm (repF m c.1) x) == c.2 && decide (rm (repF m c.1) x < 2 ^ nP m)
def dnB (m B : Nat) : Bool := (covT m).all fun c => !B.testBit c.1 || B.testBit c.2
def ckD (m : Nat) : Bool := (List.range (2 ^ (repT m).length)).all fun B => !dnB m B || B == 0 || B == 2 ^ (repT m).length - 1 || !(sumP (fun u => B.testBit (clsF m u)) (2 ^ nP m) == 0)
def ckE (m : Nat) : Bool := (List.range (2 ^ nP m)).all fun u => (List.range m).all fun x => (List.range x).all fun y => exS m (flip (nP m) u) x y (pairsL m) == flip (nP m) (exS m u x y (pairsL m)) && exS m (exS m u x y (pairsL m)) x y (pairsL m) == u
set_option maxRecDepth 100000 in
theorem ckA_all : ∀ m : Fin 5, 2 ≤ m.val → ckA m.val = true := by decide +kernel
set_option maxRecDepth 100000 in
theorem ckB_all : ∀ m : Fin 5, 2 ≤ m.val → ckB m.val = true := by decide +kernel
set_option maxRecDepth 100000 in
theorem ckC_all : ∀ m : Fin 5, 2 ≤ m.val → ckC m.val = true := by decide +kernel
set_option maxRecDepth 100000 in
theorem ckD_all : ∀ m : Fin 5, 2 ≤ m.val → ckD m.val = true := by decide +kernel
set_option maxRecDepth 100000 in
theorem ckE_all : ∀ m : Fin 5, 2 ≤ m.val → ckE m.val = true := by decide +kernel

section
variable {m F : Nat} (h2 : 2 ≤ m) (h4 : m ≤ 4) (hd : DownN (nP m) F) (hx : ExchA m F)
include h2 h4
theorem ex_flip {u x y : Nat} (hu : u < 2 ^ nP m) (hxm : x < m) (hy : y < x) : exS m (flip (nP m) u) x y (pairsL m) = flip (nP m) (exS m u x y (pairsL m)) ∧ exS m (exS m u x y (pairsL m)) x y (pairsL m) = u := by
  have h := ckE_all ⟨m, by omega⟩ h2
  simp only [ckE, List.all_eq_true, List.mem_range, Bool.and_eq_true, beq_iff_eq] at h
  exact h u hu x hxm y hy
include hx in
theorem bit_par {u : Nat} (hu : u < 2 ^ nP m) : F.testBit u = F.testBit (parF m u) := by
  have h := ckA_all ⟨m, by omega⟩ h2
  simp only [ckA, List.all_eq_true, List.mem_range, Bool.or_eq_true, Bool.and_eq_true, beq_iff_eq, decide_eq_true_eq] at h
  rcases h u hu with e | ⟨⟨⟨a, b⟩, c⟩, d⟩
  · rw [e]
  · rw [Bool.eq_iff_iff]
    constructor
    · intro k; have := hx u k _ _ b a; rw [c] at this; exact this
    · intro k; have := hx _ k _ _ b a; rw [d] at this; exact this
include hx in
theorem bit_rep {u : Nat} (hu : u < 2 ^ nP m) : F.testBit u = F.testBit (repF m (clsF m u)) ∧ clsF m u < (repT m).length := by
  have h := ckB_all ⟨m, by omega⟩ h2
  simp only [ckB, List.all_eq_true, List.mem_range, Bool.and_eq_true, beq_iff_eq, decide_eq_true_eq] at h
  obtain ⟨⟨e, hc⟩, h1⟩ := h u hu
  have h1' := (h _ h1).2
  refine ⟨?_, hc⟩
  rw [← e, bit_par h2 h4 hx hu, bit_par h2 h4 hx h1, bit_par h2 h4 hx h1']
include hd hx in
/-- A property that is neither empty nor all has another sum than zero. -/
theorem graph_sum : (∀ u, u < 2 ^ nP m → F.testBit u = false) ∨ (∀ u, u < 2 ^ nP m → F.testBit u = true) ∨ sumP F.testBit (2 ^ nP m) ≠ 0 := by
  obtain ⟨B, hB⟩ : ∃ B, B = mkN (repT m).length fun k => F.testBit (repF m k) := ⟨_, rfl⟩
  have hbl : B < 2 ^ (repT m).length := by rw [hB]; exact mkN_lt _ _
  have hbk : ∀ k, k < (repT m).length → B.testBit k = F.testBit (repF m k) := fun k hk => by rw [hB, mkN_bit, decide_eq_true hk, Bool.true_and]
  have hbit : ∀ u, u < 2 ^ nP m → F.testBit u = B.testBit (clsF m u) := fun u hu => by
    obtain ⟨e, hc⟩ := bit_rep h2 h4 hx hu
    rw [e, hbk _ hc]
  have hdn : dnB m B = true := by
    have h := ckC_all ⟨m, by omega⟩ h2
    simp only [ckC, List.all_eq_true, List.mem_range, Bool.and_eq_true, beq_iff_eq, decide_eq_true_eq, List.any_eq_true] at h
    unfold dnB
    rw [List.all_eq_true]
    intro c hc
    obtain ⟨⟨⟨c1, c2⟩, c3⟩, x, hxn, c4, c5⟩ := h c hc
    cases hb : B.testBit c.1
    · rfl
    · rw [hbk _ c1] at hb
      have := hd _ x hxn hb
      rw [hbit _ c5, c4] at this
      rw [this]; rfl
  have h := ckD_all ⟨m, by omega⟩ h2
  simp only [ckD, List.all_eq_true, List.mem_range, Bool.or_eq_true, beq_iff_eq, Bool.not_eq_true', beq_eq_false_iff_ne] at h
  rcases h B hbl with ((h | h) | h) | h
  · rw [hdn] at h; cases h
  · exact .inl fun u hu => by rw [hbit u hu, h, Nat.zero_testBit]
  · refine .inr (.inl fun u hu => ?_)
    rw [hbit u hu, h, Nat.testBit_two_pow_sub_one]
    exact decide_eq_true (bit_rep h2 h4 hx hu).2
  · refine .inr (.inr ?_)
    have e : sumP F.testBit (2 ^ nP m) = sumP (fun u => B.testBit (clsF m u)) (2 ^ nP m) := gs_congr fun s hs => by rw [hbit s hs]
    rw [e]; exact h
include hd hx in
/-- How many questions a property needs. -/
theorem graph_ask (hn6 : nP m ≤ 6) : (famL (2 ^ nP m) F.testBit = [] ∨ (famL (2 ^ nP m) F.testBit).length = 2 ^ nP m) ∧ askN (nP m) F.testBit 0 0 = 0 ∨ ¬ (famL (2 ^ nP m) F.testBit = [] ∨ (famL (2 ^ nP m) F.testBit).length = 2 ^ nP m) ∧ askN (nP m) F.testBit 0 0 = nP m := by
  rcases graph_sum h2 h4 hd hx with h | h | h
  · left
    refine ⟨.inl ?_, ?_⟩
    · apply List.eq_nil_iff_forall_not_mem.2
      intro x hm
      obtain ⟨a, b, c⟩ := mem_famL.1 hm
      rw [h _ (by omega)] at c; cases c
    · rw [askN_eq, if_pos (settl_iff.2 (.inl fun s hs _ => h s hs))]
  · left
    refine ⟨.inr ?_, ?_⟩
    · have e : famL (2 ^ nP m) F.testBit = famL (2 ^ nP m) fun _ => true := famL_congr fun i hi => h i hi
      rw [e]; unfold famL; rw [List.length_map, List.filter_eq_self.2 fun _ _ => rfl, List.length_range]
    · rw [askN_eq, if_pos (settl_iff.2 (.inr fun s hs _ => h s hs))]
  · right
    constructor
    · rintro (e | e)
      · apply h
        rw [← sumL_fam, e]; rfl
      · have hall : ∀ i, i < 2 ^ nP m → F.testBit i = true := by
          have e2 : ((List.range (2 ^ nP m)).filter F.testBit).length = (List.range (2 ^ nP m)).length := by simpa [famL] using e
          intro i hi
          have := (List.filter_sublist (p := F.testBit) (l := List.range (2 ^ nP m))).eq_of_length e2
          have hm : i ∈ (List.range (2 ^ nP m)).filter F.testBit := by rw [this]; exact List.mem_range.2 hi
          exact (List.mem_filter.1 hm).2
        apply h
        have e3 : sumP F.testBit (2 ^ nP m) = sumP (fun _ => true) (2 ^ nP m) := gs_congr fun s hs => by rw [hall s hs]
        rw [e3]
        obtain rfl | rfl | rfl : m = 2 ∨ m = 3 ∨ m = 4 := by omega
        all_goals decide +kernel
    · have hle := askN_le (nP m) F.testBit (nP m) 0 0 (un_none _)
      have hge : ¬ askN (nP m) F.testBit 0 0 < nP m := fun hc => h (early_sum hn6 hc)
      omega
include hx in
/-- The dual of a property is one. -/
theorem dual_exch : ExchA m (setF (famL (2 ^ nP m) (dualP (nP m) F.testBit))) := by
  intro g hg x y hxm hy
  rw [setF_famL] at hg ⊢
  obtain ⟨a, b⟩ := andE hg
  have a := of_decide_eq_true a
  obtain ⟨e1, e2⟩ := ex_flip h2 h4 a hxm hy
  have hl := exS_lt (g := g) h2 h4 a hxm hy
  rw [decide_eq_true hl, Bool.true_and]
  unfold dualP at b ⊢
  cases hc : F.testBit (flip (nP m) (exS m g x y (pairsL m)))
  · rfl
  · rw [← e1] at hc
    have := hx _ hc x y hxm hy
    rw [(ex_flip h2 h4 (flip_lt (nP m) g) hxm hy).2] at this
    rw [this] at b; cases b
end
end Go.Proofs.YtjddbglbodkihaaDoor
