/- Plain laws of the reference's worst and next guess. No condition but that the game's numbers are small. -/
import Derived.Test.YtdclmhmdkhpekaaWorstM
import Derived.Test.YtdclmhmdkhpekaaEnough
namespace Go.Proofs.Ytdclmhmdkhpekaa

/-- The greatest number at the first k places. -/
def wTo (c : Int) (p : Nat) (l : List Int) (a : Int) : Nat → Nat
  | 0 => 0
  | k+1 => max (wTo c p l a k) (grpL c p l a k).length
theorem wTo_ge (c : Int) (p : Nat) (l : List Int) (a : Int) : ∀ k i, i < k → (grpL c p l a i).length ≤ wTo c p l a k := by
  intro k
  induction k with
  | zero => intro i h; omega
  | succ k ih =>
    intro i h
    simp only [wTo]
    by_cases e : i = k
    · subst e; omega
    · have := ih i (by omega); omega
theorem wTo_ex (c : Int) (p : Nat) (l : List Int) (a : Int) : ∀ k, wTo c p l a k = 0 ∨ ∃ i, i < k ∧ (grpL c p l a i).length = wTo c p l a k := by
  intro k
  induction k with
  | zero => left; rfl
  | succ k ih =>
    simp only [wTo]
    by_cases e : wTo c p l a k ≤ (grpL c p l a k).length
    · right; exact ⟨k, by omega, by omega⟩
    · rcases ih with h | ⟨i, hi, h⟩
      · omega
      · right; exact ⟨i, by omega, by omega⟩
theorem wTo_len (c : Int) (p : Nat) (l : List Int) (a : Int) (k : Nat) : wTo c p l a k ≤ l.length := by
  rcases wTo_ex c p l a k with h | ⟨i, _, h⟩
  · omega
  · rw [← h]; exact List.length_filter_le _ _
theorem wTo_all {c : Int} {p : Nat} (hp : p ≤ 4) (hc1 : 1 ≤ c) (hc2 : c ≤ 6) (l : List Int) (a : Int) : wTo c p l a 25 = worstL c p l a := by
  refine IsWorst.one ⟨fun m => ?_, ?_⟩ (worst_is c p l a)
  · cases hm : partL c p l a m with
    | nil => simp
    | cons x t =>
      have hx : x ∈ partL c p l a m := by rw [hm]; simp
      obtain ⟨_, rfl⟩ := mem_part.1 hx
      have hb := marks_bd (c := c) (a := a) (b := x) (p := p) hp hc1 hc2
      obtain ⟨i, hi⟩ := Int.eq_ofNat_of_zero_le (show 0 ≤ 5 * black c a x p + white c a x p by omega)
      rw [← hm, ← grp_part hp hc1 hc2 hi]
      exact wTo_ge c p l a 25 i (by omega)
  · rcases wTo_ex c p l a 25 with h | ⟨i, _, h⟩
    · exact .inl h
    · cases hg : grpL c p l a i with
      | nil => left; rw [← h, hg]; rfl
      | cons x t =>
        have hx : x ∈ grpL c p l a i := by rw [hg]; simp
        have hx2 := (List.mem_filter.1 hx).2
        simp only [decide_eq_true_eq] at hx2
        right
        exact ⟨mrk c p a x, by rw [← grp_part hp hc1 hc2 hx2]; exact h⟩
theorem best_split (c : Int) (p : Nat) (l : List Int) (m : Nat) {j : Nat} : ∀ N, j ≤ N → ∃ r, bestTo c p l m N = bestTo c p l m j ++ r := by
  intro N
  induction N with
  | zero => intro h; obtain rfl : j = 0 := by omega
            exact ⟨[], by simp⟩
  | succ N ih =>
    intro h
    by_cases e : j = N + 1
    · subst e; exact ⟨[], by simp⟩
    · obtain ⟨r, hr⟩ := ih (by omega)
      exact ⟨r ++ if worstL c p l N = m then [(N : Int)] else [], by rw [best_succ, hr, List.append_assoc]⟩
theorem best_hit {c : Int} {p : Nat} {l : List Int} {m j : Nat} (h : worstL c p l j = m) : bestTo c p l m (j + 1) = bestTo c p l m j ++ [(j : Int)] := by rw [best_succ, if_pos h]
theorem best_miss {c : Int} {p : Nat} {l : List Int} {m j : Nat} (h : worstL c p l j ≠ m) : bestTo c p l m (j + 1) = bestTo c p l m j := by rw [best_succ, if_neg h, List.append_nil]
theorem pick_hit {c : Int} {p : Nat} {l : List Int} {m j N : Nat} (hj : j < N) (hw : worstL c p l j = m) (hno : ∀ a ∈ bestTo c p l m j, a ∉ l) (hl : (j : Int) ∈ l) : pickL (bestTo c p l m N) l = j := by
  obtain ⟨r, hr⟩ := best_split c p l m (j := j + 1) N (by omega)
  rw [best_hit hw] at hr
  have hf : (bestTo c p l m N).find? (fun a => l.contains a) = some (j : Int) := by
    rw [hr, List.append_assoc, List.find?_append, List.find?_eq_none.2 (by simpa using hno)]
    simp [hl]
  unfold pickL
  rw [hf]
theorem pick_none {best l : List Int} (hno : ∀ a ∈ best, a ∉ l) : pickL best l = best.headD 0 := by
  have hf : best.find? (fun a => l.contains a) = none := List.find?_eq_none.2 (by simpa using hno)
  unfold pickL
  rw [hf]
theorem pick_idx {best l : List Int} : (idxf (fun a => l.contains a) best = -1 ∧ pickL best l = best.headD 0) ∨ ∃ (k : Nat) (x : Int), idxf (fun a => l.contains a) best = k ∧ best[k]? = some x ∧ pickL best l = x := by
  unfold pickL
  induction best with
  | nil => left; exact ⟨rfl, rfl⟩
  | cons x t ih =>
    cases hx : l.contains x
    · rcases ih with ⟨h1, h2⟩ | ⟨k, y, h1, h2, h3⟩
      · left
        refine ⟨by simp only [idxf, hx, h1, Bool.false_eq_true, if_false, if_true], ?_⟩
        have hn : t.find? (fun a => l.contains a) = none := by
          rw [List.find?_eq_none]
          intro a ha hc
          obtain ⟨k, hk⟩ := List.mem_iff_getElem?.1 ha
          have h4 := idxf_any (fun a => l.contains a) t
          rw [h1] at h4
          have h5 : t.any (fun a => l.contains a) = true := List.any_eq_true.2 ⟨a, ha, hc⟩
          rw [h5] at h4
          simp at h4
        rw [List.find?_cons_of_neg (show ¬ l.contains x = true by rw [hx]; simp), hn]
      · right
        refine ⟨k + 1, y, ?_, by simpa using h2, ?_⟩
        · have : ¬ idxf (fun a => l.contains a) t = -1 := by omega
          simp only [idxf, hx, Bool.false_eq_true, if_false, h1]
          omega
        · have h4 := idxf_any (fun a => l.contains a) t
          have h5 : t.any (fun a => l.contains a) = true := by rw [← h4, h1]; simp
          rw [List.find?_cons_of_neg (show ¬ l.contains x = true by rw [hx]; simp)]
          cases hf : t.find? (fun a => l.contains a) with
          | some z => rw [hf] at h3; exact h3
          | none =>
            obtain ⟨z, hz, hc⟩ := List.any_eq_true.1 h5
            exact absurd hc (by simpa using List.find?_eq_none.1 hf z hz)
    · right
      refine ⟨0, x, by simp only [idxf, hx, if_true]; rfl, rfl, ?_⟩
      rw [List.find?_cons_of_pos (show l.contains x = true from hx)]
end Go.Proofs.Ytdclmhmdkhpekaa
