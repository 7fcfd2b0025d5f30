/- More words for memory: a slice that the call made, known whole. No condition. -/
import Derived.Test.YtkjinamjdjijcaaGreatDoorMem
namespace Go.Proofs.YtkjinamjdjijcaaGreatDoor
open Go.RowKit

/-- A slice that the call made, its block known whole: there and back. -/
theorem own_blk {w : World} {base g n : Nat} {e : TypeId} {xs : List Value} (h : w.ownsRow base e 1 (.slice (some ⟨g, 0, none⟩) n n) n xs) : Blk w g e xs.toArray := by
  rcases h.2 with ⟨hv, _⟩ | ⟨g', cap, cur, hv, hb, hg, hc, hm, hs, ht⟩
  · simp at hv
  · simp at hv
    obtain ⟨rfl, rfl⟩ := hv
    have : cur = xs.toArray := by
      rw [← ht, Nat.mul_one, List.take_of_length_le (by simp; omega)]
    subst this
    exact hg
theorem blk_own {w : World} {base g n : Nat} {e : TypeId} {cs : Array Value} (h : Blk w g e cs) (hb : base ≤ g) (hn : n = cs.size) (hm : n ≤ 1000000) : w.ownsRow base e 1 (.slice (some ⟨g, 0, none⟩) n n) n cs.toList :=
  ⟨by simp [hn], .inr ⟨g, n, cs, rfl, hb, h, Nat.le_refl _, by unfold maxLen; omega, by omega, by rw [Nat.mul_one, List.take_of_length_le (by simp [hn])]⟩⟩
theorem made_arr (n : Nat) : (madeCells (Value.int .i64 0).cells (n * 1)).toList.toArray = arr n fun _ => 0 := by
  apply Array.ext_getElem?
  intro j
  by_cases hj : j < n
  · rw [arr_get hj]
    simp [madeCells, Value.cells, hj, Nat.mod_one]
  · have h1 : (arr n fun _ => 0)[j]? = none := Array.getElem?_eq_none (by rw [arr_size]; omega)
    rw [h1]
    simp [madeCells]
    omega

end Go.Proofs.YtkjinamjdjijcaaGreatDoor
