/- slices.Sort on a row of the call's own; slices.Index and Contains on numbers. Condition: the slices read as numbers. -/
import Derived.Test.YtjddbglbodkihaaDoorShelf
import Derived.Test.YtjddbglbodkihaaDoorClone
import Derived.Test.YtjddbglbodkihaaDoorSplitM
import Derived.Sort.OwnSortedInts
import Derived.Shelf.Slices.In.SortNone
namespace Go.Proofs.YtjddbglbodkihaaDoor
open Go.RowKit Go.Maps

def sortI (l : List Int) : List Int := l.mergeSort fun x y => decide (x ≤ y)
theorem sortI_perm (l : List Int) : (sortI l).Perm l := List.mergeSort_perm l _
theorem sortI_asc (l : List Int) : (sortI l).Pairwise (· ≤ ·) := by
  have h := List.pairwise_mergeSort (le := fun x y : Int => decide (x ≤ y)) (by intro a b c; simp; omega) (by intro a b; simp; omega) l
  exact h.imp fun h => of_decide_eq_true h
theorem sortS (base : Nat) (v : Value) (n : Nat) (xs : List Int) (w : World) (ho : w.ownsRow base 3 1 v n (xs.map (Value.int .i64))) (hn : n ≤ 100000) :
    Calls Tryd.prog 56 #[v] w fun e w' => e = .returned (.tuple #[]) ∧ w'.ownsRow base 3 1 v n ((sortI xs).map (Value.int .i64)) ∧ w.grownBy w' v.ownBlock := by
  have hl : xs.length = n := by simpa using ho.1
  by_cases h0 : n = 0
  · subst h0
    have hx : xs = [] := List.eq_nil_of_length_eq_zero hl
    subst hx
    have hv : ∃ A c, v = .slice A 0 c := by
      rcases ho.2 with ⟨hv, _⟩ | ⟨g, cap, cur, hv, _⟩
      · exact ⟨_, _, hv⟩
      · exact ⟨_, _, hv⟩
    obtain ⟨A, c, rfl⟩ := hv
    refine (Any.slices_Sort_int_none lays189 A c w).mono ?_
    rintro e w' ⟨rfl, rfl⟩
    refine ⟨rfl, ?_, ⟨rfl, rfl, rfl, Nat.le_refl _, fun _ _ _ => rfl⟩⟩
    simpa [sortI] using ho
  · rcases ho.2 with ⟨rfl, rfl⟩ | ⟨g, cap, cur, rfl, hg, hblk, hc, hm, hs, ht⟩
    · omega
    · subst hl
      have ht' : cur.toList.take xs.length = xs.map (Value.int .i64) := by rw [← ht, Nat.mul_one]
      refine (slicesSort g 0 cap xs w (holds_of_blockI hblk ht') (lt_of_block hblk) (by omega)).mono ?_
      rintro e w' ⟨rfl, n, os, rfl⟩
      exact ⟨rfl, ownsRow_sortedI (List.length_mergeSort ..) hg hblk hc hm hs, grownBy_sortedI _⟩
set_option maxRecDepth 100000 in
set_option maxHeartbeats 2000000 in
theorem indexS (A : Option Addr) (m c : Nat) (xs : List Int) (x : Int) (w : World) (hs : Sl w A m c (xs.map (Value.int .i64))) :
    Calls Tryd.prog 90 #[.slice A m c, .int .i64 x] w fun e w' => (∃ r : Int, e = .returned (.int .i64 r) ∧ decide (0 ≤ r) = decide (x ∈ xs)) ∧ w = w' := by
  have hl := hs.numlen
  have hle := hs.len_le
  have HS := hid hs
  have HLX := hid hl
  clear hs hl
  go_enter Tryd.func90, Tryd.ntmps90
  go_wp2
  go_loopg [8] m (fun gk i wr => ∃ d : Nat, gk + d = m ∧ i = .int .i64 d ∧ w = wr ∧ Hid (∀ j, j < d → at0 xs j ≠ x))
  case atStart => exact ⟨0, by omega, rfl, rfl, hid fun j hj => absurd hj (by omega)⟩
  case round =>
    obtain ⟨d, hd, rfl, rfl, HN⟩ := hrel
    have HD := hid hd
    by_cases hlt : d < m
    · have HLT1 := hid hlt
      obtain ⟨b, o, rfl, lb, hdx, c1⟩ := HS.out.num hlt
      by_cases he : x = at0 xs d
      · have g : (x == at0 xs d) = true := by simp [he]
        have hm : decide (x ∈ xs) = true := decide_eq_true (he ▸ at0_mem hdx)
        have HM := hid hm
        clear he hm
        go_wp2
        go_ret
        exact ⟨⟨(d : Int), rfl, by rw [HM.out]; simp⟩, rfl⟩
      · have g : (x == at0 xs d) = false := by simp [he]
        have HN2 : Hid (∀ j, j < d + 1 → at0 xs j ≠ x) := hid fun j hj => by
          by_cases e : j = d
          · subst e; exact fun h => he h.symm
          · exact HN.out j (by omega)
        clear he
        go_wp2
        go_roundg (gk - 1)
        case measure => have := HD.out; have := HLT1.out; omega
        case rel => exact ⟨d + 1, by have := HD.out; have := HLT1.out; omega, by go_num, rfl, HN2⟩
    · obtain rfl : d = m := by have := HD.out; omega
      have HM := hid (show decide (x ∈ xs) = false from decide_eq_false fun h => by
        obtain ⟨j, hj⟩ := List.getElem?_of_mem h
        have hlt := (List.getElem?_eq_some_iff.1 hj).1
        exact HN.out j (by have := HLX.out; omega) (at0_get hj))
      clear hd
      go_wp2
      go_ret
      exact ⟨⟨-1, rfl, by rw [HM.out]; simp⟩, rfl⟩
set_option maxRecDepth 100000 in
set_option maxHeartbeats 1000000 in
theorem containsS (A : Option Addr) (m c : Nat) (xs : List Int) (x : Int) (w : World) (hs : Sl w A m c (xs.map (Value.int .i64))) :
    Calls Tryd.prog 55 #[.slice A m c, .int .i64 x] w fun e w' => e = .returned (.bool (decide (x ∈ xs))) ∧ w = w' := by
  have HI := hid (indexS A m c xs x w hs)
  clear hs
  go_enter Tryd.func55, Tryd.ntmps55
  go_wp2_with fail
  refine (HI.out).mono ?_; rintro e w1 ⟨⟨r, rfl, hr⟩, rfl⟩
  go_wp2
  go_ret
  exact ⟨rfl, rfl⟩
end Go.Proofs.YtjddbglbodkihaaDoor
