/- The reference's Close on a list of any length. Condition: sets of at most six elements. -/
import Derived.Test.YtjddbglbodkihaaDoorRefP
namespace Go.Proofs.YtjddbglbodkihaaDoor
open Go.RowKit
attribute [local go_sem ↓] shl_p2 shl_u or_u shr_u and_shrF shr_v and_shr andNot_v and_nn or_i shl_v or_nn
attribute [local go_sem ↓] andNot_nn

set_option maxRecDepth 100000 in
set_option maxHeartbeats 2000000 in
theorem refCloseB (n : Nat) (A : Option Addr) (m c : Nat) (xs : List Int) (w : World) (hs : Sl w A m c (xs.map (Value.int .i64))) (hn6 : n ≤ 6) (hbd : ∀ x ∈ xs, 0 ≤ x ∧ x < (2 ^ n : Nat)) :
    Calls Tryd.prog 25 #[.int .i64 n, .slice A m c] w fun e w' => ∃ A' c' l, e = .returned (.slice A' l c') ∧ w'.ownsRow w.heap.size 3 1 (.slice A' l c') l ((famL (2 ^ n) (partsR xs)).map (Value.int .i64)) ∧ Below w.heap.size w w' := by
  have hl := hs.numlen
  have hle := hs.len_le
  have FN : Fits (n : Int) := ⟨by omega, by omega⟩
  have hN64 := two6 hn6
  have HE2 := hid (p2_nat n)
  have HR := hid fun j (hj : j < m) => hbd (at0 xs j) (at0_mem (by omega : j < xs.length))
  obtain ⟨N, hN⟩ : ∃ N, 2 ^ n = N := ⟨_, rfl⟩
  have hmk := make77p hn6 hN
  rw [hN] at HR HE2 hN64 ⊢
  have HS := hid hs
  have HLX := hid hl
  clear hbd hs hl hN hn6
  go_enter Tryd.func25, Tryd.ntmps25
  go_wp2
  go_loopg [14] m (fun gk i wr => ∃ d : Nat, gk + d = m ∧ i = .int .i64 d ∧ Hid (Blk wr w.heap.size 4 (barr N (partsR (xs.take d)))) ∧ Hid (Below w.heap.size w wr))
  case atStart =>
    refine ⟨0, by omega, rfl, hid ?_, hid ((Below.refl _ _).alloc (Nat.le_refl _) _)⟩
    have e : barr N (partsR (xs.take 0)) = barr N fun _ => false := barr_congr fun j _ => by simp [partsR]
    rw [e]; exact Blk.new w 4 _
  case round =>
    obtain ⟨d, hd, rfl, HB, HW⟩ := hrel
    have HD := hid hd
    by_cases hlt : d < m
    · have HLT1 := hid hlt
      obtain ⟨b, o, rfl, lb, _, c1⟩ := HS.out.num hlt
      have hz := HW.out.size
      have c1' := (HW.out.cell (p := ⟨b, o + d, none⟩) lb).trans c1
      have lb' : b < wr.heap.size := by omega
      obtain ⟨x, hx⟩ := Int.eq_ofNat_of_zero_le (HR.out d hlt).1
      have hxN : x < N := by have := (HR.out d hlt).2; omega
      have HX := hid (And.intro hx hxN)
      rw [hx] at c1'
      clear c1 lb hxN hx
      go_wp2
      go_loopg [20] N (fun gj i wr => ∃ j : Nat, gj + j = N ∧ i = .int .i64 j ∧ Hid (Blk wr w.heap.size 4 (barr N fun s => partsR (xs.take d) s || partsU x j s)) ∧ Hid (Below w.heap.size w wr))
      case atStart =>
        refine ⟨0, by omega, rfl, hid ?_, HW⟩
        have e : barr N (fun s => partsR (xs.take d) s || partsU x 0 s) = barr N (partsR (xs.take d)) := barr_congr fun j _ => by simp [partsU]
        rw [e]; exact HB.out
      case round =>
        obtain ⟨j, hj, rfl, HB1, HW1⟩ := hrel
        have HJ := hid hj
        by_cases hlt2 : j < N
        · have HLT2 := hid hlt2
          have g1 : decide ((j : Int) < p2 (n : Int)) = true := decide_eq_true (by rw [HE2.out]; omega)
          have A1 : AndF j x := ⟨by omega, by have := HX.out.2; omega⟩
          have hab := anB (show j < 64 by omega) (show x < 64 by have := HX.out.2; omega)
          have fz := HB1.out.free j
          have fs := HB1.out.cell j
          rw [barr_get hlt2] at fs
          have e0 : partsU (x : Int) j j = false := by simp [partsU]
          have HNV := hid fun (v : Bool) (hv : v = (partsR (xs.take d) j || (j &&& x == j))) => (show Blk (wr.setCell ⟨w.heap.size, j, none⟩ (.bool v)) w.heap.size 4 (barr N fun s => partsR (xs.take d) s || partsU x (j + 1) s) from by
            have h := HB1.out.set j (.bool v)
            rw [barr_set (g := fun s => partsR (xs.take d) s || partsU x (j + 1) s) (fun s _ => by
              by_cases e : s = j
              · subst e
                rw [if_pos rfl, hv]
                simp [partsU]
              · rw [if_neg e]
                have : decide (s < j + 1) = decide (s < j) := by
                  rw [Bool.eq_iff_iff, decide_eq_true_iff, decide_eq_true_iff]; omega
                simp only [partsU, this])] at h
            exact h)
          have HW2 := hid fun v => HW1.out.setCell (p := ⟨w.heap.size, j, none⟩) (by simp) v
          rw [e0, Bool.or_false] at fs
          clear hj e0 hlt2
          cases hp : partsR (xs.take d) j
          · rw [hp] at fs HNV
            cases hq : (j &&& x == j)
            · rw [hq] at hab HNV
              clear hp hq
              go_wp2
              go_roundg (gk - 1)
              case measure => have := HJ.out; have := HLT2.out; omega
              case rel => exact ⟨j + 1, by have := HJ.out; have := HLT2.out; omega, by go_num, hid (HNV.out _ rfl), hid (HW2.out _)⟩
            · rw [hq] at hab HNV
              clear hp hq
              go_wp2
              go_roundg (gk - 1)
              case measure => have := HJ.out; have := HLT2.out; omega
              case rel => exact ⟨j + 1, by have := HJ.out; have := HLT2.out; omega, by go_num, hid (HNV.out _ rfl), hid (HW2.out _)⟩
          · rw [hp] at fs HNV
            clear hp
            go_wp2
            go_roundg (gk - 1)
            case measure => have := HJ.out; have := HLT2.out; omega
            case rel => exact ⟨j + 1, by have := HJ.out; have := HLT2.out; omega, by go_num, hid (HNV.out _ (by simp)), hid (HW2.out _)⟩
        · obtain rfl : j = N := by have := HJ.out; omega
          have g1 : decide ((j : Int) < p2 (n : Int)) = false := decide_eq_false (by rw [HE2.out]; omega)
          have hxd : xs[d]? = some (x : Int) := by
            have hb : d < xs.length := by have := HLX.out; have := HLT1.out; omega
            have e : xs[d]? = some xs[d] := List.getElem?_eq_getElem hb
            rw [e]; congr 1; rw [← HX.out.1]; exact (at0_get e).symm
          have HN := hid (show Blk wr w.heap.size 4 (barr j (partsR (xs.take (d + 1)))) from by
            have h := HB1.out
            have e : barr j (partsR (xs.take (d + 1))) = barr j (fun s => partsR (xs.take d) s || partsU x j s) := barr_congr fun s hs => by
              rw [List.take_add_one, hxd]
              show partsR (xs.take d ++ [(x : Int)]) s = _
              rw [partsR_snoc, partsU, decide_eq_true hs, Bool.true_and]
            rw [e]; exact h)
          clear hxd hj
          go_wp2
          go_roundg (m - d - 1)
          case measure => have := HD.out; have := HLT1.out; omega
          case rel => exact ⟨d + 1, by have := HD.out; have := HLT1.out; omega, by go_num, HN, HW1⟩
    · obtain rfl : d = m := by have := HD.out; omega
      have e : xs.take d = xs := List.take_of_length_le (by have := HLX.out; omega)
      rw [e] at HB
      have HLR := hid (listR w.heap.size N (partsR xs) wr hN64 HB.out)
      clear e
      have hz := HW.out.size
      go_wp2_with fail
      refine (HLR.out).mono ?_
      rintro e w6 ⟨A', c', rfl, ho, b6⟩
      have HB7 := hid (below_call HW.out b6 hz)
      have HO := hid (own_more ho hz)
      clear b6 ho
      go_wp2
      go_ret
      exact ⟨_, _, _, rfl, HO.out, HB7.out⟩
end Go.Proofs.YtjddbglbodkihaaDoor
