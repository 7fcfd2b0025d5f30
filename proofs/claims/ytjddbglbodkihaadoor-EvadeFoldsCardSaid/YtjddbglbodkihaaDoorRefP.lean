/- Walks of the reference's Close, Element, Link and Without. Conditions: the slices read as numbers. -/
import Derived.Test.YtjddbglbodkihaaDoorPartW
namespace Go.Proofs.YtjddbglbodkihaaDoor
open Go.RowKit
attribute [local go_sem ↓] shl_p2 shl_u or_u shr_u and_shrF shr_v and_shr andNot_v and_nn or_i shl_v or_nn

def anN (a b : Nat) : Nat := a &&& (18446744073709551615 - b)
theorem andNot_nn {a b : Nat} (h : AndF a b) : Op.intBits .andNot .i64 (a : Int) (b : Int) = pure (.int .i64 ((anN a b : Nat) : Int)) := by
  show pure (Value.int .i64 (bits .andNot .i64 (a : Int) (b : Int))) = _
  rw [i64_andNot _ _ (by have := h.1; omega) (by have := h.2; omega)]
  rfl
attribute [local go_sem ↓] andNot_nn
theorem anN_zero {a b : Nat} (ha : a < 64) (hb : b < 64) : anN a b = 0 ↔ a &&& b = a := by
  have key : ∀ a b : Fin 64, anN a.val b.val = 0 ↔ a.val &&& b.val = a.val := by decide +kernel
  exact key ⟨a, ha⟩ ⟨b, hb⟩
theorem anB {a b : Nat} (ha : a < 64) (hb : b < 64) : (((anN a b : Nat) : Int) == 0) = (a &&& b == a) := by
  have := anN_zero ha hb
  rw [Bool.eq_iff_iff, beq_iff_eq, beq_iff_eq]
  omega
/-- The parts of a set below d. -/
def partsU (x : Int) (d s : Nat) : Bool := decide (s < d) && (s &&& x.toNat == s)
theorem partsR_snoc (f : List Int) (x : Int) (s : Nat) : partsR (f ++ [x]) s = (partsR f s || (s &&& x.toNat == s)) := by simp [partsR, List.any_append]

set_option maxRecDepth 100000 in
set_option maxHeartbeats 2000000 in
theorem refClose (n : Nat) (A : Option Addr) (m c : Nat) (xs : List Int) (w : World) (hs : Sl w A m c (xs.map (Value.int .i64))) (H : SetsP n xs) :
    Calls Tryd.prog 25 #[.int .i64 n, .slice A m c] w fun e w' => ∃ A' c' l, e = .returned (.slice A' l c') ∧ w'.ownsRow w.heap.size 3 1 (.slice A' l c') l ((famL (2 ^ n) (partsR xs)).map (Value.int .i64)) ∧ Below w.heap.size w w' := by
  have h6 := H.n6
  have hn6 : n ≤ 6 := by omega
  have hl := hs.numlen
  have hle := hs.len_le
  have FN : Fits (n : Int) := ⟨by omega, by omega⟩
  have hN64 := two6 hn6
  have HE2 := hid (p2_nat n)
  have HR := hid fun j (hj : j < m) => H.bdn (at0 xs j) (at0_mem (by omega : j < xs.length))
  obtain ⟨N, hN⟩ : ∃ N, 2 ^ n = N := ⟨_, rfl⟩
  have hmk := make77p hn6 hN
  rw [hN] at HR HE2 hN64 ⊢
  have HS := hid hs
  have HLX := hid hl
  clear H hs hl hN hn6 h6
  go_enter Tryd.func25, Tryd.ntmps25
  go_wp2
  go_loopg [14] m (fun gk i wr => ∃ d : Nat, gk + d = m ∧ i = .int .i64 d ∧ Hid (Blk wr w.heap.size 4 (barr N (partsR (xs.take d)))) ∧ Hid (Below w.heap.size w wr))
  case atStart =>
    refine ⟨0, by omega, rfl, hid ?_, hid ((Below.refl _ _).alloc (Nat.le_refl _) _)⟩
    have e : barr N (partsR (xs.take 0)) = barr N fun _ => false := barr_congr fun j _ => by simp [partsR]
    rw [e]; exact Blk.new w 4 _
  case round =>
    obtain ⟨d, hd, rfl, HB, HW⟩ := hrel
    have HD := hid hd
    by_cases hlt : d < m
    · have HLT1 := hid hlt
      obtain ⟨b, o, rfl, lb, _, c1⟩ := HS.out.num hlt
      have hz := HW.out.size
      have c1' := (HW.out.cell (p := ⟨b, o + d, none⟩) lb).trans c1
      have lb' : b < wr.heap.size := by omega
      obtain ⟨x, hx⟩ := Int.eq_ofNat_of_zero_le (HR.out d hlt).1
      have hxN : x < N := by have := (HR.out d hlt).2; omega
      have HX := hid (And.intro hx hxN)
      rw [hx] at c1'
      clear c1 lb hxN hx
      go_wp2
      go_loopg [20] N (fun gj i wr => ∃ j : Nat, gj + j = N ∧ i = .int .i64 j ∧ Hid (Blk wr w.heap.size 4 (barr N fun s => partsR (xs.take d) s || partsU x j s)) ∧ Hid (Below w.heap.size w wr))
      case atStart =>
        refine ⟨0, by omega, rfl, hid ?_, HW⟩
        have e : barr N (fun s => partsR (xs.take d) s || partsU x 0 s) = barr N (partsR (xs.take d)) := barr_congr fun j _ => by simp [partsU]
        rw [e]; exact HB.out
      case round =>
        obtain ⟨j, hj, rfl, HB1, HW1⟩ := hrel
        have HJ := hid hj
        by_cases hlt2 : j < N
        · have HLT2 := hid hlt2
          have g1 : decide ((j : Int) < p2 (n : Int)) = true := decide_eq_true (by rw [HE2.out]; omega)
          have A1 : AndF j x := ⟨by omega, by have := HX.out.2; omega⟩
          have hab := anB (show j < 64 by omega) (show x < 64 by have := HX.out.2; omega)
          have fz := HB1.out.free j
          have fs := HB1.out.cell j
          rw [barr_get hlt2] at fs
          have e0 : partsU (x : Int) j j = false := by simp [partsU]
          have HNV := hid fun (v : Bool) (hv : v = (partsR (xs.take d) j || (j &&& x == j))) => (show Blk (wr.setCell ⟨w.heap.size, j, none⟩ (.bool v)) w.heap.size 4 (barr N fun s => partsR (xs.take d) s || partsU x (j + 1) s) from by
            have h := HB1.out.set j (.bool v)
            rw [barr_set (g := fun s => partsR (xs.take d) s || partsU x (j + 1) s) (fun s _ => by
              by_cases e : s = j
              · subst e
                rw [if_pos rfl, hv]
                simp [partsU]
              · rw [if_neg e]
                have : decide (s < j + 1) = decide (s < j) := by
                  rw [Bool.eq_iff_iff, decide_eq_true_iff, decide_eq_true_iff]; omega
                simp only [partsU, this])] at h
            exact h)
          have HW2 := hid fun v => HW1.out.setCell (p := ⟨w.heap.size, j, none⟩) (by simp) v
          rw [e0, Bool.or_false] at fs
          clear hj e0 hlt2
          cases hp : partsR (xs.take d) j
          · rw [hp] at fs HNV
            cases hq : (j &&& x == j)
            · rw [hq] at hab HNV
              clear hp hq
              go_wp2
              go_roundg (gk - 1)
              case measure => have := HJ.out; have := HLT2.out; omega
              case rel => exact ⟨j + 1, by have := HJ.out; have := HLT2.out; omega, by go_num, hid (HNV.out _ rfl), hid (HW2.out _)⟩
            · rw [hq] at hab HNV
              clear hp hq
              go_wp2
              go_roundg (gk - 1)
              case measure => have := HJ.out; have := HLT2.out; omega
              case rel => exact ⟨j + 1, by have := HJ.out; have := HLT2.out; omega, by go_num, hid (HNV.out _ rfl), hid (HW2.out _)⟩
          · rw [hp] at fs HNV
            clear hp
            go_wp2
            go_roundg (gk - 1)
            case measure => have := HJ.out; have := HLT2.out; omega
            case rel => exact ⟨j + 1, by have := HJ.out; have := HLT2.out; omega, by go_num, hid (HNV.out _ (by simp)), hid (HW2.out _)⟩
        · obtain rfl : j = N := by have := HJ.out; omega
          have g1 : decide ((j : Int) < p2 (n : Int)) = false := decide_eq_false (by rw [HE2.out]; omega)
          have hxd : xs[d]? = some (x : Int) := by
            have hb : d < xs.length := by have := HLX.out; have := HLT1.out; omega
            have e : xs[d]? = some xs[d] := List.getElem?_eq_getElem hb
            rw [e]; congr 1; rw [← HX.out.1]; exact (at0_get e).symm
          have HN := hid (show Blk wr w.heap.size 4 (barr j (partsR (xs.take (d + 1)))) from by
            have h := HB1.out
            have e : barr j (partsR (xs.take (d + 1))) = barr j (fun s => partsR (xs.take d) s || partsU x j s) := barr_congr fun s hs => by
              rw [List.take_add_one, hxd]
              show partsR (xs.take d ++ [(x : Int)]) s = _
              rw [partsR_snoc, partsU, decide_eq_true hs, Bool.true_and]
            rw [e]; exact h)
          clear hxd hj
          go_wp2
          go_roundg (m - d - 1)
          case measure => have := HD.out; have := HLT1.out; omega
          case rel => exact ⟨d + 1, by have := HD.out; have := HLT1.out; omega, by go_num, HN, HW1⟩
    · obtain rfl : d = m := by have := HD.out; omega
      have e : xs.take d = xs := List.take_of_length_le (by have := HLX.out; omega)
      rw [e] at HB
      have HLR := hid (listR w.heap.size N (partsR xs) wr hN64 HB.out)
      clear e
      have hz := HW.out.size
      go_wp2_with fail
      refine (HLR.out).mono ?_
      rintro e w6 ⟨A', c', rfl, ho, b6⟩
      have HB7 := hid (below_call HW.out b6 hz)
      have HO := hid (own_more ho hz)
      clear b6 ho
      go_wp2
      go_ret
      exact ⟨_, _, _, rfl, HO.out, HB7.out⟩

set_option maxRecDepth 100000 in
set_option maxHeartbeats 1000000 in
theorem elementF (n x : Int) (w : World) :
    Calls Tryd.prog 26 #[.int .i64 n, .int .i64 x] w fun e w' => e = .returned (.bool (decide (0 ≤ x) && decide (x < n))) ∧ w = w' := by
  by_cases h : 0 ≤ x
  · have g : decide (0 ≤ x) = true := decide_eq_true h
    rw [g]
    by_cases h2 : x < n
    · have g2 : decide (x < n) = true := decide_eq_true h2
      rw [g2]
      go_enter Tryd.func26, Tryd.ntmps26
      go_wp2
      go_ret
      exact ⟨rfl, rfl⟩
    · have g2 : decide (x < n) = false := decide_eq_false h2
      rw [g2]
      go_enter Tryd.func26, Tryd.ntmps26
      go_wp2
      go_ret
      exact ⟨rfl, rfl⟩
  · have g : decide (0 ≤ x) = false := decide_eq_false h
    rw [g]
    go_enter Tryd.func26, Tryd.ntmps26
    go_wp2
    go_ret
    exact ⟨rfl, rfl⟩
theorem outR_snoc (l : List Int) (x : Nat) (s : Int) : outR (l ++ [s]) x = outR l x ++ if s.toNat.testBit x then [] else [s] := by
  unfold outR
  rw [List.filter_append]
  congr 1
  cases h : s.toNat.testBit x <;> simp [h]
theorem linkR_snoc (l : List Int) (x : Nat) (s : Int) : linkR (l ++ [s]) x = linkR l x ++ if s.toNat.testBit x then [((rm s.toNat x : Nat) : Int)] else [] := by
  unfold linkR
  rw [List.filter_append, List.map_append]
  congr 1
  cases h : s.toNat.testBit x <;> simp [h]
theorem outR_len (l : List Int) (x : Nat) : (outR l x).length ≤ l.length := List.length_filter_le _ _
theorem linkR_len (l : List Int) (x : Nat) : (linkR l x).length ≤ l.length := by
  unfold linkR; rw [List.length_map]; exact List.length_filter_le _ _
set_option maxRecDepth 100000 in
set_option maxHeartbeats 2000000 in
theorem refOut (A : Option Addr) (m c : Nat) (xs : List Int) (x : Nat) (w : World) (hs : Sl w A m c (xs.map (Value.int .i64))) (hb : ∀ s ∈ xs, 0 ≤ s ∧ s < 64) (hx : x ≤ 5) (hm : m ≤ 64) :
    Calls Tryd.prog 28 #[.slice A m c, .int .i64 x] w fun e w' => ∃ A' c' l, e = .returned (.slice A' l c') ∧ w'.ownsRow w.heap.size 3 1 (.slice A' l c') l ((outR xs x).map (Value.int .i64)) ∧ Below w.heap.size w w' := by
  have hl := hs.numlen
  have hle := hs.len_le
  have FX : Fits (x : Int) := ⟨by omega, by omega⟩
  have HR := hid fun j (hj : j < m) => hb (at0 xs j) (at0_mem (by omega : j < xs.length))
  have HS := hid hs
  have HLX := hid hl
  have HM := hid hm
  clear hs hl hb hm
  go_enter Tryd.func28, Tryd.ntmps28
  go_wp2
  go_loopg [5, 10] m (fun gk v i wr => ∃ d : Nat, gk + d = m ∧ i = .int .i64 d ∧ (∃ A c, v = .slice A (outR (xs.take d) x).length c ∧ Hid (wr.ownsRow w.heap.size 3 1 (.slice A (outR (xs.take d) x).length c) (outR (xs.take d) x).length ((outR (xs.take d) x).map (Value.int .i64)))) ∧ Hid (Below w.heap.size w wr))
  case atStart => exact ⟨0, by omega, rfl, ⟨none, 0, rfl, hid (World.ownsRow_nil _ _ _ _)⟩, hid (Below.refl _ _)⟩
  case round =>
    obtain ⟨d, hd, rfl, ⟨A3, c3, rfl, hO⟩, HW⟩ := hrel
    have HD := hid hd
    have hz := HW.out.size
    by_cases hlt : d < m
    · have HLT1 := hid hlt
      obtain ⟨b, o, rfl, lb, hdx, c1⟩ := HS.out.num hlt
      have c1' := (HW.out.cell (p := ⟨b, o + d, none⟩) lb).trans c1
      have lb' : b < wr.heap.size := by omega
      have hr := HR.out d hlt
      obtain ⟨s, hse⟩ := Int.eq_ofNat_of_zero_le hr.1
      have hxd : xs[d]? = some (s : Int) := by
        have e : xs[d]? = some xs[d] := List.getElem?_eq_getElem hdx
        rw [e]; congr 1; rw [← hse]; exact (at0_get e).symm
      have hsn := outR_snoc (xs.take d) x (s : Int)
      rw [Int.toNat_natCast] at hsn
      have htk : xs.take (d + 1) = xs.take d ++ [(s : Int)] := by rw [List.take_add_one, hxd]; rfl
      rw [← htk] at hsn
      have hln := outR_len (xs.take d) x
      rw [List.length_take] at hln
      have hk64 : (outR (xs.take d) x).length ≤ 64 := by have := HM.out; omega
      rw [hse] at c1'
      generalize outR (xs.take d) x = l at *
      have HSN := hid hsn
      clear c1 lb hxd htk hln hdx hsn hr
      cases hbt : s.testBit x
      · have g1 := bitV_z hbt
        rw [hbt] at HSN
        clear hbt
        go_wp2_with (at_builtin; refine push1 TI22 wr #[.int .i64 (s : Int)] _ _ _ _ hO.out _ _ rfl rfl rfl rfl rfl (by simp [Value.oneCell']) (by omega) (by omega) hz ?_; intro v1 w3 hown1 hgr; have hb1 : Below w.heap.size w w3 := below_push HW.out hO.out hgr hz (Nat.le_refl _); obtain ⟨A1, c1, rfl⟩ := own_form hown1; have HO3 := hid hown1; have HB3 := hid hb1; clear hown1 hgr hb1)
        go_roundg (gk - 1)
        case measure => have := HD.out; have := HLT1.out; omega
        case rel =>
          have e : outR (xs.take (d + 1)) x = l ++ [(s : Int)] := by rw [HSN.out]; simp
          have hl2 : (outR (xs.take (d + 1)) x).length = l.length + 1 := by rw [e]; simp
          refine ⟨d + 1, by have := HD.out; have := HLT1.out; omega, by go_num, ⟨A1, c1, by rw [hl2], ?_⟩, HB3⟩
          rw [hl2, e]
          exact hid (by simpa using HO3.out)
      · have g1 := bitV_nz hbt
        rw [hbt] at HSN
        clear hbt
        go_wp2
        go_roundg (gk - 1)
        case measure => have := HD.out; have := HLT1.out; omega
        case rel =>
          have e : outR (xs.take (d + 1)) x = l := by rw [HSN.out]; simp
          refine ⟨d + 1, by have := HD.out; have := HLT1.out; omega, by go_num, ⟨A3, c3, by rw [e], by rw [e]; exact hO⟩, HW⟩
    · obtain rfl : d = m := by have := HD.out; omega
      have e : xs.take d = xs := List.take_of_length_le (by have := HLX.out; omega)
      rw [e] at hO ⊢
      clear e
      go_wp2
      go_ret
      exact ⟨A3, c3, _, rfl, hO.out, HW.out⟩
set_option maxRecDepth 100000 in
set_option maxHeartbeats 2000000 in
theorem refLink (A : Option Addr) (m c : Nat) (xs : List Int) (x : Nat) (w : World) (hs : Sl w A m c (xs.map (Value.int .i64))) (hb : ∀ s ∈ xs, 0 ≤ s ∧ s < 64) (hx : x ≤ 5) (hm : m ≤ 64) :
    Calls Tryd.prog 27 #[.slice A m c, .int .i64 x] w fun e w' => ∃ A' c' l, e = .returned (.slice A' l c') ∧ w'.ownsRow w.heap.size 3 1 (.slice A' l c') l ((linkR xs x).map (Value.int .i64)) ∧ Below w.heap.size w w' := by
  have hl := hs.numlen
  have hle := hs.len_le
  have FX : Fits (x : Int) := ⟨by omega, by omega⟩
  have e5 : ((x : Int)).toNat = x := Int.toNat_natCast x
  have HR := hid fun j (hj : j < m) => hb (at0 xs j) (at0_mem (by omega : j < xs.length))
  have HS := hid hs
  have HLX := hid hl
  have HM := hid hm
  clear hs hl hb hm
  go_enter Tryd.func27, Tryd.ntmps27
  go_wp2
  go_loopg [5, 10] m (fun gk v i wr => ∃ d : Nat, gk + d = m ∧ i = .int .i64 d ∧ (∃ A c, v = .slice A (linkR (xs.take d) x).length c ∧ Hid (wr.ownsRow w.heap.size 3 1 (.slice A (linkR (xs.take d) x).length c) (linkR (xs.take d) x).length ((linkR (xs.take d) x).map (Value.int .i64)))) ∧ Hid (Below w.heap.size w wr))
  case atStart => exact ⟨0, by omega, rfl, ⟨none, 0, rfl, hid (World.ownsRow_nil _ _ _ _)⟩, hid (Below.refl _ _)⟩
  case round =>
    obtain ⟨d, hd, rfl, ⟨A3, c3, rfl, hO⟩, HW⟩ := hrel
    have HD := hid hd
    have hz := HW.out.size
    by_cases hlt : d < m
    · have HLT1 := hid hlt
      obtain ⟨b, o, rfl, lb, hdx, c1⟩ := HS.out.num hlt
      have c1' := (HW.out.cell (p := ⟨b, o + d, none⟩) lb).trans c1
      have lb' : b < wr.heap.size := by omega
      have hr := HR.out d hlt
      obtain ⟨s, hse⟩ := Int.eq_ofNat_of_zero_le hr.1
      have hxd : xs[d]? = some (s : Int) := by
        have e : xs[d]? = some xs[d] := List.getElem?_eq_getElem hdx
        rw [e]; congr 1; rw [← hse]; exact (at0_get e).symm
      have hsn := linkR_snoc (xs.take d) x (s : Int)
      rw [Int.toNat_natCast] at hsn
      have htk : xs.take (d + 1) = xs.take d ++ [(s : Int)] := by rw [List.take_add_one, hxd]; rfl
      rw [← htk] at hsn
      have hln := linkR_len (xs.take d) x
      rw [List.length_take] at hln
      have hk64 : (linkR (xs.take d) x).length ≤ 64 := by have := HM.out; omega
      rw [hse] at c1'
      generalize linkR (xs.take d) x = l at *
      have HSN := hid hsn
      have hs64 : s < 64 := by omega
      clear c1 lb hxd htk hln hdx hsn hr
      cases hbt : s.testBit x
      · have g1 := bitV_no hbt
        rw [hbt] at HSN
        clear hbt
        go_wp2
        go_roundg (gk - 1)
        case measure => have := HD.out; have := HLT1.out; omega
        case rel =>
          have e : linkR (xs.take (d + 1)) x = l := by rw [HSN.out]; simp
          refine ⟨d + 1, by have := HD.out; have := HLT1.out; omega, by go_num, ⟨A3, c3, by rw [e], by rw [e]; exact hO⟩, HW⟩
      · have g1 := bitV_yes hbt
        rw [hbt] at HSN
        clear hbt
        have AN : AnF s (x : Int) := ⟨by omega, by omega, by omega⟩
        go_wp2_with (at_builtin; refine push1 TI22 wr #[.int .i64 ((rm s x : Nat) : Int)] _ _ _ _ hO.out _ _ rfl rfl rfl rfl rfl (by simp [Value.oneCell']) (by omega) (by omega) hz ?_; intro v1 w3 hown1 hgr; have hb1 : Below w.heap.size w w3 := below_push HW.out hO.out hgr hz (Nat.le_refl _); obtain ⟨A1, c1, rfl⟩ := own_form hown1; have HO3 := hid hown1; have HB3 := hid hb1; clear hown1 hgr hb1)
        go_roundg (gk - 1)
        case measure => have := HD.out; have := HLT1.out; omega
        case rel =>
          have e : linkR (xs.take (d + 1)) x = l ++ [((rm s x : Nat) : Int)] := by rw [HSN.out]; simp
          have hl2 : (linkR (xs.take (d + 1)) x).length = l.length + 1 := by rw [e]; simp
          refine ⟨d + 1, by have := HD.out; have := HLT1.out; omega, by go_num, ⟨A1, c1, by rw [hl2], ?_⟩, HB3⟩
          rw [hl2, e]
          exact hid (by simpa using HO3.out)
    · obtain rfl : d = m := by have := HD.out; omega
      have e : xs.take d = xs := List.take_of_length_le (by have := HLX.out; omega)
      rw [e] at hO ⊢
      clear e
      go_wp2
      go_ret
      exact ⟨A3, c3, _, rfl, hO.out, HW.out⟩
end Go.Proofs.YtjddbglbodkihaaDoor
