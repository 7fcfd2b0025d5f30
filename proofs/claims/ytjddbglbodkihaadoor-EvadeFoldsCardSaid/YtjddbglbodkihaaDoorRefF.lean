/- Walks of the reference's Elements, Sets, table, list and Family. Conditions: the slice reads as numbers. -/
import Derived.Test.YtjddbglbodkihaaDoorClone
import Derived.Test.YtjddbglbodkihaaDoorSumM
namespace Go.Proofs.YtjddbglbodkihaaDoor
open Go.RowKit
attribute [local go_sem ↓] shl_p2 shl_u or_u shr_u and_shrF shr_v and_shr andNot_v

def barr (n : Nat) (f : Nat → Bool) : Array Value := ((List.range n).map fun i => Value.bool (f i)).toArray
theorem barr_get {n : Nat} {f : Nat → Bool} {i : Nat} (h : i < n) : (barr n f)[i]? = some (.bool (f i)) := by simp [barr, h]
theorem barr_size (n : Nat) (f : Nat → Bool) : (barr n f).size = n := by simp [barr]
theorem barr_set {n : Nat} {f g : Nat → Bool} {i : Nat} {v : Bool} (h : ∀ j, j < n → g j = if j = i then v else f j) : (barr n f).setIfInBounds i (.bool v) = barr n g := by
  apply Array.ext_getElem?
  intro j
  rw [Array.getElem?_setIfInBounds]
  by_cases hj : j < n
  · rw [barr_get hj, barr_get hj, h j hj]
    by_cases e : i = j
    · subst e; rw [if_pos rfl, if_pos (by rw [barr_size]; exact hj)]; simp
    · rw [if_neg e]; simp [show ¬ j = i from fun a => e a.symm]
  · have h1 : (barr n g)[j]? = none := Array.getElem?_eq_none (by rw [barr_size]; omega)
    have h2 : (barr n f)[j]? = none := Array.getElem?_eq_none (by rw [barr_size]; omega)
    rw [h1]
    by_cases e : i = j
    · subst e; simp [barr_size, hj]
    · rw [if_neg e, h2]
theorem barr_congr {n : Nat} {f g : Nat → Bool} (h : ∀ j, j < n → f j = g j) : barr n f = barr n g := by
  unfold barr
  congr 1
  apply List.map_congr_left
  intro i hi
  rw [h i (by simpa using hi)]
theorem made_barr (n : Nat) : (madeCells (Value.bool false).cells (n * 1)).toList.toArray = barr n fun _ => false := by
  apply Array.ext_getElem?
  intro j
  by_cases hj : j < n
  · rw [barr_get hj]
    simp [madeCells, Value.cells, hj, Nat.mod_one]
  · have h1 : (barr n fun _ => false)[j]? = none := Array.getElem?_eq_none (by rw [barr_size]; omega)
    rw [h1]
    simp [madeCells, Value.cells]
    omega
theorem TB77 : TS Tryd.prog 77 4 1 1 (.bool false) := ⟨Tryd.underlying77, by kernel_rfl, rfl, by decide⟩
theorem make77 (n : Nat) (hn : n ≤ 4294967296) (W : World) : (Instr.makeSlice 77 (.int .i64 (n : Int)) (.int .i64 (n : Int))).run Tryd.prog W = .ok (.slice (some ⟨W.heap.size, 0, none⟩) n n) (W.alloc (.cells (barr n fun _ => false) 4)) := by
  obtain ⟨i0, hi, hz0, hz1, hz2⟩ := info_parts TB77.inf
  have := run_make (P := Tryd.prog) W 77 4 i0 (.bool false) TB77.und hi hz0 .i64 .i64 (n : Int) (n : Int) (by omega) (Int.le_refl _) (by rw [hz2]; omega) (by omega)
  rw [this, Int.toNat_natCast, hz1, ← made_barr]
theorem make77p {n N : Nat} (hn : n ≤ 6) (hN : 2 ^ n = N) (W : World) : (Instr.makeSlice 77 (.int .i64 (p2 (n : Int))) (.int .i64 (p2 (n : Int)))).run Tryd.prog W = .ok (.slice (some ⟨W.heap.size, 0, none⟩) N N) (W.alloc (.cells (barr N fun _ => false) 4)) := by
  rw [p2_nat, hN]
  exact make77 N (by have := two6 hn; omega) W

/-- A slice of numbers that are sets of n elements. -/
structure SetsP (n : Int) (xs : List Int) : Prop where
  n1 : 1 ≤ n
  n6 : n ≤ 6
  len : xs.length ≤ 64
  bd : ∀ x ∈ xs, 0 ≤ x ∧ x < p2 n
theorem SetsP.of_fam {n : Int} {xs : List Int} (h : Fam n xs) : SetsP n xs := by
  have h1 := h.n1; have h6 := h.n6
  obtain ⟨k, rfl⟩ := Int.eq_ofNat_of_zero_le (show 0 ≤ n by omega)
  refine ⟨h1, h6, ?_, h.bd⟩
  have := h.same
  rw [← this]
  exact Nat.le_trans (famL_len _ _) (two6 (show k ≤ 6 by omega))
theorem SetsP.bdn {n : Nat} {xs : List Int} (h : SetsP n xs) : ∀ x ∈ xs, 0 ≤ x ∧ x < (2 ^ n : Nat) := fun x hx => by have := h.bd x hx; rwa [p2_nat] at this

set_option maxRecDepth 100000 in
set_option maxHeartbeats 1000000 in
theorem elemYes (n : Int) (w : World) (h1 : 1 ≤ n) (h6 : n ≤ 6) :
    Calls Tryd.prog 68 #[.int .i64 n] w fun e w' => e = .returned (.bool true) ∧ w = w' := by
  have q1 : decide (1 ≤ n) = true := decide_eq_true h1
  have q2 : decide (n ≤ 6) = true := decide_eq_true h6
  clear h1 h6
  go_enter Tryd.func68, Tryd.ntmps68
  go_wp2
  go_ret
  exact ⟨rfl, rfl⟩
set_option maxRecDepth 100000 in
set_option maxHeartbeats 1000000 in
theorem elemNo (n : Int) (w : World) (h : ¬ (1 ≤ n ∧ n ≤ 6)) :
    Calls Tryd.prog 68 #[.int .i64 n] w fun e w' => e = .returned (.bool false) ∧ w = w' := by
  by_cases h1 : 1 ≤ n
  · have q1 : decide (1 ≤ n) = true := decide_eq_true h1
    have q2 : decide (n ≤ 6) = false := decide_eq_false (by omega)
    clear h h1
    go_enter Tryd.func68, Tryd.ntmps68
    go_wp2
    go_ret
    exact ⟨rfl, rfl⟩
  · have q1 : decide (1 ≤ n) = false := decide_eq_false h1
    clear h h1
    go_enter Tryd.func68, Tryd.ntmps68
    go_wp2
    go_ret
    exact ⟨rfl, rfl⟩
set_option maxRecDepth 100000 in
set_option maxHeartbeats 1000000 in
theorem setsYes (n : Int) (A : Option Addr) (m c : Nat) (xs : List Int) (w : World) (hs : Sl w A m c (xs.map (Value.int .i64))) (H : SetsP n xs) :
    Calls Tryd.prog 24 #[.int .i64 n, .slice A m c] w fun e w' => e = .returned (.bool true) ∧ w = w' := by
  have hl := hs.numlen
  have hm : m ≤ 64 := by have := H.len; omega
  have q2 : decide (64 < (m : Int)) = false := decide_eq_false (by omega)
  have q2n : decide (64 < m) = false := decide_eq_false (by omega)
  have hf : Fits n := by have := H.n1; have := H.n6; exact ⟨by omega, by omega⟩
  have HE := hid fun W => elemYes n W H.n1 H.n6
  have HB := hid fun k (hk : k < m) => H.bd (at0 xs k) (at0_mem (by omega))
  have HS := hid hs
  clear H hl hs
  go_enter Tryd.func24, Tryd.ntmps24
  go_wp2_with fail
  refine (HE.out _).mono ?_; rintro e w1 ⟨rfl, rfl⟩
  go_wp2
  go_loopg [17] m (fun gk i wr => ∃ k : Nat, gk + k = m ∧ i = .int .i64 k ∧ w = wr)
  case atStart => exact ⟨0, by omega, rfl, rfl⟩
  case round =>
    obtain ⟨k, hk, rfl, rfl⟩ := hrel
    have HK := hid hk; clear hk
    by_cases hlt : k < m
    · obtain ⟨b, o, rfl, lb, _, c1⟩ := HS.out.num hlt
      have r := HB.out k hlt
      have r1 : decide (at0 xs k < 0) = false := decide_eq_false (by omega)
      have r2 : decide (p2 n ≤ at0 xs k) = false := decide_eq_false (by omega)
      clear r
      go_wp2
      go_roundg (gk - 1)
      case measure => have := HK.out; omega
      case rel => exact ⟨k + 1, by have := HK.out; omega, by go_num, rfl⟩
    · go_wp2
      go_ret
      exact ⟨rfl, rfl⟩
set_option maxRecDepth 100000 in
set_option maxHeartbeats 1000000 in
theorem setsNo (n : Int) (A : Option Addr) (m c : Nat) (xs : List Int) (w : World) (hs : Sl w A m c (xs.map (Value.int .i64))) (H : ¬ SetsP n xs) :
    Calls Tryd.prog 24 #[.int .i64 n, .slice A m c] w fun e w' => e = .returned (.bool false) ∧ w = w' := by
  have hl := hs.numlen
  have hle := hs.len_le
  by_cases h1 : 1 ≤ n ∧ n ≤ 6
  · have HE := hid fun W => elemYes n W h1.1 h1.2
    by_cases h2 : 64 < m
    · have q2 : decide (64 < (m : Int)) = true := decide_eq_true (by omega)
      have q2n : decide (64 < m) = true := decide_eq_true (by omega)
      clear H h1 hl hs h2
      go_enter Tryd.func24, Tryd.ntmps24
      go_wp2_with fail
      refine (HE.out _).mono ?_; rintro e w1 ⟨rfl, rfl⟩
      go_wp2
      go_ret
      exact ⟨rfl, rfl⟩
    · have q2 : decide (64 < (m : Int)) = false := decide_eq_false (by omega)
      have q2n : decide (64 < m) = false := decide_eq_false (by omega)
      have hf : Fits n := ⟨by omega, by omega⟩
      have HNO := hid fun (h : ∀ j, j < m → 0 ≤ at0 xs j ∧ at0 xs j < p2 n) => H ⟨h1.1, h1.2, by omega, fun x hx => by
        obtain ⟨j, hj⟩ := List.getElem?_of_mem hx
        have hlt := (List.getElem?_eq_some_iff.1 hj).1
        have := h j (by omega)
        rwa [at0_get hj] at this⟩
      have HS := hid hs
      clear H h1 hl hs
      go_enter Tryd.func24, Tryd.ntmps24
      go_wp2_with fail
      refine (HE.out _).mono ?_; rintro e w1 ⟨rfl, rfl⟩
      go_wp2
      go_loopg [17] m (fun gk i wr => ∃ k : Nat, gk + k = m ∧ i = .int .i64 k ∧ w = wr ∧ Hid (∀ j, j < k → 0 ≤ at0 xs j ∧ at0 xs j < p2 n))
      case atStart => exact ⟨0, by omega, rfl, rfl, hid fun j h => absurd h (by omega)⟩
      case round =>
        obtain ⟨k, hk, rfl, rfl, HA⟩ := hrel
        have HK := hid hk; clear hk
        by_cases hlt : k < m
        · obtain ⟨b, o, rfl, lb, _, c1⟩ := HS.out.num hlt
          by_cases r1 : at0 xs k < 0
          · have r1' : decide (at0 xs k < 0) = true := decide_eq_true r1
            clear r1
            go_wp2
            go_ret
            exact ⟨rfl, rfl⟩
          · have r1' : decide (at0 xs k < 0) = false := decide_eq_false r1
            by_cases r2 : p2 n ≤ at0 xs k
            · have r2' : decide (p2 n ≤ at0 xs k) = true := decide_eq_true r2
              clear r1 r2
              go_wp2
              go_ret
              exact ⟨rfl, rfl⟩
            · have r2' : decide (p2 n ≤ at0 xs k) = false := decide_eq_false r2
              have HA' : Hid (∀ j, j < k + 1 → 0 ≤ at0 xs j ∧ at0 xs j < p2 n) := hid fun j hj => by
                by_cases ej : j = k
                · subst ej; omega
                · exact HA.out j (by omega)
              clear r1 r2
              go_wp2
              go_roundg (gk - 1)
              case measure => have := HK.out; omega
              case rel => exact ⟨k + 1, by have := HK.out; omega, by go_num, rfl, HA'⟩
        · exact absurd (fun j hj => HA.out j (by omega)) HNO.out
  · have HE := hid fun W => elemNo n W h1
    clear H h1 hl hs
    go_enter Tryd.func24, Tryd.ntmps24
    go_wp2_with fail
    refine (HE.out _).mono ?_; rintro e w1 ⟨rfl, rfl⟩
    go_wp2
    go_ret
    exact ⟨rfl, rfl⟩
set_option maxRecDepth 100000 in
set_option maxHeartbeats 1000000 in
theorem tableF (n : Nat) (A : Option Addr) (m c : Nat) (xs : List Int) (w : World) (hs : Sl w A m c (xs.map (Value.int .i64))) (hn : n ≤ 6) (hb : ∀ x ∈ xs, 0 ≤ x ∧ x < (2 ^ n : Nat)) :
    Calls Tryd.prog 62 #[.int .i64 n, .slice A m c] w fun e w' => e = .returned (.slice (some ⟨w.heap.size, 0, none⟩) (2 ^ n) (2 ^ n)) ∧ Blk w' w.heap.size 4 (barr (2 ^ n) (setF xs).testBit) ∧ Below w.heap.size w w' := by
  have hl := hs.numlen
  have hN := two64 hn
  have FN : Fits (n : Int) := ⟨by omega, by omega⟩
  obtain ⟨N, hNe⟩ : ∃ N, 2 ^ n = N := ⟨_, rfl⟩
  have hmk := make77p hn hNe
  rw [hNe] at hb hN ⊢
  have HB := hid fun k (hk : k < m) => hb (at0 xs k) (at0_mem (by omega))
  have HL := hid hl
  have hle := hs.len_le
  have HS := hid hs
  clear hl hb hn hs hNe
  go_enter Tryd.func62, Tryd.ntmps62
  go_wp2
  go_loopg [13] m (fun gk i wr => ∃ k : Nat, gk + k = m ∧ i = .int .i64 k ∧ Hid (Blk wr w.heap.size 4 (barr N (setF (xs.take k)).testBit)) ∧ Hid (Below w.heap.size w wr))
  case atStart => exact ⟨0, by omega, rfl, hid (by
    have e : barr N (setF (xs.take 0)).testBit = barr N fun _ => false := barr_congr fun j _ => by simp [setF]
    rw [e]; exact Blk.new w 4 _), hid ((Below.refl _ _).alloc (Nat.le_refl _) _)⟩
  case round =>
    obtain ⟨k, hk, rfl, HBk, HW⟩ := hrel
    have HK := hid hk; clear hk
    by_cases hlt : k < m
    · obtain ⟨b, o, u, rfl, lb, hx, hcl⟩ := HS.out.at2 HW.out hlt
      rw [List.getElem?_map] at hx
      obtain ⟨x, hxl, rfl⟩ := Option.map_eq_some_iff.1 hx
      have hxb := HB.out k hlt
      rw [at0_get hxl] at hxb
      obtain ⟨s, rfl⟩ := Int.eq_ofNat_of_zero_le hxb.1
      have hsN : s < N := by omega
      have fz := HBk.out.free s
      have HN := hid (show Blk (wr.setCell ⟨w.heap.size, s, none⟩ (.bool true)) w.heap.size 4 (barr N (setF (xs.take (k + 1))).testBit) from by
        have h := HBk.out.set s (.bool true)
        rw [barr_set (g := (setF (xs.take (k + 1))).testBit) (fun j _ => by
          rw [List.take_add_one, hxl]
          show (setF (xs.take k ++ [(s : Int)])).testBit j = _
          rw [setF_snoc, Int.toNat_natCast, or_bit1]
          by_cases e : j = s
          · subst e; simp
          · have : ¬ s = j := fun a => e a.symm
            simp [e, this])] at h
        exact h)
      have HW2 := hid (HW.out.setCell (p := ⟨w.heap.size, s, none⟩) (by simp) (.bool true))
      have fs := HBk.out.cell s
      rw [barr_get hsN] at fs
      clear hx hxl hxb
      go_wp2
      go_roundg (gk - 1)
      case measure => have := HK.out; omega
      case rel => exact ⟨k + 1, by have := HK.out; omega, by go_num, HN, HW2⟩
    · obtain rfl : k = m := by have := HK.out; omega
      have e : xs.take k = xs := List.take_of_length_le (by have := HL.out; omega)
      rw [e] at HBk
      clear e
      go_wp2
      go_ret
      exact ⟨rfl, HBk.out, HW.out⟩
set_option maxRecDepth 100000 in
set_option maxHeartbeats 1000000 in
theorem listR (g N : Nat) (p : Nat → Bool) (w : World) (hN : N ≤ 64) (hb : Blk w g 4 (barr N p)) :
    Calls Tryd.prog 63 #[.slice (some ⟨g, 0, none⟩) N N] w fun e w' => ∃ A c, e = .returned (.slice A (famL N p).length c) ∧ w'.ownsRow w.heap.size 3 1 (.slice A (famL N p).length c) (famL N p).length ((famL N p).map (Value.int .i64)) ∧ Below w.heap.size w w' := by
  have HB := hid fun W (hW : Below w.heap.size w W) => hb.keep hW
  clear hb
  go_enter Tryd.func63, Tryd.ntmps63
  go_wp2
  go_loopg [3, 8] N (fun gk v i wr => ∃ k : Nat, gk + k = N ∧ i = .int .i64 k ∧ (∃ A c, v = .slice A (famL k p).length c ∧ Hid (wr.ownsRow w.heap.size 3 1 (.slice A (famL k p).length c) (famL k p).length ((famL k p).map (Value.int .i64)))) ∧ Hid (Below w.heap.size w wr))
  case atStart => exact ⟨0, by omega, rfl, ⟨none, 0, rfl, hid (World.ownsRow_nil _ _ _ _)⟩, hid (Below.refl _ _)⟩
  case round =>
    obtain ⟨k, hk, rfl, ⟨A, c, rfl, hO⟩, hb⟩ := hrel
    have HK := hid hk; clear hk
    have hz := hb.out.size
    by_cases hlt : k < N
    · have c0 := (HB.out wr hb.out).cell k
      rw [barr_get hlt] at c0
      have hlen := famL_len k p
      have hk64 : (famL k p).length ≤ 64 := by omega
      have HF := hid (famL_succ k p)
      cases hp : p k
      · rw [hp] at c0 HF
        simp only [Bool.false_eq_true, if_false, List.append_nil] at HF
        clear hp hlen hk64
        go_wp2
        go_roundg (gk - 1)
        case measure => have := HK.out; omega
        case rel => exact ⟨k + 1, by have := HK.out; omega, by go_num, ⟨A, c, by rw [HF.out], by rw [HF.out]; exact hO⟩, hb⟩
      · rw [hp] at c0 HF
        simp only [if_true] at HF
        clear hp hlen
        go_wp2_with (at_builtin; refine push1 TI22 wr #[.int .i64 (k : Int)] _ _ _ _ hO.out _ _ rfl rfl rfl rfl rfl (by simp [Value.oneCell']) (by omega) (by omega) hz ?_; intro v1 w3 hown1 hgr; have hb1 : Below w.heap.size w w3 := below_push hb.out hO.out hgr hz (Nat.le_refl _); obtain ⟨A1, c1, rfl⟩ := own_form hown1; have HO3 := hid hown1; have HB3 := hid hb1; clear hown1 hgr hb1)
        go_roundg (gk - 1)
        case measure => have := HK.out; omega
        case rel =>
          have hl2 : (famL (k + 1) p).length = (famL k p).length + 1 := by rw [HF.out]; simp
          refine ⟨k + 1, by have := HK.out; omega, by go_num, ⟨A1, c1, by rw [hl2], ?_⟩, HB3⟩
          rw [hl2, HF.out]
          exact hid (by simpa using HO3.out)
    · obtain rfl : k = N := by have := HK.out; omega
      go_wp2
      go_ret
      exact ⟨A, c, rfl, hO.out, hb.out⟩
end Go.Proofs.YtjddbglbodkihaaDoor
