/- guess.Least: the least number of questions, or the documented error. No condition. -/
import Derived.Test.YtdclmhmdkhpekaaLeastM
namespace Go.Proofs.Ytdclmhmdkhpekaa
open Go.RowKit

set_option maxRecDepth 100000 in
set_option maxHeartbeats 1000000 in
theorem leastBad (n e : Int) (w : World) (h : ¬ (1 ≤ n ∧ n ≤ 40 ∧ 0 ≤ e ∧ e ≤ 2)) :
    Calls Try.prog 25 #[.int .i64 n, .int .i64 e] w fun r w' => r = .returned (.tuple #[.int .i64 0, .int .i64 2]) ∧ w = w' := by
  by_cases h1 : n < 1
  · have d1 : decide (n < 1) = true := decide_eq_true h1
    clear h
    go_enter Try.func25, Try.ntmps25
    go_wp2
    go_ret2
    exact ⟨rfl, rfl⟩
  have d1 : decide (n < 1) = false := decide_eq_false h1
  by_cases h2 : 40 < n
  · have d2 : decide (40 < n) = true := decide_eq_true h2
    clear h
    go_enter Try.func25, Try.ntmps25
    go_wp2
    go_ret2
    exact ⟨rfl, rfl⟩
  have d2 : decide (40 < n) = false := decide_eq_false h2
  by_cases h3 : e < 0
  · have d3 : decide (e < 0) = true := decide_eq_true h3
    clear h
    go_enter Try.func25, Try.ntmps25
    go_wp2
    go_ret2
    exact ⟨rfl, rfl⟩
  have d3 : decide (e < 0) = false := decide_eq_false h3
  have d4 : decide (2 < e) = true := decide_eq_true (by omega)
  clear h
  go_enter Try.func25, Try.ntmps25
  go_wp2
  go_ret2
  exact ⟨rfl, rfl⟩

theorem startL_arr (n : Int) (e : Nat) : (arr (e + 1) fun j => if j = 0 then n else 0).toList = (startL n e).map (Value.int .i64) := by
  apply List.ext_getElem?
  intro j
  have hl : (startL n e).length = e + 1 := by simp [startL]
  by_cases hj : j < e + 1
  · have h1 : (startL n e)[j]? = some (at0 (startL n e) j) := by simp [at0, List.getD, hl, hj]
    rw [Array.getElem?_toList, arr_get hj, List.getElem?_map, h1, startL_at]
    rfl
  · rw [Array.getElem?_toList, Array.getElem?_eq_none (by rw [arr_size]; omega), List.getElem?_map, List.getElem?_eq_none (by omega)]
    rfl

set_option maxRecDepth 100000 in
set_option maxHeartbeats 2000000 in
theorem leastPub (n : Int) (e q : Nat) (w : World) (hn : 1 ≤ n) (hn4 : n ≤ 40) (he : e ≤ 2) (hq : LeastOf q (startL n e)) :
    Calls Try.prog 25 #[.int .i64 n, .int .i64 e] w fun r w' => r = .returned (.tuple #[.int .i64 q, .int .i64 0]) ∧ Below w.heap.size w w' := by
  have d1 : decide (n < 1) = false := decide_eq_false (by omega)
  have d2 : decide (40 < n) = false := decide_eq_false (by omega)
  have d3 : decide ((e : Int) < 0) = false := decide_eq_false (by omega)
  have d4 : decide (2 < (e : Int)) = false := decide_eq_false (by omega)
  have d4n : decide (2 < e) = false := decide_eq_false (by omega)
  obtain ⟨i0, hi, hz0, hz1, hz2⟩ := info_parts TS79.inf
  have hmm := @run_makeMap Try.prog
  have HP := hid (show Plays (startL n e) from ⟨startL_nn (by omega) (by omega), by rw [startL_total]; omega⟩)
  have HQ := hid hq
  clear hq
  go_enter Try.func25, Try.ntmps25
  go_wp2_with (at_make; refine wpList_make_full _ rfl _ _ 79 rfl w.heap.size 3 i0 (.int .i64 0) 1 TS79.und hi hz0 hz1 _ _ _ _ (e + 1) rfl rfl rfl rfl (by rw [hz2]; omega) (by unfold maxLen; omega) (Nat.le_refl _) ?_; intro w1 hown1 hg1; have hb1 : Below w.heap.size w w1 := (Below.refl _ _).grown hg1 (Nat.le_refl _) (fun k hk => by cases hk); have bo := own_blk hown1; rw [made_arr] at bo; have z := bo.cell 0; rw [arr_get (by omega)] at z; have f := bo.free 0; clear hown1 hg1)
  refine at_world fun L hL => ?_
  have hsz : (w1.setCell ⟨w.heap.size, 0, none⟩ (.int .i64 n)).heap.size = w1.heap.size := by simp
  rw [← hsz] at hL
  rw [← hsz]
  have hb2 : Below w.heap.size w (w1.setCell ⟨w.heap.size, 0, none⟩ (.int .i64 n)) := hb1.setCell (p := ⟨w.heap.size, 0, none⟩) (Nat.le_refl _) _
  have b2 := bo.set 0 (.int .i64 n)
  rw [arr_set] at b2
  have s2 : Sl (w1.setCell ⟨w.heap.size, 0, none⟩ (.int .i64 n)) (some ⟨w.heap.size, 0, none⟩) (e + 1) (e + 1) ((startL n e).map (Value.int .i64)) := by
    rw [← startL_arr]
    exact Sl.of_own (blk_own b2 (Nat.le_refl _) (arr_size _ _).symm (by omega))
  generalize w1.setCell ⟨w.heap.size, 0, none⟩ (.int .i64 n) = w2 at *
  have iv := box_iv s2 hL
  have BL := hid (show Below w.heap.size w L from below_call hb2 (box_below hL) hb2.size)
  have M2 := hid (show w.heap.size ≤ w2.heap.size from hb2.size)
  clear hL s2 b2 hb2 hb1 bo z f hsz
  go_loopg [8] q (fun gk i wr => ∃ k : Nat, gk + k = q ∧ i = .int .i64 k ∧ Iv wr (w2.heap.size + 1) w2.heap.size (some ⟨w.heap.size, 0, none⟩) (e + 1) (e + 1) (startL n e) ∧ Below w.heap.size w wr)
  case atStart => exact ⟨0, by omega, rfl, iv, BL.out⟩
  case round =>
    obtain ⟨k, hk, rfl, hi, hb⟩ := hrel
    have HK := hid hk
    have HI := hid hi
    have HB := hid hb
    have hk20 : k ≤ 20 := by have := HQ.out.le; omega
    have HW := hid ((winAll k (by omega)).1)
    by_cases hlt : k < q
    · have hf := HQ.out.no k hlt
      clear hk hi hb iv
      go_wp2_with fail
      have hw := HW.out _ _ _ _ _ _ _ HP.out HI.out
      rw [hf] at hw
      refine hw.mono ?_; rintro r w3 ⟨rfl, g3, m3⟩
      have B3 := hid (HB.out.grown g3 HB.out.size fun k hk => by cases hk; exact M2.out)
      have I3 := hid (HI.out.grown g3 m3)
      clear hw g3 m3
      go_wp2_with fail
      go_roundg (gk - 1)
      case measure => have := HK.out; omega
      case rel => exact ⟨k + 1, by have := HK.out; omega, by go_num, I3.out, B3.out⟩
    · obtain rfl : k = q := by omega
      have ht := HQ.out.win
      clear hk hi hb iv
      go_wp2_with fail
      have hw := HW.out _ _ _ _ _ _ _ HP.out HI.out
      rw [ht] at hw
      refine hw.mono ?_; rintro r w3 ⟨rfl, g3, m3⟩
      have B3 := hid (HB.out.grown g3 HB.out.size fun k hk => by cases hk; exact M2.out)
      clear hw g3 m3
      go_wp2_with fail
      go_ret2
      exact ⟨rfl, B3.out⟩
end Go.Proofs.Ytdclmhmdkhpekaa
