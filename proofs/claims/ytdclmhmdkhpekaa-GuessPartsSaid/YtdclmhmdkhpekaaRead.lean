/- Contracts of guess.read and its literal. Conditions: none of read_bad but that the numbers are none of a game; of read_ok that they are. -/
import Derived.Test.YtdclmhmdkhpekaaMarks
namespace Go.Proofs.Ytdclmhmdkhpekaa
open Go.RowKit

theorem pw_bd (c : Int) (n : Nat) (h1 : 1 ≤ c) (h2 : c ≤ 6) (hn : n ≤ 4) : 1 ≤ pw c n ∧ pw c n ≤ 1296 := by
  have h : c = 1 ∨ c = 2 ∨ c = 3 ∨ c = 4 ∨ c = 5 ∨ c = 6 := by omega
  have h' : n = 0 ∨ n = 1 ∨ n = 2 ∨ n = 3 ∨ n = 4 := by omega
  rcases h with rfl | rfl | rfl | rfl | rfl | rfl <;> rcases h' with rfl | rfl | rfl | rfl | rfl <;> simp [pw]

set_option maxHeartbeats 400000 in
theorem read1 (x N : Int) (B : Nat) (w : World) (hc : w.cell? ⟨B, 2, none⟩ = some (.int .i64 N)) :
    Calls Try.prog 82 #[.int .i64 x, .pointer (some ⟨B, 0, none⟩)] w fun e w' => e = .returned (.bool (decide (x < 0) || decide (N ≤ x))) ∧ Below w.heap.size w w' := by
  by_cases h : x < 0
  · go_enter Try.func82, Try.ntmps82
    go_wp2
    go_ret
    exact ⟨ret_v (by simp [h]), Below.refl _ _⟩
  · have h' : decide (x < 0) = false := by simpa using h
    go_enter Try.func82, Try.ntmps82
    go_wp2
    go_ret
    exact ⟨ret_v (by simp), Below.refl _ _⟩

set_option maxHeartbeats 400000 in
theorem read_bad (p c : Int) (A : Option Addr) (n k : Nat) (w : World) (h : p < 1 ∨ 4 < p ∨ c < 1 ∨ 6 < c) :
    Calls Try.prog 53 #[.int .i64 p, .int .i64 c, .slice A n k] w fun e w' => e = .returned (.tuple #[.agg #[.int .i64 0, .int .i64 0, .int .i64 0], .bool false]) ∧ Below w.heap.size w w' := by
  have hb : Below w.heap.size w (w.alloc (.cells #[.int .i64 0, .int .i64 0, .int .i64 0] 68)) := (Below.refl _ _).alloc (Nat.le_refl _) _
  have h4 : p < 1 ∨ (¬ p < 1 ∧ 4 < p) ∨ (¬ p < 1 ∧ ¬ 4 < p ∧ c < 1) ∨ (¬ p < 1 ∧ ¬ 4 < p ∧ ¬ c < 1 ∧ 6 < c) := by omega
  clear h
  rcases h4 with h | ⟨h, h'⟩ | ⟨h, h', h''⟩ | ⟨h, h', h'', h'''⟩
  all_goals
    go_enter Try.func53, Try.ntmps53
    go_wp2
    exact bodyPost_ret (v := .tuple #[.agg #[.int .i64 0, .int .i64 0, .int .i64 0], .bool false]) (by simp [results, Try.results53, go_sem]) rfl ⟨rfl, hb⟩

set_option maxRecDepth 100000 in
set_option maxHeartbeats 1000000 in
theorem read_ok (p : Nat) (c : Int) (A : Option Addr) (n k : Nat) (xs : List Int) (w : World) (hs : Sl w A n k (xs.map (Value.int .i64))) (hp1 : 1 ≤ p) (hp2 : p ≤ 4) (hc1 : 1 ≤ c) (hc2 : c ≤ 6) :
    Calls Try.prog 53 #[.int .i64 p, .int .i64 c, .slice A n k] w fun e w' => e = .returned (.tuple #[.agg #[.int .i64 p, .int .i64 c, .int .i64 (pw c p)], .bool (decide (pw c p ≤ 256) && !(xs.any fun x => decide (x < 0) || decide (pw c p ≤ x)))]) ∧ Below w.heap.size w w' := by
  go_enter Try.func53, Try.ntmps53
  go_wp2
  go_loopg [28] p (fun g i wr => ∃ m : Nat, g + m = p ∧ i = .int .i64 m ∧ Blk wr w.heap.size 68 #[.int .i64 0, .int .i64 0, .int .i64 0] ∧ Blk wr (w.heap.size + 1) 68 #[.int .i64 p, .int .i64 c, .int .i64 (pw c m)] ∧ Below w.heap.size w wr)
  case atStart => exact ⟨0, rfl, rfl, (Blk.new _ _ _).alloc _, Blk.new_at _ _ _ (by simp), ((Below.refl _ _).alloc (Nat.le_refl _) _).alloc (by simp) _⟩
  case round =>
    obtain ⟨m, hm, rfl, b6, b8, hb⟩ := hrel
    have HM := hid hm
    by_cases hlt : m < p
    · have c2 := b8.cell 2
      have f2 := b8.free 2
      simp only [List.getElem?_toArray, List.getElem?_cons_zero, List.getElem?_cons_succ] at c2
      have d := pw_bd c m hc1 hc2 (by omega)
      have d' := pw_bd c (m + 1) hc1 hc2 (by omega)
      simp only [pw] at d'
      clear hm
      go_wp2
      go_roundg (gk - 1)
      case measure => have := HM.out; omega
      case rel => exact ⟨m + 1, by have := HM.out; omega, by go_num, b6.far (by simp) _, b8.set 2 _, hb.setCell (by simp) _⟩
    · obtain rfl : m = p := by omega
      clear hm
      have c0 := b8.cell 0
      have c1 := b8.cell 1
      have c2 := b8.cell 2
      simp only [List.getElem?_toArray, List.getElem?_cons_zero, List.getElem?_cons_succ] at c0 c1 c2
      have d := pw_bd c m hc1 hc2 (by omega)
      have z0 := b6.cell 0
      have z1 := b6.cell 1
      have z2 := b6.cell 2
      have f0 := b6.free 0
      have f1 := b6.free 1
      have f2 := b6.free 2
      have hz := hb.size
      have B6 := hid b6
      have B8 := hid b8
      simp only [List.getElem?_toArray, List.getElem?_cons_zero, List.getElem?_cons_succ] at z0 z1 z2
      have hsl : Sl wr.drew A n k (xs.map (Value.int .i64)) := (hs.below hb).drew
      have htl : Tells wr.drew 82 #[.pointer (some ⟨w.heap.size + 1, 0, none⟩)] xs (fun x => decide (x < 0) || decide (pw c m ≤ x)) := ⟨enters Try.func82 (by kernel_rfl) rfl, fun x _ W hW => read1 x (pw c m) (w.heap.size + 1) W (cell_keep hW c2)⟩
      have HC := hid (containsFunc A n k xs 82 _ _ wr.drew hsl htl)
      clear hs hsl htl
      by_cases h256 : pw c m ≤ 256
      · go_wp2_with fail
        go_region_held3 (fun w' => w'.cell? ⟨w.heap.size + 1, 0, none⟩ = some (.int .i64 m) ∧ w'.cell? ⟨w.heap.size + 1, 1, none⟩ = some (.int .i64 c) ∧ w'.cell? ⟨w.heap.size + 1, 2, none⟩ = some (.int .i64 (pw c m))) (first | assumption | go_keep)
          ((go_at_call 81; refine (HC.out).mono ?_; rintro e w1 ⟨rfl, hb1⟩; have hk1 : w1.cell? ⟨w.heap.size + 1, 0, none⟩ = some (.int .i64 m) ∧ w1.cell? ⟨w.heap.size + 1, 1, none⟩ = some (.int .i64 c) ∧ w1.cell? ⟨w.heap.size + 1, 2, none⟩ = some (.int .i64 (pw c m)) := ⟨cell_keep hb1 c0, cell_keep hb1 c1, cell_keep hb1 c2⟩; have b61 := B6.out.drew.keep hb1; have y0 := b61.cell 0; have y1 := b61.cell 1; have y2 := b61.cell 2; have g0 := b61.free 0; have g1 := b61.free 1; have g2 := b61.free 2; simp only [List.getElem?_toArray, List.getElem?_cons_zero, List.getElem?_cons_succ] at y0 y1 y2; have BB := hid b61; have HB1 := hid hb1; clear hb1 b61))
        have kf := ((BB.out.set 0 (.int .i64 m)).set 1 (.int .i64 c)).set 2 (.int .i64 (pw c m))
        go_wp2
        refine bodyPost_ret (results_row_tmp rfl _ _ w.heap.size 68 _ (0, 0) _ rfl kf Try.underlying68 rfl (by kernel_rfl)) rfl ⟨?_, ?_⟩
        · simp [h256]
        · exact (((below_call hb.drew HB1.out hb.size).setCell (p := ⟨w.heap.size, 0, none⟩) (by simp) _).setCell (p := ⟨w.heap.size, 1, none⟩) (by simp) _).setCell (p := ⟨w.heap.size, 2, none⟩) (by simp) _
      · have kf := (((B6.out.drew.set 0 (.int .i64 m)).set 1 (.int .i64 c)).set 2 (.int .i64 (pw c m)))
        have hdec : decide (pw c m ≤ 256) = false := by simpa using h256
        go_wp2_with fail
        go_region
        all_goals go_wp2
        refine bodyPost_ret (results_row_tmp rfl _ _ w.heap.size 68 _ (0, 0) _ rfl kf.drew Try.underlying68 rfl (by kernel_rfl)) rfl ⟨?_, ?_⟩
        · simp [hdec]
        · exact ((((hb.setCell (p := ⟨w.heap.size, 0, none⟩) (by simp) _).setCell (p := ⟨w.heap.size, 1, none⟩) (by simp) _).setCell (p := ⟨w.heap.size, 2, none⟩) (by simp) _).drew)
end Go.Proofs.Ytdclmhmdkhpekaa
