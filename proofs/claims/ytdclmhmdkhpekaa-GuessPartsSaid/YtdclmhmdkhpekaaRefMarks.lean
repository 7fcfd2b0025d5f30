/- The reference's marks: what they are. Conditions: the game's numbers are small. -/
import Derived.Test.YtdclmhmdkhpekaaRead
namespace Go.Proofs.Ytdclmhmdkhpekaa
open Go.RowKit

set_option maxRecDepth 100000 in
set_option maxHeartbeats 1000000 in
theorem refMarks (p : Nat) (c a b : Int) (hp : p ≤ 10) (hc1 : 1 ≤ c) (hc2 : c ≤ 6) (h0 : 0 ≤ a) (h1 : a ≤ 1000) (h2 : 0 ≤ b) (h3 : b ≤ 1000) (w : World) :
    Calls Try.prog 21 #[.int .i64 p, .int .i64 c, .int .i64 a, .int .i64 b] w fun e w' => e = .returned (.tuple #[.int .i64 (black c a b p), .int .i64 (white c a b p)]) ∧ Below w.heap.size w w' := by
  go_enter Try.func21, Try.ntmps21
  go_wp2
  go_loopg [2, 3, 12, 16] p (fun g x y h i wr => ∃ k : Nat, g + k = p ∧ i = .int .i64 k ∧ x = .int .i64 (quo c a k) ∧ y = .int .i64 (quo c b k) ∧ h = .int .i64 (hits c a b k) ∧
      Blk wr w.heap.size 74 (arr 6 fun v => cnt c a v k) ∧ Blk wr (w.heap.size + 1) 74 (arr 6 fun v => cnt c b v k) ∧ Below w.heap.size w wr)
  case atStart => exact ⟨0, rfl, rfl, rfl, rfl, rfl, (Blk.new_at _ _ _ rfl).alloc _, Blk.new_at _ _ _ (by simp), ((Below.refl _ _).alloc (Nat.le_refl _) _).alloc (by simp) _⟩
  case round =>
    obtain ⟨k, hk, rfl, rfl, rfl, rfl, bx, bY, hb⟩ := hrel
    have HK := hid hk
    by_cases hlt : k < p
    · clear hk
      have r1 := quo_bd c a k hc1 h0
      have r2 := quo_bd c b k hc1 h2
      have q1 := Int.emod_nonneg (quo c a k) (show c ≠ 0 by omega)
      have q2 := Int.emod_lt_of_pos (quo c a k) (show 0 < c by omega)
      have q3 := Int.emod_nonneg (quo c b k) (show c ≠ 0 by omega)
      have q4 := Int.emod_lt_of_pos (quo c b k) (show 0 < c by omega)
      obtain ⟨j, hj⟩ := Int.eq_ofNat_of_zero_le q1
      obtain ⟨l, hl⟩ := Int.eq_ofNat_of_zero_le q3
      rw [hj] at q2
      rw [hl] at q4
      clear q1 q3
      have HJ := hid hj; have HL := hid hl
      have cx := (bx.cell j).trans (arr_get (by omega))
      have fx := bx.free j
      have cy := (bY.cell l).trans (arr_get (by omega))
      have fy := bY.free l
      have d1 := hits_bd c a b k
      have d2 := cnt_bd c a j k
      have d3 := cnt_bd c b l k
      have hne : j = l ∨ (j ≠ l ∧ ((j : Int) == (l : Int)) = false ∧ (j == l) = false) := by
        by_cases e : j = l
        · exact .inl e
        · exact .inr ⟨e, beq_eq_false_iff_ne.2 (by omega), beq_eq_false_iff_ne.2 e⟩
      rcases hne with rfl | ⟨hne, hf1, hf2⟩
      · go_wp2_with fail
        go_quiet (fail)
        go_wp2
        go_roundg (gk - 1)
        case measure => have := HK.out; omega
        case rel =>
          refine ⟨k + 1, by have := HK.out; omega, by go_num, by rw [quo_succ], by rw [quo_succ], by rw [hits_step HJ.out HL.out, if_pos rfl], ?_, ?_, ?_⟩
          · rw [← arr_step fun _ _ => cnt_step HJ.out]
            exact ((bx.drewN nq).set j _).far (by simp) _
          · rw [← arr_step fun _ _ => cnt_step HL.out]
            exact ((bY.drewN nq).far (by simp) _).set j _
          · exact (((show Below w.heap.size w (wr.drewN nq) from below_drewN hb _).setCell (by simp) _).setCell (by simp <;> omega) _)
      · have HN := hid hne; clear hne
        go_wp2_with fail
        go_quiet (fail)
        go_wp2
        go_roundg (gk - 1)
        case measure => have := HK.out; omega
        case rel =>
          refine ⟨k + 1, by have := HK.out; omega, by go_num, by rw [quo_succ], by rw [quo_succ], by rw [hits_step HJ.out HL.out, if_neg (by have := HN.out; omega)]; go_num, ?_, ?_, ?_⟩
          · rw [← arr_step fun _ _ => cnt_step HJ.out]
            exact ((bx.drewN nq).set j _).far (by simp) _
          · rw [← arr_step fun _ _ => cnt_step HL.out]
            exact ((bY.drewN nq).far (by simp) _).set l _
          · exact (((show Below w.heap.size w (wr.drewN nq) from below_drewN hb _).setCell (by simp) _).setCell (by simp <;> omega) _)
    · obtain rfl : k = p := by omega
      clear hk
      have d0 := hits_bd c a b k
      go_wp2
      obtain ⟨wo, rfl⟩ : ∃ wo : World, wo = wr := ⟨_, rfl⟩
      go_loopg [13, 48] 6 (fun g s i wr => ∃ m : Nat, g + m = 6 ∧ i = .int .i64 m ∧ s = .int .i64 (pairs c a b k m) ∧
          Blk wr w.heap.size 74 (arr 6 fun v => cnt c a v k) ∧ Blk wr (w.heap.size + 1) 74 (arr 6 fun v => cnt c b v k) ∧ Below w.heap.size w wr)
      case atStart => exact ⟨0, rfl, rfl, rfl, bx, bY, hb⟩
      case round =>
        clear bx bY hb
        obtain ⟨m, hm, rfl, rfl, bx, bY, hb⟩ := hrel
        have HM := hid hm
        have d1 := pairs_bd c a b k m
        have d4 : (m : Int) * k ≤ 60 := by
          have := Int.mul_le_mul (show (m : Int) ≤ 6 by omega) (show (k : Int) ≤ 10 by omega) (by omega) (by omega)
          omega
        have d5 := d1.1
        have d6 : pairs c a b k m ≤ 60 := Int.le_trans d1.2 d4
        clear d1 d4
        by_cases hl6 : m < 6
        · clear hm
          have cx := (bx.cell m).trans (arr_get hl6)
          have cy := (bY.cell m).trans (arr_get hl6)
          have d2 := cnt_bd c a m k
          have d3 := cnt_bd c b m k
          go_wp2_with fail
          go_region
          all_goals go_wp2
          all_goals (go_roundg (gk - 1))
          any_goals (case measure => have := HM.out; omega)
          · exact ⟨m + 1, by have := HM.out; omega, by go_num, by rw [pairs, Int.min_eq_right (by omega)], bx.drew, bY.drew, hb.drew⟩
          · exact ⟨m + 1, by have := HM.out; omega, by go_num, by rw [pairs, Int.min_eq_left (by omega)], bx.drew, bY.drew, hb.drew⟩
        · obtain rfl : m = 6 := by omega
          clear hm
          go_wp2
          go_ret2
          exact ⟨rfl, hb⟩
end Go.Proofs.Ytdclmhmdkhpekaa
