/- Contracts of guess.read, colours, marks: what they return. Conditions: the game's numbers are small. -/
import Derived.Test.YtdclmhmdkhpekaaLib
import Derived.Test.YtdclmhmdkhpekaaPegs
namespace Go.Proofs.Ytdclmhmdkhpekaa
open Go.RowKit

set_option maxHeartbeats 400000 in
theorem colours (p : Nat) (c n code : Int) (hp : p ≤ 10) (hc1 : 1 ≤ c) (hc2 : c ≤ 6) (h0 : 0 ≤ code) (h1 : code ≤ 1000) (w : World) :
    Calls Try.prog 83 #[.agg #[.int .i64 p, .int .i64 c, .int .i64 n], .int .i64 code] w fun e w' => ∃ A c', e = .returned (.slice A p c') ∧
      w'.ownsRow w.heap.size 3 1 (.slice A p c') p ((dig c code p).map (Value.int .i64)) ∧ Below w.heap.size w w' := by
  go_enter Try.func83, Try.ntmps83
  go_wp2
  go_loopg [1, 5, 8] p (fun g q v i wr => ∃ k : Nat, g + k = p ∧ i = .int .i64 k ∧ q = .int .i64 (quo c code k) ∧ wr.ownsRow (w.heap.size + 1) 3 1 v k ((dig c code k).map (Value.int .i64)) ∧ Below (w.heap.size + 1) (w.alloc (.cells #[.int .i64 p, .int .i64 c, .int .i64 n] 68)) wr)
  case atStart => exact ⟨0, rfl, rfl, rfl, World.ownsRow_nil _ _ _ _, Below.refl _ _⟩
  case round =>
    obtain ⟨k, hk, rfl, rfl, hown, hb⟩ := hrel
    have hc0 : wr.cell? ⟨w.heap.size, 1, none⟩ = some (.int .i64 c) := box_cell hb (by omega) 1
    have hq := quo_bd c code k hc1 h0
    have hsz := hb.size
    simp at hsz
    by_cases hlt : k < p
    · have HK := hid hk; clear hk
      go_wp2_with (at_builtin; refine push1 TI wr #[.int .i64 (quo c code k % c)] _ k _ _ hown _ _ rfl rfl rfl rfl rfl (by simp [Value.oneCell']) (by omega) (by omega) (by omega) ?_; intro v' w1 hown1 hg1; have hb1 := below_push hb hown hg1 (by omega) (by omega); have hc1' : w1.cell? ⟨w.heap.size, 1, none⟩ = some (.int .i64 c) := box_cell hb1 (by omega) 1; clear hg1 hc0)
      go_roundg (gk - 1)
      case measure => have := HK.out; omega
      case rel => exact ⟨k + 1, by have := HK.out; omega, by go_num, by rw [quo_succ], by rw [dig_succ]; simpa using hown1, hb1⟩
    · obtain rfl : k = p := by omega
      go_wp2
      go_ret
      obtain ⟨A, c', rfl⟩ := own_form hown
      exact ⟨A, c', rfl, own_more hown (by omega), ((Below.refl _ _).alloc (Nat.le_refl _) _).trans (hb.mono (by omega))⟩

set_option maxRecDepth 100000 in
set_option maxHeartbeats 1000000 in
theorem marks (p : Nat) (c n a b : Int) (hp : p ≤ 10) (hc1 : 1 ≤ c) (hc2 : c ≤ 6) (h0 : 0 ≤ a) (h1 : a ≤ 1000) (h2 : 0 ≤ b) (h3 : b ≤ 1000) (w : World) :
    Calls Try.prog 54 #[.agg #[.int .i64 p, .int .i64 c, .int .i64 n], .int .i64 a, .int .i64 b] w fun e w' => e = .returned (.agg #[.int .i64 (black c a b p), .int .i64 (white c a b p)]) ∧ Below w.heap.size w w' := by
  go_enter Try.func54, Try.ntmps54
  go_wp2
  refine at_world (fun W hW => ?_)
  have k0 : W.cell? ⟨w.heap.size, 0, none⟩ = some (.int .i64 p) := by rw [hW]; simp [go_sem]
  have k1 : W.cell? ⟨w.heap.size, 1, none⟩ = some (.int .i64 c) := by rw [hW]; simp [go_sem]
  have k2 : W.cell? ⟨w.heap.size, 2, none⟩ = some (.int .i64 n) := by rw [hW]; simp [go_sem]
  have kz : w.heap.size < W.heap.size := by rw [hW]; simp; omega
  have kb : Below w.heap.size w W := by rw [hW]; exact ((Below.refl _ _).alloc (Nat.le_refl _) _).alloc (by simp) _
  have k6 : Blk W (w.heap.size + 1) 72 #[.int .i64 0, .int .i64 0] := by rw [hW]; exact Blk.new_at _ _ _ (by simp)
  clear hW
  go_region_held3 (fun w' => w'.cell? ⟨w.heap.size, 0, none⟩ = some (.int .i64 p) ∧ w'.cell? ⟨w.heap.size, 1, none⟩ = some (.int .i64 c) ∧ w'.cell? ⟨w.heap.size, 2, none⟩ = some (.int .i64 n)) (first | assumption | go_keep)
    ((go_at_call 83; refine (colours p c n _ hp hc1 hc2 (by assumption) (by assumption) _).mono ?_; rintro e w1 ⟨A1, c1, rfl, ho1, hb1⟩; have hk1 : w1.cell? ⟨w.heap.size, 0, none⟩ = some (.int .i64 p) ∧ w1.cell? ⟨w.heap.size, 1, none⟩ = some (.int .i64 c) ∧ w1.cell? ⟨w.heap.size, 2, none⟩ = some (.int .i64 n) := ⟨cell_keep hb1 (by simp [*]), cell_keep hb1 (by simp [*]), cell_keep hb1 (by simp [*])⟩; have HB1 := hid hb1; have HO1 := hid ho1; clear hb1 ho1))
  rename_i w2 A2 c2 hk2 HB2 HO2 _
  have sa : Sl w1 A2 p c2 ((dig c a p).map (Value.int .i64)) := (Sl.of_own HO2.out).below HB1.out
  have sb : Sl w1 A1 p c1 ((dig c b p).map (Value.int .i64)) := Sl.of_own HO1.out
  have hz2 := HB2.out.size
  have hz1 := HB1.out.size
  simp at hz2
  have kb2 : Below w.heap.size w w1 := below_call (below_call kb.drew HB2.out (by simp <;> omega)) HB1.out (by omega)
  have k62 : Blk w1 (w.heap.size + 1) 72 #[.int .i64 0, .int .i64 0] := (k6.drew.keep HB2.out).keep HB1.out
  clear HB1 HB2 HO1 HO2 hk1 hk2 k0 k1 k2 kb k6
  go_wp2
  go_loopg [22] p (fun g i wr => ∃ k : Nat, g + k = p ∧ i = .int .i64 k ∧ Blk wr w1.heap.size 72 #[.int .i64 (hits c a b k), .int .i64 0] ∧
      Blk wr (w1.heap.size + 1) 74 (arr 6 fun v => cnt c a v k) ∧ Blk wr (w1.heap.size + 1 + 1) 74 (arr 6 fun v => cnt c b v k) ∧ Below w1.heap.size w1 wr)
  case atStart => exact ⟨0, rfl, rfl, ((Blk.new_at _ _ _ rfl).alloc _).alloc _, (Blk.new_at _ _ _ (by simp)).alloc _, Blk.new_at _ _ _ (by simp), (((Below.refl _ _).alloc (Nat.le_refl _) _).alloc (by simp) _).alloc (by simp <;> omega) _⟩
  case round =>
    obtain ⟨k, hk, rfl, bm, bx, bY, hb⟩ := hrel
    by_cases hlt : k < p
    · obtain ⟨b1, o1, u1, rfl, lb1, e1, ca⟩ := sa.at2 hb hlt
      obtain ⟨b2, o2, u2, rfl, lb2, e2, cb⟩ := sb.at2 hb hlt
      have ba := dig_bd c a p hc1
      have bb := dig_bd c b p hc1
      rw [List.getElem?_map, dig_get _ _ _ _ hlt] at e1 e2
      simp at e1 e2
      subst e1 e2
      have q1 := Int.emod_nonneg (quo c a k) (show c ≠ 0 by omega)
      have q2 := Int.emod_lt_of_pos (quo c a k) (show 0 < c by omega)
      have q3 := Int.emod_nonneg (quo c b k) (show c ≠ 0 by omega)
      have q4 := Int.emod_lt_of_pos (quo c b k) (show 0 < c by omega)
      obtain ⟨j, hj⟩ := Int.eq_ofNat_of_zero_le q1
      obtain ⟨l, hl⟩ := Int.eq_ofNat_of_zero_le q3
      rw [hj] at ca q2
      rw [hl] at cb q4
      have HJ := hid hj; have HL := hid hl; have HK := hid hk
      clear q1 q3 hj hl hk ba bb
      have cm := bm.cell 0
      have fm := bm.free 0
      have cx := (bx.cell j).trans (arr_get (by omega))
      have fx := bx.free j
      have cy := (bY.cell l).trans (arr_get (by omega))
      have fy := bY.free l
      simp only [List.getElem?_toArray, List.getElem?_cons_zero] at cm
      have d1 := hits_bd c a b k
      have d2 := cnt_bd c a j k
      have d3 := cnt_bd c b l k
      have j0 : (0 : Int) ≤ j := Int.natCast_nonneg _
      have l0 : (0 : Int) ≤ l := Int.natCast_nonneg _
      have hne : j = l ∨ (j ≠ l ∧ ((j : Int) == (l : Int)) = false ∧ (j == l) = false) := by
        by_cases e : j = l
        · exact .inl e
        · exact .inr ⟨e, beq_eq_false_iff_ne.2 (by omega), beq_eq_false_iff_ne.2 e⟩
      rcases hne with rfl | ⟨hne, hf1, hf2⟩
      · go_wp2_with fail
        go_quiet (fail)
        go_wp2
        go_roundg (gk - 1)
        case measure => have := HK.out; omega
        case rel =>
          refine ⟨k + 1, by have := HK.out; omega, by go_num, ?_, ?_, ?_, ?_⟩
          · rw [hits_step HJ.out HL.out, if_pos rfl]
            exact (((bm.drewN nq).set 0 _).far (by simp <;> omega) _).far (by simp <;> omega) _
          · rw [← arr_step fun _ _ => cnt_step HJ.out]
            exact (((bx.drewN nq).far (by simp) _).set j _).far (by simp) _
          · rw [← arr_step fun _ _ => cnt_step HL.out]
            exact (((bY.drewN nq).far (by simp <;> omega) _).far (by simp) _).set j _
          · exact ((((show Below w1.heap.size w1 (wr.drewN nq) from below_drewN hb _).setCell (by simp) _).setCell (by simp) _).setCell (by simp <;> omega) _)
      · have HN := hid hne; clear hne
        go_wp2_with fail
        go_quiet (fail)
        go_wp2
        go_roundg (gk - 1)
        case measure => have := HK.out; omega
        case rel =>
          refine ⟨k + 1, by have := HK.out; omega, by go_num, ?_, ?_, ?_, ?_⟩
          · rw [hits_step HJ.out HL.out, if_neg (by have := HN.out; omega)]
            simpa using ((bm.drewN nq).far (by simp <;> omega) _).far (by simp <;> omega) _
          · rw [← arr_step fun _ _ => cnt_step HJ.out]
            exact ((bx.drewN nq).set j _).far (by simp) _
          · rw [← arr_step fun _ _ => cnt_step HL.out]
            exact ((bY.drewN nq).far (by simp) _).set l _
          · exact (((show Below w1.heap.size w1 (wr.drewN nq) from below_drewN hb _).setCell (by simp) _).setCell (by simp <;> omega) _)
    · obtain rfl : k = p := by omega
      have HK := hid hk; clear hk
      go_wp2
      obtain ⟨wo, rfl⟩ : ∃ wo : World, wo = wr := ⟨_, rfl⟩
      go_loopg [55] 6 (fun g i wr => ∃ m : Nat, g + m = 6 ∧ i = .int .i64 m ∧ Blk wr w1.heap.size 72 #[.int .i64 (hits c a b k), .int .i64 (pairs c a b k m)] ∧
          Blk wr (w1.heap.size + 1) 74 (arr 6 fun v => cnt c a v k) ∧ Blk wr (w1.heap.size + 1 + 1) 74 (arr 6 fun v => cnt c b v k) ∧ Below w1.heap.size w1 wr)
      case atStart => exact ⟨0, rfl, rfl, bm, bx, bY, hb⟩
      case round =>
        clear bm bx bY hb
        obtain ⟨m, hm, rfl, bm, bx, bY, hb⟩ := hrel
        by_cases hl6 : m < 6
        · have HM := hid hm; clear hm
          have cm := bm.cell 1
          have fm := bm.free 1
          have cx := (bx.cell m).trans (arr_get hl6)
          have cy := (bY.cell m).trans (arr_get hl6)
          simp only [List.getElem?_toArray, List.getElem?_cons_zero, List.getElem?_cons_succ] at cm
          have d1 := pairs_bd c a b k m
          have d2 := cnt_bd c a m k
          have d3 := cnt_bd c b m k
          have d4 : (m : Int) * k ≤ 60 := by
            have := Int.mul_le_mul (show (m : Int) ≤ 6 by omega) (show (k : Int) ≤ 10 by omega) (by omega) (by omega)
            omega
          have d5 := d1.1
          have d6 : pairs c a b k m ≤ 60 := Int.le_trans d1.2 d4
          clear d1 d4
          go_wp2_with fail
          go_region
          all_goals go_wp2
          all_goals (go_roundg (gk - 1))
          any_goals (case measure => have := HM.out; omega)
          · refine ⟨m + 1, by have := HM.out; omega, by go_num, ?_, (bx.far (by simp) _).drew, (bY.far (by simp <;> omega) _).drew, (hb.setCell (by simp) _).drew⟩
            have e : pairs c a b k (m + 1) = pairs c a b k m + cnt c b m k := by rw [pairs, Int.min_eq_right (by omega)]
            rw [e]
            exact (bm.set 1 _).drew
          · refine ⟨m + 1, by have := HM.out; omega, by go_num, ?_, (bx.far (by simp) _).drew, (bY.far (by simp <;> omega) _).drew, (hb.setCell (by simp) _).drew⟩
            have e : pairs c a b k (m + 1) = pairs c a b k m + cnt c a m k := by rw [pairs, Int.min_eq_left (by omega)]
            rw [e]
            exact (bm.set 1 _).drew
        · obtain rfl : m = 6 := by omega
          have HM := hid hm; clear hm
          have cm := bm.cell 1
          have fm := bm.free 1
          have cm0 := bm.cell 0
          simp only [List.getElem?_toArray, List.getElem?_cons_zero, List.getElem?_cons_succ] at cm cm0
          have d1 := pairs_bd c a b k 6
          have d2 := hits_bd c a b k
          have hz6 := (k62.keep hb).cell 0
          have hz7 := (k62.keep hb).cell 1
          have hf6 := (k62.keep hb).free 0
          have hf7 := (k62.keep hb).free 1
          simp only [List.getElem?_toArray, List.getElem?_cons_zero, List.getElem?_cons_succ] at hz6 hz7
          have hlt6 := k62.lt
          go_wp2
          have kf : Blk wr (w.heap.size + 1) 72 #[.int .i64 0, .int .i64 0] := k62.keep hb
          have kg := (((kf.far (p := ⟨w1.heap.size, 1, none⟩) (by simp <;> omega) (.int .i64 (pairs c a b k 6 - hits c a b k))).set 0 (.int .i64 (hits c a b k))).set 1 (.int .i64 (pairs c a b k 6 - hits c a b k)))
          refine bodyPost_ret (results_cell_row rfl _ _ (w.heap.size + 1) 72 _ (0, 0) _ rfl kg Try.underlying72 rfl (by kernel_rfl)) rfl ⟨rfl, ?_⟩
          exact (((below_call kb2 hb (by omega)).setCell (p := ⟨w1.heap.size, 1, none⟩) (by simp <;> omega) _).setCell (p := ⟨w.heap.size + 1, 0, none⟩) (by simp) _).setCell (p := ⟨w.heap.size + 1, 1, none⟩) (by simp) _
end Go.Proofs.Ytdclmhmdkhpekaa
