/- Walk of GuessPlain. No condition. -/
import Derived.Test.YtdclmhmdkhpekaaLeast
import Derived.Test.YtdclmhmdkhpekaaWalkWeighs
namespace Go.Proofs.Ytdclmhmdkhpekaa
open Go.RowKit
attribute [local go_sem ↓] shl_p2

set_option maxRecDepth 100000 in
set_option maxHeartbeats 1000000 in
theorem guessPlain_bad (w : World) (n e : Int) (h : ¬ (1 ≤ n ∧ n ≤ 40 ∧ 0 ≤ e ∧ e ≤ 2)) :
    Calls Try.prog 13 #[.int .i64 n, .int .i64 e] w fun r w' => r = .returned (.bool true) ∧ Below w.heap.size w w' := by
  have HL := hid (leastBad n e w h)
  clear h
  go_enter Try.func13, Try.ntmps13
  go_wp2_with fail
  refine HL.out.mono ?_; rintro r w1 ⟨rfl, rfl⟩
  go_wp2_with (go_at_call 20; refine (awake _).mono ?_; rintro r w6 ⟨rfl, b6⟩)
  go_ret
  exact ⟨rfl, b6⟩

/-- What another Least returns. -/
inductive Next (q : Nat) : Int → Int → Prop
  | ok (m : Nat) (h : q ≤ m) : Next q m 0
  | no : Next q 0 2
theorem next_lie {n : Int} {e q : Nat} (hn : 1 ≤ n) (hn4 : n ≤ 40) (he : e ≤ 2) (hq : LeastOf q (startL n e)) :
    ∃ m g, Next q m g ∧ ∀ w, Calls Try.prog 25 #[.int .i64 n, .int .i64 ((e : Int) + 1)] w fun r w' => r = .returned (.tuple #[.int .i64 m, .int .i64 g]) ∧ Below w.heap.size w w' := by
  by_cases h : e + 1 ≤ 2
  · obtain ⟨m, hm⟩ := least_start (n := n) (e := e + 1) (by omega) hn4 h
    exact ⟨m, 0, .ok m (hq.le_of (start_lie (by omega) (by omega) hm.win)), fun w => leastPub n (e + 1) m w hn hn4 h hm⟩
  · exact ⟨0, 2, .no, fun w => (leastBad n _ w (by omega)).mono fun r w' ⟨h1, h2⟩ => ⟨h1, by subst h2; exact Below.refl _ _⟩⟩
theorem next_more {n : Int} {e q : Nat} (hn : 1 ≤ n) (hn4 : n ≤ 40) (he : e ≤ 2) (hq : LeastOf q (startL n e)) :
    ∃ m g, Next q m g ∧ ∀ w, Calls Try.prog 25 #[.int .i64 (n + 1), .int .i64 (e : Int)] w fun r w' => r = .returned (.tuple #[.int .i64 m, .int .i64 g]) ∧ Below w.heap.size w w' := by
  by_cases h : n + 1 ≤ 40
  · obtain ⟨m, hm⟩ := least_start (n := n + 1) (e := e) (by omega) h he
    exact ⟨m, 0, .ok m (hq.le_of (winS_easier m _ _ (startL_nn (by omega) (by omega)) (startL_nn (by omega) (by omega)) (startL_easier e (by omega)) hm.win)), fun w => leastPub (n + 1) e m w (by omega) h he hm⟩
  · exact ⟨0, 2, .no, fun w => (leastBad _ _ w (by omega)).mono fun r w' ⟨h1, h2⟩ => ⟨h1, by subst h2; exact Below.refl _ _⟩⟩

set_option maxRecDepth 100000 in
set_option maxHeartbeats 4000000 in
theorem guessPlain_good (w : World) (n : Int) (e q : Nat) (hn : 1 ≤ n) (hn4 : n ≤ 40) (he : e ≤ 2) (hq : LeastOf q (startL n e)) :
    Calls Try.prog 13 #[.int .i64 n, .int .i64 e] w fun r w' => r = .returned (.bool true) ∧ Below w.heap.size w w' := by
  obtain ⟨i0, hi, hz0, hz1, hz2⟩ := info_parts TI.inf
  have d1 : decide (n < 1) = false := decide_eq_false (by omega)
  have d2 : decide (40 < n) = false := decide_eq_false (by omega)
  have d3 : decide ((e : Int) < 0) = false := decide_eq_false (by omega)
  have d4 : decide (2 < (e : Int)) = false := decide_eq_false (by omega)
  have d4n : decide (2 < e) = false := decide_eq_false (by omega)
  have HL := hid (leastPub n e q w hn hn4 he hq)
  have qu : (q : Int) ≤ 20 := by have := hq.le; omega
  obtain ⟨m1, g1, hx1, HL1⟩ := next_lie hn hn4 he hq
  obtain ⟨m2, g2, hx2, HL2⟩ := next_more hn hn4 he hq
  have hE : ((e : Int) == 0) = false ∧ (e == 0) = false ∨ ((e : Int) == 0) = true ∧ (e == 0) = true ∧ decide (6 < (q : Int)) = false ∧ decide (6 < q) = false ∧ decide ((q : Int) < 0) = false ∧ Fits q ∧ decide (p2 q < n) = false ∧
      (decide (0 < (q : Int)) = false ∧ decide (0 < q) = false ∨ decide (0 < (q : Int)) = true ∧ decide (0 < q) = true ∧ 1 ≤ (q : Int) ∧ Fits ((q : Int) - 1) ∧ decide (n ≤ p2 ((q : Int) - 1)) = false) := by
    by_cases h0 : e = 0
    · subst h0
      have h64 : p2 ((6 : Nat) : Int) = 64 := by decide +kernel
      have h6 : winS 6 (startL n 0) = true := (start_bits 6 n (by omega)).2 (by omega)
      have hq6 := hq.le_of h6
      have hb := (start_bits q n (by omega)).1 hq.win
      refine .inr ⟨rfl, rfl, decide_eq_false (by omega), decide_eq_false (by omega), decide_eq_false (by omega), ⟨by omega, by omega⟩, decide_eq_false (by omega), ?_⟩
      by_cases hq0 : 0 < q
      · refine .inr ⟨decide_eq_true (by omega), decide_eq_true hq0, by omega, ⟨by omega, by omega⟩, decide_eq_false fun hc => ?_⟩
        have hw := (start_bits (q - 1) n (by omega)).2 (by rw [show ((q - 1 : Nat) : Int) = (q : Int) - 1 by omega]; exact hc)
        rw [hq.no (q - 1) (by omega)] at hw
        cases hw
      · exact .inl ⟨decide_eq_false (by omega), decide_eq_false hq0⟩
    · exact .inl ⟨by rw [beq_eq_false_iff_ne]; omega, by rw [beq_eq_false_iff_ne]; exact h0⟩
  have hF : decide (12 < (q : Int)) = true ∧ decide (12 < q) = true ∨ decide (12 < (q : Int)) = false ∧ decide (12 < q) = false ∧ decide (24 < n) = true ∨
      decide (12 < (q : Int)) = false ∧ decide (12 < q) = false ∧ decide (24 < n) = false ∧ stateOk 24 (startL n e) = true ∧ q ≤ 12 ∧
        (((q : Int) == 0) = true ∧ (q == 0) = true ∧ (n == 1) = true ∨ ((q : Int) == 0) = false ∧ (q == 0) = false ∧ 1 ≤ (q : Int) ∧ winS (q - 1) (startL n e) = false) := by
    by_cases h12 : 12 < q
    · exact .inl ⟨decide_eq_true (by omega), decide_eq_true h12⟩
    by_cases h24 : 24 < n
    · exact .inr (.inl ⟨decide_eq_false (by omega), decide_eq_false h12, decide_eq_true h24⟩)
    refine .inr (.inr ⟨decide_eq_false (by omega), decide_eq_false h12, decide_eq_false h24, state_of (startL_nn (by omega) (by omega)) (by rw [startL_total]; omega), by omega, ?_⟩)
    by_cases h0 : q = 0
    · subst h0
      have := hq.win
      simp only [winS, startL_total, decide_eq_true_eq] at this
      exact .inl ⟨rfl, rfl, by rw [beq_iff_eq]; omega⟩
    · exact .inr ⟨by rw [beq_eq_false_iff_ne]; omega, by rw [beq_eq_false_iff_ne]; exact h0, by omega, hq.no _ (by omega)⟩
  have HL1 := hid HL1
  have HL2 := hid HL2
  have HF := hid hF
  have HWN := hid hq.win
  have HX1 := hid hx1
  have HX2 := hid hx2
  clear hq hF hx1 hx2
  go_enter Try.func13, Try.ntmps13
  go_wp2_with fail
  refine HL.out.mono ?_; rintro r w1 ⟨rfl, b1⟩
  have B1 := hid b1
  clear b1
  rcases hE with ⟨f1, f2⟩ | ⟨f1, f2, f3, f4, f5, f6, f7, ⟨f8, f9⟩ | ⟨f8, f9, f10, f11, f12⟩⟩
  all_goals
    go_wp2_with fail
    refine (HL1.out _).mono ?_; rintro r w2 ⟨rfl, b2⟩
    have B2 := hid (below_call B1.out b2 B1.out.size)
    clear b2
    cases HX1.out with
    | ok m1 h1 =>
      have k1 : decide ((m1 : Int) < (q : Int)) = false := decide_eq_false (by omega)
      have k1n : decide (m1 < q) = false := decide_eq_false (by omega)
      clear h1 HX1
      go_wp2_with fail
      refine (HL2.out _).mono ?_; rintro r w3 ⟨rfl, b3⟩
      have B3 := hid (below_call B2.out b3 B2.out.size)
      clear b3 B2
      cases HX2.out with
      | ok m2 h2 =>
        have k2 : decide ((m2 : Int) < (q : Int)) = false := decide_eq_false (by omega)
        have k2n : decide (m2 < q) = false := decide_eq_false (by omega)
        clear h2 HX2
        rcases HF.out with ⟨g1, g2⟩ | ⟨g1, g2, g3⟩ | ⟨g1, g2, g3, g4, g5, ⟨g6, g7, g8⟩ | ⟨g6, g7, g8, g9⟩⟩
        · clear HF
          go_wp2_with (at_make; refine wpList_make_full _ rfl _ _ 34 rfl w3.heap.size 3 i0 (.int .i64 0) 1 TI.und hi hz0 hz1 _ _ _ _ (e + 1) rfl rfl rfl rfl (by rw [hz2]; omega) (by unfold maxLen; omega) (Nat.le_refl _) ?_; intro w4 hown4 hg4; have hb4 : Below w3.heap.size w3 w4 := (Below.refl _ _).grown hg4 (Nat.le_refl _) (fun k hk => by cases hk); have bo := own_blk hown4; rw [made_arr] at bo; have z := bo.cell 0; rw [arr_get (by omega)] at z; have f := bo.free 0; clear hown4 hg4)
          refine at_callw fun w5 hw5 => ?_
          have B5 := hid (show Below w.heap.size w w5 by rw [hw5]; exact (below_call B3.out hb4 B3.out.size).setCell (p := ⟨w3.heap.size, 0, none⟩) B3.out.size _)
          clear hw5 z f bo hb4
          refine (awake _).mono ?_; rintro r w9 ⟨rfl, b9⟩
          go_wp2_with fail
          go_ret
          exact ⟨rfl, below_call B5.out b9 B5.out.size⟩
        · clear HF
          go_wp2_with (at_make; refine wpList_make_full _ rfl _ _ 34 rfl w3.heap.size 3 i0 (.int .i64 0) 1 TI.und hi hz0 hz1 _ _ _ _ (e + 1) rfl rfl rfl rfl (by rw [hz2]; omega) (by unfold maxLen; omega) (Nat.le_refl _) ?_; intro w4 hown4 hg4; have hb4 : Below w3.heap.size w3 w4 := (Below.refl _ _).grown hg4 (Nat.le_refl _) (fun k hk => by cases hk); have bo := own_blk hown4; rw [made_arr] at bo; have z := bo.cell 0; rw [arr_get (by omega)] at z; have f := bo.free 0; clear hown4 hg4)
          refine at_callw fun w5 hw5 => ?_
          have B5 := hid (show Below w.heap.size w w5 by rw [hw5]; exact (below_call B3.out hb4 B3.out.size).setCell (p := ⟨w3.heap.size, 0, none⟩) B3.out.size _)
          clear hw5 z f bo hb4
          refine (awake _).mono ?_; rintro r w9 ⟨rfl, b9⟩
          go_wp2_with fail
          go_ret
          exact ⟨rfl, below_call B5.out b9 B5.out.size⟩
        · clear HF
          go_wp2_with (at_make; refine wpList_make_full _ rfl _ _ 34 rfl w3.heap.size 3 i0 (.int .i64 0) 1 TI.und hi hz0 hz1 _ _ _ _ (e + 1) rfl rfl rfl rfl (by rw [hz2]; omega) (by unfold maxLen; omega) (Nat.le_refl _) ?_; intro w4 hown4 hg4; have hb4 : Below w3.heap.size w3 w4 := (Below.refl _ _).grown hg4 (Nat.le_refl _) (fun k hk => by cases hk); have bo := own_blk hown4; rw [made_arr] at bo; have z := bo.cell 0; rw [arr_get (by omega)] at z; have f := bo.free 0; clear hown4 hg4)
          refine at_callw fun w5 hw5 => ?_
          have B5 := hid (show Below w.heap.size w w5 by rw [hw5]; exact (below_call B3.out hb4 B3.out.size).setCell (p := ⟨w3.heap.size, 0, none⟩) B3.out.size _)
          have S5 := hid (show Sl w5 (some ⟨w3.heap.size, 0, none⟩) (e + 1) (e + 1) ((startL n e).map (Value.int .i64)) by
            have b2 := bo.set 0 (.int .i64 n)
            rw [arr_set] at b2
            rw [← startL_arr, hw5]
            exact Sl.of_own (blk_own b2 (Nat.le_refl _) (arr_size _ _).symm (by omega)))
          clear hw5 z f bo hb4
          refine (cloneInts _ _ _ (startL n e) (by omega) w5 S5.out).mono ?_; rintro r w6 ⟨A6, c6, rfl, o6, b6⟩
          have S6 := hid (Sl.of_own o6)
          have B6 := hid (below_call B5.out b6 B5.out.size)
          have S56 := hid (S5.out.below b6)
          clear o6 b6
          go_wp2_with fail
          have hw := winsPub _ _ _ _ q g5 _ S6.out g4
          rw [HWN.out] at hw
          refine hw.mono ?_; rintro r w7 ⟨rfl, b7⟩
          have S57 := hid (S56.out.below b7)
          have B7 := hid (below_call B6.out b7 B6.out.size)
          clear hw b7
          go_wp2_with fail
          refine (awake _).mono ?_; rintro r w9 ⟨rfl, b9⟩
          go_wp2_with fail
          go_ret
          exact ⟨rfl, below_call B7.out b9 B7.out.size⟩
        · clear HF
          go_wp2_with (at_make; refine wpList_make_full _ rfl _ _ 34 rfl w3.heap.size 3 i0 (.int .i64 0) 1 TI.und hi hz0 hz1 _ _ _ _ (e + 1) rfl rfl rfl rfl (by rw [hz2]; omega) (by unfold maxLen; omega) (Nat.le_refl _) ?_; intro w4 hown4 hg4; have hb4 : Below w3.heap.size w3 w4 := (Below.refl _ _).grown hg4 (Nat.le_refl _) (fun k hk => by cases hk); have bo := own_blk hown4; rw [made_arr] at bo; have z := bo.cell 0; rw [arr_get (by omega)] at z; have f := bo.free 0; clear hown4 hg4)
          refine at_callw fun w5 hw5 => ?_
          have B5 := hid (show Below w.heap.size w w5 by rw [hw5]; exact (below_call B3.out hb4 B3.out.size).setCell (p := ⟨w3.heap.size, 0, none⟩) B3.out.size _)
          have S5 := hid (show Sl w5 (some ⟨w3.heap.size, 0, none⟩) (e + 1) (e + 1) ((startL n e).map (Value.int .i64)) by
            have b2 := bo.set 0 (.int .i64 n)
            rw [arr_set] at b2
            rw [← startL_arr, hw5]
            exact Sl.of_own (blk_own b2 (Nat.le_refl _) (arr_size _ _).symm (by omega)))
          clear hw5 z f bo hb4
          refine (cloneInts _ _ _ (startL n e) (by omega) w5 S5.out).mono ?_; rintro r w6 ⟨A6, c6, rfl, o6, b6⟩
          have S6 := hid (Sl.of_own o6)
          have B6 := hid (below_call B5.out b6 B5.out.size)
          have S56 := hid (S5.out.below b6)
          clear o6 b6
          go_wp2_with fail
          have hw := winsPub _ _ _ _ q g5 _ S6.out g4
          rw [HWN.out] at hw
          refine hw.mono ?_; rintro r w7 ⟨rfl, b7⟩
          have S57 := hid (S56.out.below b7)
          have B7 := hid (below_call B6.out b7 B6.out.size)
          clear hw b7
          go_wp2_with fail
          have hv := winsPub _ _ _ _ (q - 1) (by omega) _ S57.out g4
          rw [g9, show ((q - 1 : Nat) : Int) = (q : Int) - 1 by omega] at hv
          refine hv.mono ?_; rintro r w8 ⟨rfl, b8⟩
          have B8 := hid (below_call B7.out b8 B7.out.size)
          clear hv b8
          go_wp2_with fail
          refine (awake _).mono ?_; rintro r w9 ⟨rfl, b9⟩
          go_wp2_with fail
          go_ret
          exact ⟨rfl, below_call B8.out b9 B8.out.size⟩
      | no =>
        clear HX2
        rcases HF.out with ⟨g1, g2⟩ | ⟨g1, g2, g3⟩ | ⟨g1, g2, g3, g4, g5, ⟨g6, g7, g8⟩ | ⟨g6, g7, g8, g9⟩⟩
        · clear HF
          go_wp2_with (at_make; refine wpList_make_full _ rfl _ _ 34 rfl w3.heap.size 3 i0 (.int .i64 0) 1 TI.und hi hz0 hz1 _ _ _ _ (e + 1) rfl rfl rfl rfl (by rw [hz2]; omega) (by unfold maxLen; omega) (Nat.le_refl _) ?_; intro w4 hown4 hg4; have hb4 : Below w3.heap.size w3 w4 := (Below.refl _ _).grown hg4 (Nat.le_refl _) (fun k hk => by cases hk); have bo := own_blk hown4; rw [made_arr] at bo; have z := bo.cell 0; rw [arr_get (by omega)] at z; have f := bo.free 0; clear hown4 hg4)
          refine at_callw fun w5 hw5 => ?_
          have B5 := hid (show Below w.heap.size w w5 by rw [hw5]; exact (below_call B3.out hb4 B3.out.size).setCell (p := ⟨w3.heap.size, 0, none⟩) B3.out.size _)
          clear hw5 z f bo hb4
          refine (awake _).mono ?_; rintro r w9 ⟨rfl, b9⟩
          go_wp2_with fail
          go_ret
          exact ⟨rfl, below_call B5.out b9 B5.out.size⟩
        · clear HF
          go_wp2_with (at_make; refine wpList_make_full _ rfl _ _ 34 rfl w3.heap.size 3 i0 (.int .i64 0) 1 TI.und hi hz0 hz1 _ _ _ _ (e + 1) rfl rfl rfl rfl (by rw [hz2]; omega) (by unfold maxLen; omega) (Nat.le_refl _) ?_; intro w4 hown4 hg4; have hb4 : Below w3.heap.size w3 w4 := (Below.refl _ _).grown hg4 (Nat.le_refl _) (fun k hk => by cases hk); have bo := own_blk hown4; rw [made_arr] at bo; have z := bo.cell 0; rw [arr_get (by omega)] at z; have f := bo.free 0; clear hown4 hg4)
          refine at_callw fun w5 hw5 => ?_
          have B5 := hid (show Below w.heap.size w w5 by rw [hw5]; exact (below_call B3.out hb4 B3.out.size).setCell (p := ⟨w3.heap.size, 0, none⟩) B3.out.size _)
          clear hw5 z f bo hb4
          refine (awake _).mono ?_; rintro r w9 ⟨rfl, b9⟩
          go_wp2_with fail
          go_ret
          exact ⟨rfl, below_call B5.out b9 B5.out.size⟩
        · clear HF
          go_wp2_with (at_make; refine wpList_make_full _ rfl _ _ 34 rfl w3.heap.size 3 i0 (.int .i64 0) 1 TI.und hi hz0 hz1 _ _ _ _ (e + 1) rfl rfl rfl rfl (by rw [hz2]; omega) (by unfold maxLen; omega) (Nat.le_refl _) ?_; intro w4 hown4 hg4; have hb4 : Below w3.heap.size w3 w4 := (Below.refl _ _).grown hg4 (Nat.le_refl _) (fun k hk => by cases hk); have bo := own_blk hown4; rw [made_arr] at bo; have z := bo.cell 0; rw [arr_get (by omega)] at z; have f := bo.free 0; clear hown4 hg4)
          refine at_callw fun w5 hw5 => ?_
          have B5 := hid (show Below w.heap.size w w5 by rw [hw5]; exact (below_call B3.out hb4 B3.out.size).setCell (p := ⟨w3.heap.size, 0, none⟩) B3.out.size _)
          have S5 := hid (show Sl w5 (some ⟨w3.heap.size, 0, none⟩) (e + 1) (e + 1) ((startL n e).map (Value.int .i64)) by
            have b2 := bo.set 0 (.int .i64 n)
            rw [arr_set] at b2
            rw [← startL_arr, hw5]
            exact Sl.of_own (blk_own b2 (Nat.le_refl _) (arr_size _ _).symm (by omega)))
          clear hw5 z f bo hb4
          refine (cloneInts _ _ _ (startL n e) (by omega) w5 S5.out).mono ?_; rintro r w6 ⟨A6, c6, rfl, o6, b6⟩
          have S6 := hid (Sl.of_own o6)
          have B6 := hid (below_call B5.out b6 B5.out.size)
          have S56 := hid (S5.out.below b6)
          clear o6 b6
          go_wp2_with fail
          have hw := winsPub _ _ _ _ q g5 _ S6.out g4
          rw [HWN.out] at hw
          refine hw.mono ?_; rintro r w7 ⟨rfl, b7⟩
          have S57 := hid (S56.out.below b7)
          have B7 := hid (below_call B6.out b7 B6.out.size)
          clear hw b7
          go_wp2_with fail
          refine (awake _).mono ?_; rintro r w9 ⟨rfl, b9⟩
          go_wp2_with fail
          go_ret
          exact ⟨rfl, below_call B7.out b9 B7.out.size⟩
        · clear HF
          go_wp2_with (at_make; refine wpList_make_full _ rfl _ _ 34 rfl w3.heap.size 3 i0 (.int .i64 0) 1 TI.und hi hz0 hz1 _ _ _ _ (e + 1) rfl rfl rfl rfl (by rw [hz2]; omega) (by unfold maxLen; omega) (Nat.le_refl _) ?_; intro w4 hown4 hg4; have hb4 : Below w3.heap.size w3 w4 := (Below.refl _ _).grown hg4 (Nat.le_refl _) (fun k hk => by cases hk); have bo := own_blk hown4; rw [made_arr] at bo; have z := bo.cell 0; rw [arr_get (by omega)] at z; have f := bo.free 0; clear hown4 hg4)
          refine at_callw fun w5 hw5 => ?_
          have B5 := hid (show Below w.heap.size w w5 by rw [hw5]; exact (below_call B3.out hb4 B3.out.size).setCell (p := ⟨w3.heap.size, 0, none⟩) B3.out.size _)
          have S5 := hid (show Sl w5 (some ⟨w3.heap.size, 0, none⟩) (e + 1) (e + 1) ((startL n e).map (Value.int .i64)) by
            have b2 := bo.set 0 (.int .i64 n)
            rw [arr_set] at b2
            rw [← startL_arr, hw5]
            exact Sl.of_own (blk_own b2 (Nat.le_refl _) (arr_size _ _).symm (by omega)))
          clear hw5 z f bo hb4
          refine (cloneInts _ _ _ (startL n e) (by omega) w5 S5.out).mono ?_; rintro r w6 ⟨A6, c6, rfl, o6, b6⟩
          have S6 := hid (Sl.of_own o6)
          have B6 := hid (below_call B5.out b6 B5.out.size)
          have S56 := hid (S5.out.below b6)
          clear o6 b6
          go_wp2_with fail
          have hw := winsPub _ _ _ _ q g5 _ S6.out g4
          rw [HWN.out] at hw
          refine hw.mono ?_; rintro r w7 ⟨rfl, b7⟩
          have S57 := hid (S56.out.below b7)
          have B7 := hid (below_call B6.out b7 B6.out.size)
          clear hw b7
          go_wp2_with fail
          have hv := winsPub _ _ _ _ (q - 1) (by omega) _ S57.out g4
          rw [g9, show ((q - 1 : Nat) : Int) = (q : Int) - 1 by omega] at hv
          refine hv.mono ?_; rintro r w8 ⟨rfl, b8⟩
          have B8 := hid (below_call B7.out b8 B7.out.size)
          clear hv b8
          go_wp2_with fail
          refine (awake _).mono ?_; rintro r w9 ⟨rfl, b9⟩
          go_wp2_with fail
          go_ret
          exact ⟨rfl, below_call B8.out b9 B8.out.size⟩
    | no =>
      clear HX1
      go_wp2_with fail
      refine (HL2.out _).mono ?_; rintro r w3 ⟨rfl, b3⟩
      have B3 := hid (below_call B2.out b3 B2.out.size)
      clear b3 B2
      cases HX2.out with
      | ok m2 h2 =>
        have k2 : decide ((m2 : Int) < (q : Int)) = false := decide_eq_false (by omega)
        have k2n : decide (m2 < q) = false := decide_eq_false (by omega)
        clear h2 HX2
        rcases HF.out with ⟨g1, g2⟩ | ⟨g1, g2, g3⟩ | ⟨g1, g2, g3, g4, g5, ⟨g6, g7, g8⟩ | ⟨g6, g7, g8, g9⟩⟩
        · clear HF
          go_wp2_with (at_make; refine wpList_make_full _ rfl _ _ 34 rfl w3.heap.size 3 i0 (.int .i64 0) 1 TI.und hi hz0 hz1 _ _ _ _ (e + 1) rfl rfl rfl rfl (by rw [hz2]; omega) (by unfold maxLen; omega) (Nat.le_refl _) ?_; intro w4 hown4 hg4; have hb4 : Below w3.heap.size w3 w4 := (Below.refl _ _).grown hg4 (Nat.le_refl _) (fun k hk => by cases hk); have bo := own_blk hown4; rw [made_arr] at bo; have z := bo.cell 0; rw [arr_get (by omega)] at z; have f := bo.free 0; clear hown4 hg4)
          refine at_callw fun w5 hw5 => ?_
          have B5 := hid (show Below w.heap.size w w5 by rw [hw5]; exact (below_call B3.out hb4 B3.out.size).setCell (p := ⟨w3.heap.size, 0, none⟩) B3.out.size _)
          clear hw5 z f bo hb4
          refine (awake _).mono ?_; rintro r w9 ⟨rfl, b9⟩
          go_wp2_with fail
          go_ret
          exact ⟨rfl, below_call B5.out b9 B5.out.size⟩
        · clear HF
          go_wp2_with (at_make; refine wpList_make_full _ rfl _ _ 34 rfl w3.heap.size 3 i0 (.int .i64 0) 1 TI.und hi hz0 hz1 _ _ _ _ (e + 1) rfl rfl rfl rfl (by rw [hz2]; omega) (by unfold maxLen; omega) (Nat.le_refl _) ?_; intro w4 hown4 hg4; have hb4 : Below w3.heap.size w3 w4 := (Below.refl _ _).grown hg4 (Nat.le_refl _) (fun k hk => by cases hk); have bo := own_blk hown4; rw [made_arr] at bo; have z := bo.cell 0; rw [arr_get (by omega)] at z; have f := bo.free 0; clear hown4 hg4)
          refine at_callw fun w5 hw5 => ?_
          have B5 := hid (show Below w.heap.size w w5 by rw [hw5]; exact (below_call B3.out hb4 B3.out.size).setCell (p := ⟨w3.heap.size, 0, none⟩) B3.out.size _)
          clear hw5 z f bo hb4
          refine (awake _).mono ?_; rintro r w9 ⟨rfl, b9⟩
          go_wp2_with fail
          go_ret
          exact ⟨rfl, below_call B5.out b9 B5.out.size⟩
        · clear HF
          go_wp2_with (at_make; refine wpList_make_full _ rfl _ _ 34 rfl w3.heap.size 3 i0 (.int .i64 0) 1 TI.und hi hz0 hz1 _ _ _ _ (e + 1) rfl rfl rfl rfl (by rw [hz2]; omega) (by unfold maxLen; omega) (Nat.le_refl _) ?_; intro w4 hown4 hg4; have hb4 : Below w3.heap.size w3 w4 := (Below.refl _ _).grown hg4 (Nat.le_refl _) (fun k hk => by cases hk); have bo := own_blk hown4; rw [made_arr] at bo; have z := bo.cell 0; rw [arr_get (by omega)] at z; have f := bo.free 0; clear hown4 hg4)
          refine at_callw fun w5 hw5 => ?_
          have B5 := hid (show Below w.heap.size w w5 by rw [hw5]; exact (below_call B3.out hb4 B3.out.size).setCell (p := ⟨w3.heap.size, 0, none⟩) B3.out.size _)
          have S5 := hid (show Sl w5 (some ⟨w3.heap.size, 0, none⟩) (e + 1) (e + 1) ((startL n e).map (Value.int .i64)) by
            have b2 := bo.set 0 (.int .i64 n)
            rw [arr_set] at b2
            rw [← startL_arr, hw5]
            exact Sl.of_own (blk_own b2 (Nat.le_refl _) (arr_size _ _).symm (by omega)))
          clear hw5 z f bo hb4
          refine (cloneInts _ _ _ (startL n e) (by omega) w5 S5.out).mono ?_; rintro r w6 ⟨A6, c6, rfl, o6, b6⟩
          have S6 := hid (Sl.of_own o6)
          have B6 := hid (below_call B5.out b6 B5.out.size)
          have S56 := hid (S5.out.below b6)
          clear o6 b6
          go_wp2_with fail
          have hw := winsPub _ _ _ _ q g5 _ S6.out g4
          rw [HWN.out] at hw
          refine hw.mono ?_; rintro r w7 ⟨rfl, b7⟩
          have S57 := hid (S56.out.below b7)
          have B7 := hid (below_call B6.out b7 B6.out.size)
          clear hw b7
          go_wp2_with fail
          refine (awake _).mono ?_; rintro r w9 ⟨rfl, b9⟩
          go_wp2_with fail
          go_ret
          exact ⟨rfl, below_call B7.out b9 B7.out.size⟩
        · clear HF
          go_wp2_with (at_make; refine wpList_make_full _ rfl _ _ 34 rfl w3.heap.size 3 i0 (.int .i64 0) 1 TI.und hi hz0 hz1 _ _ _ _ (e + 1) rfl rfl rfl rfl (by rw [hz2]; omega) (by unfold maxLen; omega) (Nat.le_refl _) ?_; intro w4 hown4 hg4; have hb4 : Below w3.heap.size w3 w4 := (Below.refl _ _).grown hg4 (Nat.le_refl _) (fun k hk => by cases hk); have bo := own_blk hown4; rw [made_arr] at bo; have z := bo.cell 0; rw [arr_get (by omega)] at z; have f := bo.free 0; clear hown4 hg4)
          refine at_callw fun w5 hw5 => ?_
          have B5 := hid (show Below w.heap.size w w5 by rw [hw5]; exact (below_call B3.out hb4 B3.out.size).setCell (p := ⟨w3.heap.size, 0, none⟩) B3.out.size _)
          have S5 := hid (show Sl w5 (some ⟨w3.heap.size, 0, none⟩) (e + 1) (e + 1) ((startL n e).map (Value.int .i64)) by
            have b2 := bo.set 0 (.int .i64 n)
            rw [arr_set] at b2
            rw [← startL_arr, hw5]
            exact Sl.of_own (blk_own b2 (Nat.le_refl _) (arr_size _ _).symm (by omega)))
          clear hw5 z f bo hb4
          refine (cloneInts _ _ _ (startL n e) (by omega) w5 S5.out).mono ?_; rintro r w6 ⟨A6, c6, rfl, o6, b6⟩
          have S6 := hid (Sl.of_own o6)
          have B6 := hid (below_call B5.out b6 B5.out.size)
          have S56 := hid (S5.out.below b6)
          clear o6 b6
          go_wp2_with fail
          have hw := winsPub _ _ _ _ q g5 _ S6.out g4
          rw [HWN.out] at hw
          refine hw.mono ?_; rintro r w7 ⟨rfl, b7⟩
          have S57 := hid (S56.out.below b7)
          have B7 := hid (below_call B6.out b7 B6.out.size)
          clear hw b7
          go_wp2_with fail
          have hv := winsPub _ _ _ _ (q - 1) (by omega) _ S57.out g4
          rw [g9, show ((q - 1 : Nat) : Int) = (q : Int) - 1 by omega] at hv
          refine hv.mono ?_; rintro r w8 ⟨rfl, b8⟩
          have B8 := hid (below_call B7.out b8 B7.out.size)
          clear hv b8
          go_wp2_with fail
          refine (awake _).mono ?_; rintro r w9 ⟨rfl, b9⟩
          go_wp2_with fail
          go_ret
          exact ⟨rfl, below_call B8.out b9 B8.out.size⟩
      | no =>
        clear HX2
        rcases HF.out with ⟨g1, g2⟩ | ⟨g1, g2, g3⟩ | ⟨g1, g2, g3, g4, g5, ⟨g6, g7, g8⟩ | ⟨g6, g7, g8, g9⟩⟩
        · clear HF
          go_wp2_with (at_make; refine wpList_make_full _ rfl _ _ 34 rfl w3.heap.size 3 i0 (.int .i64 0) 1 TI.und hi hz0 hz1 _ _ _ _ (e + 1) rfl rfl rfl rfl (by rw [hz2]; omega) (by unfold maxLen; omega) (Nat.le_refl _) ?_; intro w4 hown4 hg4; have hb4 : Below w3.heap.size w3 w4 := (Below.refl _ _).grown hg4 (Nat.le_refl _) (fun k hk => by cases hk); have bo := own_blk hown4; rw [made_arr] at bo; have z := bo.cell 0; rw [arr_get (by omega)] at z; have f := bo.free 0; clear hown4 hg4)
          refine at_callw fun w5 hw5 => ?_
          have B5 := hid (show Below w.heap.size w w5 by rw [hw5]; exact (below_call B3.out hb4 B3.out.size).setCell (p := ⟨w3.heap.size, 0, none⟩) B3.out.size _)
          clear hw5 z f bo hb4
          refine (awake _).mono ?_; rintro r w9 ⟨rfl, b9⟩
          go_wp2_with fail
          go_ret
          exact ⟨rfl, below_call B5.out b9 B5.out.size⟩
        · clear HF
          go_wp2_with (at_make; refine wpList_make_full _ rfl _ _ 34 rfl w3.heap.size 3 i0 (.int .i64 0) 1 TI.und hi hz0 hz1 _ _ _ _ (e + 1) rfl rfl rfl rfl (by rw [hz2]; omega) (by unfold maxLen; omega) (Nat.le_refl _) ?_; intro w4 hown4 hg4; have hb4 : Below w3.heap.size w3 w4 := (Below.refl _ _).grown hg4 (Nat.le_refl _) (fun k hk => by cases hk); have bo := own_blk hown4; rw [made_arr] at bo; have z := bo.cell 0; rw [arr_get (by omega)] at z; have f := bo.free 0; clear hown4 hg4)
          refine at_callw fun w5 hw5 => ?_
          have B5 := hid (show Below w.heap.size w w5 by rw [hw5]; exact (below_call B3.out hb4 B3.out.size).setCell (p := ⟨w3.heap.size, 0, none⟩) B3.out.size _)
          clear hw5 z f bo hb4
          refine (awake _).mono ?_; rintro r w9 ⟨rfl, b9⟩
          go_wp2_with fail
          go_ret
          exact ⟨rfl, below_call B5.out b9 B5.out.size⟩
        · clear HF
          go_wp2_with (at_make; refine wpList_make_full _ rfl _ _ 34 rfl w3.heap.size 3 i0 (.int .i64 0) 1 TI.und hi hz0 hz1 _ _ _ _ (e + 1) rfl rfl rfl rfl (by rw [hz2]; omega) (by unfold maxLen; omega) (Nat.le_refl _) ?_; intro w4 hown4 hg4; have hb4 : Below w3.heap.size w3 w4 := (Below.refl _ _).grown hg4 (Nat.le_refl _) (fun k hk => by cases hk); have bo := own_blk hown4; rw [made_arr] at bo; have z := bo.cell 0; rw [arr_get (by omega)] at z; have f := bo.free 0; clear hown4 hg4)
          refine at_callw fun w5 hw5 => ?_
          have B5 := hid (show Below w.heap.size w w5 by rw [hw5]; exact (below_call B3.out hb4 B3.out.size).setCell (p := ⟨w3.heap.size, 0, none⟩) B3.out.size _)
          have S5 := hid (show Sl w5 (some ⟨w3.heap.size, 0, none⟩) (e + 1) (e + 1) ((startL n e).map (Value.int .i64)) by
            have b2 := bo.set 0 (.int .i64 n)
            rw [arr_set] at b2
            rw [← startL_arr, hw5]
            exact Sl.of_own (blk_own b2 (Nat.le_refl _) (arr_size _ _).symm (by omega)))
          clear hw5 z f bo hb4
          refine (cloneInts _ _ _ (startL n e) (by omega) w5 S5.out).mono ?_; rintro r w6 ⟨A6, c6, rfl, o6, b6⟩
          have S6 := hid (Sl.of_own o6)
          have B6 := hid (below_call B5.out b6 B5.out.size)
          have S56 := hid (S5.out.below b6)
          clear o6 b6
          go_wp2_with fail
          have hw := winsPub _ _ _ _ q g5 _ S6.out g4
          rw [HWN.out] at hw
          refine hw.mono ?_; rintro r w7 ⟨rfl, b7⟩
          have S57 := hid (S56.out.below b7)
          have B7 := hid (below_call B6.out b7 B6.out.size)
          clear hw b7
          go_wp2_with fail
          refine (awake _).mono ?_; rintro r w9 ⟨rfl, b9⟩
          go_wp2_with fail
          go_ret
          exact ⟨rfl, below_call B7.out b9 B7.out.size⟩
        · clear HF
          go_wp2_with (at_make; refine wpList_make_full _ rfl _ _ 34 rfl w3.heap.size 3 i0 (.int .i64 0) 1 TI.und hi hz0 hz1 _ _ _ _ (e + 1) rfl rfl rfl rfl (by rw [hz2]; omega) (by unfold maxLen; omega) (Nat.le_refl _) ?_; intro w4 hown4 hg4; have hb4 : Below w3.heap.size w3 w4 := (Below.refl _ _).grown hg4 (Nat.le_refl _) (fun k hk => by cases hk); have bo := own_blk hown4; rw [made_arr] at bo; have z := bo.cell 0; rw [arr_get (by omega)] at z; have f := bo.free 0; clear hown4 hg4)
          refine at_callw fun w5 hw5 => ?_
          have B5 := hid (show Below w.heap.size w w5 by rw [hw5]; exact (below_call B3.out hb4 B3.out.size).setCell (p := ⟨w3.heap.size, 0, none⟩) B3.out.size _)
          have S5 := hid (show Sl w5 (some ⟨w3.heap.size, 0, none⟩) (e + 1) (e + 1) ((startL n e).map (Value.int .i64)) by
            have b2 := bo.set 0 (.int .i64 n)
            rw [arr_set] at b2
            rw [← startL_arr, hw5]
            exact Sl.of_own (blk_own b2 (Nat.le_refl _) (arr_size _ _).symm (by omega)))
          clear hw5 z f bo hb4
          refine (cloneInts _ _ _ (startL n e) (by omega) w5 S5.out).mono ?_; rintro r w6 ⟨A6, c6, rfl, o6, b6⟩
          have S6 := hid (Sl.of_own o6)
          have B6 := hid (below_call B5.out b6 B5.out.size)
          have S56 := hid (S5.out.below b6)
          clear o6 b6
          go_wp2_with fail
          have hw := winsPub _ _ _ _ q g5 _ S6.out g4
          rw [HWN.out] at hw
          refine hw.mono ?_; rintro r w7 ⟨rfl, b7⟩
          have S57 := hid (S56.out.below b7)
          have B7 := hid (below_call B6.out b7 B6.out.size)
          clear hw b7
          go_wp2_with fail
          have hv := winsPub _ _ _ _ (q - 1) (by omega) _ S57.out g4
          rw [g9, show ((q - 1 : Nat) : Int) = (q : Int) - 1 by omega] at hv
          refine hv.mono ?_; rintro r w8 ⟨rfl, b8⟩
          have B8 := hid (below_call B7.out b8 B7.out.size)
          clear hv b8
          go_wp2_with fail
          refine (awake _).mono ?_; rintro r w9 ⟨rfl, b9⟩
          go_wp2_with fail
          go_ret
          exact ⟨rfl, below_call B8.out b9 B8.out.size⟩

theorem guessPlain_walk (w : World) (n : Int) (_ : (Lit.int .i64 n).wf = true) (e : Int) (_ : (Lit.int .i64 e).wf = true) :
    Calls Try.prog 13 #[.int .i64 n, .int .i64 e] w fun r w' => r = .returned (.bool true) ∧ Below w.heap.size w w' := by
  by_cases h : 1 ≤ n ∧ n ≤ 40 ∧ 0 ≤ e ∧ e ≤ 2
  · obtain ⟨k, rfl⟩ := Int.eq_ofNat_of_zero_le h.2.2.1
    obtain ⟨q, hq⟩ := least_start (n := n) (e := k) (by omega) h.2.1 (by omega)
    exact guessPlain_good w n k q h.1 h.2.1 (by omega) hq
  · exact guessPlain_bad w n e h
end Go.Proofs.Ytdclmhmdkhpekaa
