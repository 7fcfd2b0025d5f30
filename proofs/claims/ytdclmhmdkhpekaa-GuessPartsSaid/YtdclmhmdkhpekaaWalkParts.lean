/- The walk of the law GuessParts. No condition. -/
import Derived.Test.YtdclmhmdkhpekaaWalkLeft
import Derived.Test.YtdclmhmdkhpekaaSortG
namespace Go.Proofs.Ytdclmhmdkhpekaa
open Go.RowKit Go.Maps

theorem flat3_snoc (xs : List Tri) (u : Tri) : flat3 (xs ++ [u]) = flat3 xs ++ triV u := by simp [flat3]

set_option maxRecDepth 100000 in
set_option maxHeartbeats 4000000 in
theorem guessParts_no (w : World) (p c : Int) (A : Option Addr) (n cp : Nat) (hs : List Tri) (hsl : Slt w A n cp hs) (a : Int) (hg : gameOk p c [] = false) :
    Calls Try.prog 17 #[.int .i64 p, .int .i64 c, .slice A n cp, .int .i64 a] w fun e w' => e = .returned (.bool true) ∧ Below w.heap.size w w' := by
  obtain ⟨m, ts, hT⟩ := trip_of hsl
  have HT := hid hT
  have H1 := hid fun (A' : Option Addr) (c' : Nat) (W : World) => leftPub_no p c A' m c' W hg
  clear hT hg hsl
  have HB0 := hid (Below.refl w.heap.size w)
  go_enter Try.func17, Try.ntmps17
  go_wp2_with fail
  refine (HT.out.run _ HB0.out).mono ?_; rintro e w1 ⟨A1, c1, rfl, ho, hb⟩
  have HB1 := hid (below_call HB0.out hb HB0.out.size)
  have HS1_1 := hid (Slt.of_own ho)
  clear ho
  clear hb
  go_wp2_with fail
  refine (H1.out _ _ _).mono ?_; rintro e w2 ⟨rfl, hb⟩
  have HB2 := hid (below_call HB1.out hb HB1.out.size)
  have HS1_2 := hid (HS1_1.out.below hb)
  clear hb
  go_wp2_with fail
  refine (awake _).mono ?_; rintro e w3 ⟨rfl, hb⟩
  have HB3 := hid (below_call HB2.out hb HB2.out.size)
  have HS1_3 := hid (HS1_2.out.below hb)
  clear hb
  go_wp2
  go_ret
  exact ⟨rfl, HB3.out⟩

set_option maxRecDepth 100000 in
set_option maxHeartbeats 4000000 in
theorem guessParts_bad (w : World) (p : Nat) (c : Int) (N : Nat) (A : Option Addr) (n cp : Nat) (hs : List Tri) (hsl : Slt w A n cp hs) (a : Int) (hg : 0 < codes p c) (hN : codes p c = N) (hh : histOk p N hs = false) :
    Calls Try.prog 17 #[.int .i64 p, .int .i64 c, .slice A n cp, .int .i64 a] w fun e w' => e = .returned (.bool true) ∧ Below w.heap.size w w' := by
  obtain ⟨m, ts, hT⟩ := trip_of hsl
  have hht : histOk p N ts = false := by rw [hT.hist]; exact hh
  have HT := hid hT
  have H1 := hid fun (A' : Option Addr) (c' : Nat) (W : World) (h : Slt W A' m c' ts) => leftPub_bad p c N A' m c' ts W hg hN h hht
  clear hT hg hN hsl hh hht
  have HB0 := hid (Below.refl w.heap.size w)
  go_enter Try.func17, Try.ntmps17
  go_wp2_with fail
  refine (HT.out.run _ HB0.out).mono ?_; rintro e w1 ⟨A1, c1, rfl, ho, hb⟩
  have HB1 := hid (below_call HB0.out hb HB0.out.size)
  have HS1_1 := hid (Slt.of_own ho)
  clear ho
  clear hb
  go_wp2_with fail
  refine (H1.out _ _ _ HS1_1.out).mono ?_; rintro e w2 ⟨rfl, hb⟩
  have HB2 := hid (below_call HB1.out hb HB1.out.size)
  clear hb
  go_wp2_with fail
  refine (awake _).mono ?_; rintro e w3 ⟨rfl, hb⟩
  have HB3 := hid (below_call HB2.out hb HB2.out.size)
  clear hb
  go_wp2
  go_ret
  exact ⟨rfl, HB3.out⟩

set_option maxRecDepth 100000 in
set_option maxHeartbeats 4000000 in
theorem guessParts_x (w : World) (p : Nat) (c : Int) (N : Nat) (A : Option Addr) (n cp : Nat) (hs : List Tri) (hsl : Slt w A n cp hs) (a : Int) (hg : 0 < codes p c) (hN : codes p c = N) (hh : histOk p N hs = true) (ha : gameOk p c [a] = false) :
    Calls Try.prog 17 #[.int .i64 p, .int .i64 c, .slice A n cp, .int .i64 a] w fun e w' => e = .returned (.bool true) ∧ Below w.heap.size w w' := by
  obtain ⟨⟨h1, h2⟩, ⟨h3, h4⟩, h5, h6⟩ := game_facts hg hN
  obtain ⟨m, ts, hT⟩ := trip_of hsl
  obtain ⟨h10, htri⟩ := hist_iff.1 hh
  obtain ⟨rfl, rfl⟩ := hT.same h10
  have hg0 : gameOk p c [] = true := gameOk_iff.2 ⟨hg, by simp⟩
  have hr := left_rise c p N ts
  have hle := left_len c p N ts
  have hln := hsl.len
  have HT := hid hT
  have H1 := hid fun (A' : Option Addr) (c' : Nat) (W : World) (h : Slt W A' m c' ts) => leftPub_ok p c N A' m c' ts W hg hN h hh
  have HA := hid fun (A' : Option Addr) (c' : Nat) (W : World) (h : Sl W A' 1 c' ([a].map (Value.int .i64))) => gameLaw p c A' 1 c' [a] W h false ha
  clear hT hg hN hsl hh hg0 h10 htri hr hle ha
  generalize leftL c p N ts = l at *
  have HB0 := hid (Below.refl w.heap.size w)
  go_enter Try.func17, Try.ntmps17
  go_wp2_with fail
  refine (HT.out.run _ HB0.out).mono ?_; rintro e w1 ⟨A1, c1, rfl, ho, hb⟩
  have HB1 := hid (below_call HB0.out hb HB0.out.size)
  have HS1_1 := hid (Slt.of_own ho)
  clear ho
  clear hb
  go_wp2_with fail
  refine (H1.out _ _ _ HS1_1.out).mono ?_; rintro e w2 ⟨A2, c2, rfl, ho, hb⟩
  have HB2 := hid (below_call HB1.out hb HB1.out.size)
  have SL_2 := hid (Sl.of_own ho)
  clear ho
  clear hb
  go_wp2_with fail
  have HB3 := hid (HB2.out.alloc HB2.out.size (.cells #[.int .i64 a] 3))
  have SL_3 := hid (SL_2.out.alloc (.cells #[.int .i64 a] 3))
  refine (HA.out _ _ _ (Sl.new _ #[.int .i64 a] 3 rfl (by simp))).mono ?_; rintro e w' ⟨rfl, rfl⟩
  go_wp2_with fail
  refine (awake _).mono ?_; rintro e w4 ⟨rfl, hb⟩
  have HB4 := hid (below_call HB3.out hb HB3.out.size)
  have SL_4 := hid (SL_3.out.below hb)
  clear hb
  go_wp2
  go_ret
  exact ⟨rfl, HB4.out⟩

set_option maxRecDepth 100000 in
set_option maxHeartbeats 4000000 in
theorem guessParts_ten (w : World) (p : Nat) (c : Int) (N : Nat) (A : Option Addr) (n cp : Nat) (hs : List Tri) (hsl : Slt w A n cp hs) (a : Int) (hg : 0 < codes p c) (hN : codes p c = N) (hh : histOk p N hs = true) (ha : gameOk p c [a] = true) (h9 : 9 < n) :
    Calls Try.prog 17 #[.int .i64 p, .int .i64 c, .slice A n cp, .int .i64 a] w fun e w' => e = .returned (.bool true) ∧ Below w.heap.size w w' := by
  obtain ⟨⟨h1, h2⟩, ⟨h3, h4⟩, h5, h6⟩ := game_facts hg hN
  obtain ⟨m, ts, hT⟩ := trip_of hsl
  obtain ⟨h10, htri⟩ := hist_iff.1 hh
  obtain ⟨rfl, rfl⟩ := hT.same h10
  have hg0 : gameOk p c [] = true := gameOk_iff.2 ⟨hg, by simp⟩
  have hr := left_rise c p N ts
  have hle := left_len c p N ts
  have hln := hsl.len
  have HT := hid hT
  have H1 := hid fun (A' : Option Addr) (c' : Nat) (W : World) (h : Slt W A' m c' ts) => leftPub_ok p c N A' m c' ts W hg hN h hh
  have HA := hid fun (A' : Option Addr) (c' : Nat) (W : World) (h : Sl W A' 1 c' ([a].map (Value.int .i64))) => gameLaw p c A' 1 c' [a] W h true ha
  have g1 : decide (9 < m) = true := decide_eq_true h9
  have g2 : decide (9 < (m : Int)) = true := decide_eq_true (by omega)
  clear hT hg hN hsl hh hg0 h10 htri hr hle ha
  generalize leftL c p N ts = l at *
  have HB0 := hid (Below.refl w.heap.size w)
  go_enter Try.func17, Try.ntmps17
  go_wp2_with fail
  refine (HT.out.run _ HB0.out).mono ?_; rintro e w1 ⟨A1, c1, rfl, ho, hb⟩
  have HB1 := hid (below_call HB0.out hb HB0.out.size)
  have HS1_1 := hid (Slt.of_own ho)
  clear ho
  clear hb
  go_wp2_with fail
  refine (H1.out _ _ _ HS1_1.out).mono ?_; rintro e w2 ⟨A2, c2, rfl, ho, hb⟩
  have HB2 := hid (below_call HB1.out hb HB1.out.size)
  have SL_2 := hid (Sl.of_own ho)
  clear ho
  clear hb
  go_wp2_with fail
  have HB3 := hid (HB2.out.alloc HB2.out.size (.cells #[.int .i64 a] 3))
  have SL_3 := hid (SL_2.out.alloc (.cells #[.int .i64 a] 3))
  refine (HA.out _ _ _ (Sl.new _ #[.int .i64 a] 3 rfl (by simp))).mono ?_; rintro e w' ⟨rfl, rfl⟩
  go_wp2_with fail
  refine (awake _).mono ?_; rintro e w4 ⟨rfl, hb⟩
  have HB4 := hid (below_call HB3.out hb HB3.out.size)
  have SL_4 := hid (SL_3.out.below hb)
  clear hb
  go_wp2
  go_ret
  exact ⟨rfl, HB4.out⟩

set_option maxRecDepth 100000 in
set_option maxHeartbeats 4000000 in
theorem guessParts_none (w : World) (p : Nat) (c : Int) (N : Nat) (A : Option Addr) (n cp : Nat) (hs : List Tri) (hsl : Slt w A n cp hs) (a : Int) (hg : 0 < codes p c) (hN : codes p c = N) (hh : histOk p N hs = true) (ha : gameOk p c [a] = true) (h9 : ¬ 9 < n) (hl : leftL c p N hs = []) :
    Calls Try.prog 17 #[.int .i64 p, .int .i64 c, .slice A n cp, .int .i64 a] w fun e w' => e = .returned (.bool true) ∧ Below w.heap.size w w' := by
  obtain ⟨⟨h1, h2⟩, ⟨h3, h4⟩, h5, h6⟩ := game_facts hg hN
  obtain ⟨m, ts, hT⟩ := trip_of hsl
  obtain ⟨h10, htri⟩ := hist_iff.1 hh
  obtain ⟨rfl, rfl⟩ := hT.same h10
  have hg0 : gameOk p c [] = true := gameOk_iff.2 ⟨hg, by simp⟩
  have hr := left_rise c p N ts
  have hle := left_len c p N ts
  have hln := hsl.len
  have HT := hid hT
  have H1 := hid fun (A' : Option Addr) (c' : Nat) (W : World) (h : Slt W A' m c' ts) => leftPub_ok p c N A' m c' ts W hg hN h hh
  have HA := hid fun (A' : Option Addr) (c' : Nat) (W : World) (h : Sl W A' 1 c' ([a].map (Value.int .i64))) => gameLaw p c A' 1 c' [a] W h true ha
  have g1 : decide (9 < m) = false := decide_eq_false h9
  have g2 : decide (9 < (m : Int)) = false := decide_eq_false (by omega)
  have H3 := hid fun (A' : Option Addr) (c' : Nat) (W : World) (h : Slt W A' m c' ts) => nextPub_none p c N A' m c' ts W h hg0 hN hh hl
  have H2 := hid fun (A' : Option Addr) (c' : Nat) (W : World) (h : Slt W A' m c' ts) => worstPub_none p c a N A' m c' ts W h ha hN hh hl
  rw [hl] at H1
  have gl : ((([] : List Int).length : Int) == 0) = true := rfl
  clear hT hg hN hsl hh hg0 h10 htri hr hle ha
  have HB0 := hid (Below.refl w.heap.size w)
  go_enter Try.func17, Try.ntmps17
  go_wp2_with fail
  refine (HT.out.run _ HB0.out).mono ?_; rintro e w1 ⟨A1, c1, rfl, ho, hb⟩
  have HB1 := hid (below_call HB0.out hb HB0.out.size)
  have HS1_1 := hid (Slt.of_own ho)
  clear ho
  clear hb
  go_wp2_with fail
  refine (H1.out _ _ _ HS1_1.out).mono ?_; rintro e w2 ⟨A2, c2, rfl, ho, hb⟩
  have HB2 := hid (below_call HB1.out hb HB1.out.size)
  have SL_2 := hid (Sl.of_own ho)
  clear ho
  clear hb
  go_wp2_with fail
  have HB3 := hid (HB2.out.alloc HB2.out.size (.cells #[.int .i64 a] 3))
  have SL_3 := hid (SL_2.out.alloc (.cells #[.int .i64 a] 3))
  refine (HA.out _ _ _ (Sl.new _ #[.int .i64 a] 3 rfl (by simp))).mono ?_; rintro e w' ⟨rfl, rfl⟩
  go_wp2_with fail
  refine (HT.out.run _ HB3.out).mono ?_; rintro e w4 ⟨A4, c4, rfl, ho, hb⟩
  have HB4 := hid (below_call HB3.out hb HB3.out.size)
  have SL_4 := hid (SL_3.out.below hb)
  have HS2_4 := hid (Slt.of_own ho)
  clear ho
  clear hb
  go_wp2_with fail
  refine (H2.out _ _ _ HS2_4.out).mono ?_; rintro e w5 ⟨rfl, hb⟩
  have HB5 := hid (below_call HB4.out hb HB4.out.size)
  have SL_5 := hid (SL_4.out.below hb)
  clear hb
  go_wp2_with fail
  refine (HT.out.run _ HB5.out).mono ?_; rintro e w6 ⟨A6, c6, rfl, ho, hb⟩
  have HB6 := hid (below_call HB5.out hb HB5.out.size)
  have SL_6 := hid (SL_5.out.below hb)
  have HS3_6 := hid (Slt.of_own ho)
  clear ho
  clear hb
  go_wp2_with fail
  refine (H3.out _ _ _ HS3_6.out).mono ?_; rintro e w7 ⟨rfl, hb⟩
  have HB7 := hid (below_call HB6.out hb HB6.out.size)
  have SL_7 := hid (SL_6.out.below hb)
  clear hb
  go_wp2_with fail
  refine (awake _).mono ?_; rintro e w8 ⟨rfl, hb⟩
  have HB8 := hid (below_call HB7.out hb HB7.out.size)
  have SL_8 := hid (SL_7.out.below hb)
  clear hb
  go_wp2
  go_ret
  exact ⟨rfl, HB8.out⟩

set_option maxRecDepth 100000 in
set_option maxHeartbeats 4000000 in
theorem guessParts_full (w : World) (p : Nat) (c : Int) (N : Nat) (A : Option Addr) (n cp : Nat) (hs : List Tri) (hsl : Slt w A n cp hs) (a : Int) (hg : 0 < codes p c) (hN : codes p c = N) (hh : histOk p N hs = true) (ha : gameOk p c [a] = true) (h9 : ¬ 9 < n) (hl : leftL c p N hs ≠ []) :
    Calls Try.prog 17 #[.int .i64 p, .int .i64 c, .slice A n cp, .int .i64 a] w fun e w' => e = .returned (.bool true) ∧ Below w.heap.size w w' := by
  obtain ⟨⟨h1, h2⟩, ⟨h3, h4⟩, h5, h6⟩ := game_facts hg hN
  obtain ⟨m, ts, hT⟩ := trip_of hsl
  obtain ⟨h10, htri⟩ := hist_iff.1 hh
  obtain ⟨rfl, rfl⟩ := hT.same h10
  have hg0 : gameOk p c [] = true := gameOk_iff.2 ⟨hg, by simp⟩
  have hr := left_rise c p N ts
  have hle := left_len c p N ts
  have hln := hsl.len
  have HT := hid hT
  have H1 := hid fun (A' : Option Addr) (c' : Nat) (W : World) (h : Slt W A' m c' ts) => leftPub_ok p c N A' m c' ts W hg hN h hh
  have HA := hid fun (A' : Option Addr) (c' : Nat) (W : World) (h : Sl W A' 1 c' ([a].map (Value.int .i64))) => gameLaw p c A' 1 c' [a] W h true ha
  have g1 : decide (9 < m) = false := decide_eq_false h9
  have g2 : decide (9 < (m : Int)) = false := decide_eq_false (by omega)
  have H3 := hid fun (A' : Option Addr) (c' : Nat) (W : World) (h : Slt W A' m c' ts) => nextPub_ok p c N A' m c' ts W h hg0 hN hh hl
  have H2 := hid fun (A' : Option Addr) (c' : Nat) (W : World) (h : Slt W A' m c' ts) => worstPub_ok p c a N A' m c' ts W h ha hN hh hl
  have gl : (((leftL c p N ts).length : Int) == 0) = false := by
    rw [beq_eq_false_iff_ne]
    intro h
    exact hl (List.eq_nil_of_length_eq_zero (by omega))
  have gl2 : ((leftL c p N ts).length == 0) = false := by
    rw [beq_eq_false_iff_ne]
    intro h
    exact hl (List.eq_nil_of_length_eq_zero h)
  have hnx := next_best (c := c) (p := p) (N := N) (l := leftL c p N ts) (by omega)
  have ha2 := (gameOk_iff.1 ha).2 a (by simp)
  rw [hN] at ha2
  have hnw := hnx.2 a ha2
  have hga : gameOk p c [nextL c p N (leftL c p N ts)] = true := gameOk_iff.2 ⟨hg, by intro x hx; simp at hx; subst hx; rw [hN]; exact hnx.1⟩
  have H4 := hid fun (A' : Option Addr) (c' : Nat) (W : World) (h : Slt W A' m c' ts) => worstPub_ok p c (nextL c p N (leftL c p N ts)) N A' m c' ts W h hga hN hh hl
  have H5 := hid fun (A' : Option Addr) (c' : Nat) (b v : Nat) (hb : b ≤ p) (hv : v ≤ p) (W : World) (h : Slt W A' (m + 1) c' (ts ++ [(a, (b : Int), (v : Int))])) => (show Calls Try.prog 40 #[.int .i64 p, .int .i64 c, .slice A' (m + 1) c'] W fun e w' => ∃ A2 c2, e = .returned (.tuple #[.slice A2 (partL c p (leftL c p N ts) a (mkAt p (b * (p + 1) + v))).length c2, .int .i64 0]) ∧ w'.ownsRow W.heap.size 3 1 (.slice A2 (partL c p (leftL c p N ts) a (mkAt p (b * (p + 1) + v))).length c2) (partL c p (leftL c p N ts) a (mkAt p (b * (p + 1) + v))).length ((partL c p (leftL c p N ts) a (mkAt p (b * (p + 1) + v))).map (Value.int .i64)) ∧ Below W.heap.size W w' from by
    have h0 : histOk p N (ts ++ [(a, (b : Int), (v : Int))]) = true := by
      refine hist_iff.2 ⟨by simp; omega, fun x hx => ?_⟩
      rcases List.mem_append.1 hx with hx | hx
      · exact htri x hx
      · simp at hx
        subst hx
        simp only [triOk]
        omega
    have := leftPub_ok p c N A' (m + 1) c' _ W hg hN h h0
    rw [left_more] at this
    rw [mkAt_two hv]
    exact this)
  have hca := cat_all h2 h3 h4 hr a
  have hmo := most_all h2 h3 h4 (leftL c p N ts) a
  have hcl := cat_len c p (leftL c p N ts) a
  have HE := hid fun (A' B' : Option Addr) (c' d' : Nat) (W : World) (h : Sl W A' (leftL c p N ts).length c' ((leftL c p N ts).map (Value.int .i64))) (h' : Sl W B' (leftL c p N ts).length d' ((leftL c p N ts).map (Value.int .i64))) => (show Calls Try.prog 37 #[.slice A' (leftL c p N ts).length c', .slice B' (leftL c p N ts).length d'] W fun e w' => e = .returned (.bool true) ∧ Below W.heap.size W w' from by
    have := equalInts A' B' (leftL c p N ts).length c' (leftL c p N ts).length d' (leftL c p N ts) (leftL c p N ts) W h h'
    simpa using this)
  have hlp : 0 < (leftL c p N ts).length := by
    rcases Nat.eq_zero_or_pos (leftL c p N ts).length with h | h
    · exact absurd (List.eq_nil_of_length_eq_zero h) hl
    · exact h
  have HPL := hid (part_len_le c p (leftL c p N ts) a)
  clear hT hg hN hsl hh hg0 h10 htri hr ha hl hnx hga ha2
  generalize leftL c p N ts = l at *
  generalize nextL c p N l = nx at *
  generalize hwa : worstL c p l a = wa at *
  generalize worstL c p l nx = wn at *
  have g3 : decide (wn ≤ wa) = true := decide_eq_true hnw
  have g4 : decide ((wn : Int) ≤ (wa : Int)) = true := decide_eq_true (by omega)
  have g5 : ((wa : Int) == (wa : Int)) = true := by simp
  have HCA := hid hca; have HMO := hid hmo; have HCL := hid hcl
  clear hca hmo hcl hwa hnw
  have HB0 := hid (Below.refl w.heap.size w)
  go_enter Try.func17, Try.ntmps17
  go_wp2_with fail
  refine (HT.out.run _ HB0.out).mono ?_; rintro e w1 ⟨A1, c1, rfl, ho, hb⟩
  have HB1 := hid (below_call HB0.out hb HB0.out.size)
  have HS1_1 := hid (Slt.of_own ho)
  clear ho
  clear hb
  go_wp2_with fail
  refine (H1.out _ _ _ HS1_1.out).mono ?_; rintro e w2 ⟨A2, c2, rfl, ho, hb⟩
  have HB2 := hid (below_call HB1.out hb HB1.out.size)
  have SL_2 := hid (Sl.of_own ho)
  clear ho
  clear hb
  go_wp2_with fail
  have HB3 := hid (HB2.out.alloc HB2.out.size (.cells #[.int .i64 a] 3))
  have SL_3 := hid (SL_2.out.alloc (.cells #[.int .i64 a] 3))
  refine (HA.out _ _ _ (Sl.new _ #[.int .i64 a] 3 rfl (by simp))).mono ?_; rintro e w' ⟨rfl, rfl⟩
  go_wp2_with fail
  refine (HT.out.run _ HB3.out).mono ?_; rintro e w4 ⟨A4, c4, rfl, ho, hb⟩
  have HB4 := hid (below_call HB3.out hb HB3.out.size)
  have SL_4 := hid (SL_3.out.below hb)
  have HS2_4 := hid (Slt.of_own ho)
  clear ho
  clear hb
  go_wp2_with fail
  refine (H2.out _ _ _ HS2_4.out).mono ?_; rintro e w5 ⟨rfl, hb⟩
  have HB5 := hid (below_call HB4.out hb HB4.out.size)
  have SL_5 := hid (SL_4.out.below hb)
  clear hb
  go_wp2_with fail
  refine (HT.out.run _ HB5.out).mono ?_; rintro e w6 ⟨A6, c6, rfl, ho, hb⟩
  have HB6 := hid (below_call HB5.out hb HB5.out.size)
  have SL_6 := hid (SL_5.out.below hb)
  have HS3_6 := hid (Slt.of_own ho)
  clear ho
  clear hb
  go_wp2_with fail
  refine (H3.out _ _ _ HS3_6.out).mono ?_; rintro e w7 ⟨rfl, hb⟩
  have HB7 := hid (below_call HB6.out hb HB6.out.size)
  have SL_7 := hid (SL_6.out.below hb)
  clear hb
  go_wp2
  have hz7 := HB7.out.size
  go_loopg [15, 16, 91] (p + 1) (fun g al mo i wr => ∃ b : Nat, g + b = p + 1 ∧ i = .int .i64 b ∧ mo = .int .i64 (mostL c p l a (b * (p + 1))) ∧ (∃ (k : Nat) (A' : Option Addr) (c' : Nat), al = .slice A' k c' ∧ Hid (wr.ownsRow w7.heap.size 3 1 (.slice A' k c') k ((catL c p l a (b * (p + 1))).map (Value.int .i64)))) ∧ Hid (Below w7.heap.size w7 wr))
  case atStart =>
    refine ⟨0, by omega, rfl, by simp [mostL], ⟨0, none, 0, rfl, ?_⟩, hid (Below.refl _ _)⟩
    have e : catL c p l a (0 * (p + 1)) = [] := by rw [Nat.zero_mul]; rfl
    rw [e]
    exact hid (World.ownsRow_nil _ _ _ _)
  case round =>
    obtain ⟨b, hb, rfl, rfl, ⟨k0, A', c', rfl, hO⟩, hW⟩ := hrel
    have HBB := hid hb
    by_cases hlt : b < p + 1
    · have gb : decide ((b : Int) < (p : Int) + 1) = true := decide_eq_true (by omega)
      clear hb
      go_wp2
      obtain ⟨gO, rfl⟩ : ∃ g, g = gk := ⟨_, rfl⟩
      go_loopg [15, 16, 96] (p + 1) (fun g al mo i wr => ∃ v : Nat, g + v = p + 1 ∧ i = .int .i64 v ∧ mo = .int .i64 (mostL c p l a (b * (p + 1) + v)) ∧ (∃ (k : Nat) (A' : Option Addr) (c' : Nat), al = .slice A' k c' ∧ Hid (wr.ownsRow w7.heap.size 3 1 (.slice A' k c') k ((catL c p l a (b * (p + 1) + v)).map (Value.int .i64)))) ∧ Hid (Below w7.heap.size w7 wr))
      case atStart => exact ⟨0, by omega, rfl, rfl, ⟨k0, A', c', rfl, hO⟩, hW⟩
      case round =>
        obtain ⟨v, hv, rfl, rfl, ⟨k1, A1, c1, rfl, hO1⟩, hW1⟩ := hrel
        have HV := hid hv
        have hzr := hW1.out.size
        by_cases hltv : v < p + 1
        · have hk1 : k1 = (catL c p l a (b * (p + 1) + v)).length := by have := hO1.out.1; simpa using this.symm
          have hkb : k1 ≤ 10000 := by
            have h0 := HCL.out (b * (p + 1) + v)
            have h7 : b * (p + 1) ≤ 4 * 5 := Nat.mul_le_mul (by omega) (by omega)
            have h8 : (b * (p + 1) + v) * l.length ≤ 25 * 256 := Nat.mul_le_mul (by omega) (by omega)
            omega
          have HT1 := hid (HT.out.run wr (below_call HB7.out hW1.out hz7))
          have HM := hid (show mostL c p l a (b * (p + 1) + (v + 1)) = max (mostL c p l a (b * (p + 1) + v)) (partL c p l a (mkAt p (b * (p + 1) + v))).length from rfl)
          have HC := hid (show catL c p l a (b * (p + 1) + (v + 1)) = catL c p l a (b * (p + 1) + v) ++ partL c p l a (mkAt p (b * (p + 1) + v)) from rfl)
          have hpl := HPL.out (mkAt p (b * (p + 1) + v))
          have HH := hid (fun A' c' W => H5.out A' c' b v (by omega) (by omega) W)
          generalize partL c p l a (mkAt p (b * (p + 1) + v)) = part at *
          generalize mostL c p l a (b * (p + 1) + v) = mo at *
          generalize catL c p l a (b * (p + 1) + v) = cat at *
          have gv : decide ((v : Int) < (p : Int) + 1) = true := decide_eq_true (by omega)
          have HPB := hid (show part.length ≤ 256 by omega)
          have HKB := hid hkb
          clear hv hk1 hkb hpl
          go_wp2_with fail
          refine HT1.out.mono ?_; rintro e u1 ⟨B1, d1, rfl, ho, hb⟩
          have HZ1 := hid hb; have HX1 := hid ho; have hzu := hb.size
          clear hb ho
          go_wp2_with (at_builtin; refine push1 TT u1 #[.int .i64 a, .int .i64 b, .int .i64 v] _ _ _ _ HX1.out _ _ rfl rfl rfl rfl rfl (by simp [Value.oneCell']) (by omega) (by omega) (by omega) ?_; intro v1 u2 hown1 hgr; have hb2 : Below wr.heap.size wr u2 := below_push HZ1.out HX1.out hgr (by omega) (Nat.le_refl _); obtain ⟨B2, d2, rfl⟩ := own_form hown1; have HX2 := hid hown1; have HZ2 := hid hb2; clear hown1 hgr hb2)
          have hslt : Slt u2 B2 (m + 1) d2 (ts ++ [(a, (b : Int), (v : Int))]) := Slt.of_own (by rw [flat3_snoc]; exact HX2.out)
          refine (HH.out B2 d2 u2 hslt).mono ?_; rintro e u3 ⟨B3, d3, rfl, ho, hb⟩
          have HZ3 := hid (below_call HZ2.out hb HZ2.out.size)
          have HX3 := hid (Sl.of_own ho)
          have HY3 := hid (own_below hO1.out HZ3.out)
          have hz3 := HZ3.out.size
          have HW3 := hid (below_call hW1.out HZ3.out hzr)
          have q1 := HPB.out; have q2 := HKB.out
          clear hb ho hslt
          go_wp2_with (at_builtin; refine pushAll u3 _ _ _ cat HY3.out B3 _ d3 part HX3.out _ _ rfl rfl rfl rfl (by omega) (by omega) ?_; intro v1 u4 hown1 hgr; have hb4 : Below w7.heap.size w7 u4 := below_own HW3.out HY3.out hgr (by omega) (Nat.le_refl _); obtain ⟨B4, d4, rfl⟩ := own_form hown1; have HX4 := hid hown1; have HZ4 := hid hb4; clear hown1 hgr hb4)
          all_goals
            go_roundg (gk - 1)
            case measure => have := HV.out; omega
            case rel => exact ⟨v + 1, by have := HV.out; omega, by go_num, by rw [HM.out]; congr 2; omega, ⟨_, B4, d4, rfl, by rw [HC.out]; exact HX4⟩, HZ4⟩
        · obtain rfl : v = p + 1 := by omega
          have e : b * (p + 1) + (p + 1) = (b + 1) * (p + 1) := (Nat.succ_mul b (p + 1)).symm
          have E := hid e
          clear hv e
          go_wp2
          go_roundg (gO - 1)
          case measure => have := HBB.out; omega
          case rel => exact ⟨b + 1, by have := HBB.out; omega, by go_num, by rw [← E.out], ⟨k1, A1, c1, rfl, by rw [← E.out]; exact hO1⟩, hW1⟩
    · obtain rfl : b = p + 1 := by omega
      have hzr := hW.out.size
      have hk0 : k0 = l.length := by
        have h0 := hO.out.1
        have h1 : (sortI (catL c p l a ((p + 1) * (p + 1)))).length = (catL c p l a ((p + 1) * (p + 1))).length := List.length_mergeSort ..
        rw [HCA.out] at h1
        simp at h0
        omega
      subst hk0
      have hS := sortS w7.heap.size (.slice A' l.length c') l.length _ wr hO.out hlp (by omega)
      rw [HCA.out] at hS
      rw [HMO.out]
      have HS := hid hS
      clear hb hS
      go_wp2_with fail
      refine HS.out.mono ?_; rintro e u1 ⟨rfl, ho, hg⟩
      have HW1 := hid (below_own hW.out hO.out hg (by omega) (Nat.le_refl _))
      have HX1 := hid (Sl.of_own ho)
      have HC1 := hid (below_call HB7.out HW1.out hz7)
      have HL1 := hid (SL_7.out.below HW1.out)
      clear ho hg
      go_wp2_with fail
      refine (HT.out.run _ HC1.out).mono ?_; rintro e u2 ⟨B2, d2, rfl, ho, hb⟩
      have HC2 := hid (below_call HC1.out hb HC1.out.size)
      have HX2 := hid (HX1.out.below hb); have HL2 := hid (HL1.out.below hb)
      have hslt : Slt u2 B2 m d2 ts := Slt.of_own ho
      have HSL := hid hslt
      clear hb ho hslt
      go_wp2_with fail
      refine (H4.out _ _ _ HSL.out).mono ?_; rintro e u3 ⟨rfl, hb⟩
      have HC3 := hid (below_call HC2.out hb HC2.out.size)
      have HX3 := hid (HX2.out.below hb); have HL3 := hid (HL2.out.below hb)
      clear hb
      go_wp2_with fail
      refine (HE.out _ _ _ _ _ HX3.out HL3.out).mono ?_; rintro e u4 ⟨rfl, hb⟩
      have HC4 := hid (below_call HC3.out hb HC3.out.size)
      clear hb
      go_wp2_with fail
      refine (awake _).mono ?_; rintro e u5 ⟨rfl, hb⟩
      have HC5 := hid (below_call HC4.out hb HC4.out.size)
      clear hb
      go_wp2
      go_ret
      exact ⟨rfl, HC5.out⟩

theorem guessParts_walk (w : World) (p : Int) (_ : (Lit.int .i64 p).wf = true) (c : Int) (_ : (Lit.int .i64 c).wf = true) (A : Option Addr) (n cp : Nat) (hs : List Tri) (hsl : Slt w A n cp hs) (a : Int) (_ : (Lit.int .i64 a).wf = true) :
    Calls Try.prog 17 #[.int .i64 p, .int .i64 c, .slice A n cp, .int .i64 a] w fun e w' => e = .returned (.bool true) ∧ Below w.heap.size w w' := by
  cases hg : gameOk p c []
  · exact guessParts_no w p c A n cp hs hsl a hg
  · obtain ⟨q, N, rfl, hN, _⟩ := game_nat hg
    have hp := (gameOk_iff.1 hg).1
    cases hh : histOk q N hs
    · exact guessParts_bad w q c N A n cp hs hsl a hp hN hh
    · cases ha : gameOk q c [a]
      · exact guessParts_x w q c N A n cp hs hsl a hp hN hh ha
      · by_cases h9 : 9 < n
        · exact guessParts_ten w q c N A n cp hs hsl a hp hN hh ha h9
        · by_cases hl : leftL c q N hs = []
          · exact guessParts_none w q c N A n cp hs hsl a hp hN hh ha h9 hl
          · exact guessParts_full w q c N A n cp hs hsl a hp hN hh ha h9 hl
end Go.Proofs.Ytdclmhmdkhpekaa
