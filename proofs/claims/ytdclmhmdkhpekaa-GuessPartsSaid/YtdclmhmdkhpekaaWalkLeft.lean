/- The walk of the law GuessLeft. No condition. -/
import Derived.Test.YtdclmhmdkhpekaaNextQ
import Derived.Test.YtdclmhmdkhpekaaRefH
import Derived.Test.YtdclmhmdkhpekaaClone
import Derived.Test.YtdclmhmdkhpekaaWalkMarks
namespace Go.Proofs.Ytdclmhmdkhpekaa
open Go.RowKit Go.Maps

/-- What the law's triples makes of a history. -/
structure Trip (w : World) (A : Option Addr) (n cp : Nat) (hs : List Tri) (m : Nat) (ts : List Tri) : Prop where
  run : ∀ W, Below w.heap.size w W → Calls Try.prog 41 #[.slice A n cp] W fun e w' => ∃ A' c', e = .returned (.slice A' m c') ∧ w'.ownsRow W.heap.size 65 3 (.slice A' m c') m (flat3 ts) ∧ Below W.heap.size W w'
  hist : ∀ p N, histOk p N ts = histOk p N hs
  same : hs.length ≤ 10 → ts = hs ∧ m = n
theorem trip_of {w : World} {A : Option Addr} {n cp : Nat} {hs : List Tri} (h : Slt w A n cp hs) : ∃ m ts, Trip w A n cp hs m ts := by
  have hl := h.len
  refine ⟨min n 13, hs.take (min n 13), fun W hW => lawTriples A n cp hs W (h.below hW), fun p N => ?_, fun h10 => ?_⟩
  · by_cases h13 : n ≤ 13
    · rw [Nat.min_eq_left h13, List.take_of_length_le (by omega)]
    · have e1 : histOk p N hs = false := by
        cases e : histOk p N hs
        · rfl
        · have := (hist_iff.1 e).1; omega
      rw [e1]
      cases e : histOk p N (hs.take (min n 13))
      · rfl
      · have := (hist_iff.1 e).1
        simp at this
        omega
  · rw [Nat.min_eq_left (by omega), List.take_of_length_le (by omega)]
    exact ⟨rfl, rfl⟩
theorem bad_of {p c : Int} {xs : List Int} {hs ts : List Tri} (he : ∀ p N, histOk p N ts = histOk p N hs) (h : BadGame p c xs hs) : BadGame p c xs ts := by
  unfold BadGame at *
  rw [he]
  exact h

set_option maxRecDepth 100000 in
set_option maxHeartbeats 4000000 in
theorem guessLeft_no (w : World) (p c : Int) (A : Option Addr) (n cp : Nat) (hs : List Tri) (hsl : Slt w A n cp hs) (a : Int) (hg : gameOk p c [] = false) :
    Calls Try.prog 14 #[.int .i64 p, .int .i64 c, .slice A n cp, .int .i64 a] w fun e w' => e = .returned (.bool true) ∧ Below w.heap.size w w' := by
  have hgA : gameOk p c [a] = false := by
    cases e : gameOk p c [a]
    · rfl
    · have h2 := (gameOk_iff.1 e).1
      have h3 : gameOk p c [] = true := gameOk_iff.2 ⟨h2, by simp⟩
      rw [hg] at h3; cases h3
  obtain ⟨m, ts, hT⟩ := trip_of hsl
  have HT := hid hT
  have H1 := hid fun (A' : Option Addr) (c' : Nat) (W : World) => leftPub_no p c A' m c' W hg
  have H2 := hid fun (A' : Option Addr) (c' : Nat) (W : World) (h : Slt W A' m c' ts) => worstPub_bad p c a A' m c' ts W h (.inl hgA)
  have H3 := hid fun (A' : Option Addr) (c' : Nat) (W : World) (h : Slt W A' m c' ts) => nextPub_bad p c A' m c' ts W h (.inl hg)
  have HG := hid fun W => gameLaw p c none 0 0 [] W (Sl.nil W) false hg
  clear hgA hT hg hsl
  have HB0 := hid (Below.refl w.heap.size w)
  go_enter Try.func14, Try.ntmps14
  go_wp2_with fail
  refine (HT.out.run _ HB0.out).mono ?_; rintro e w1 ⟨A1, c1, rfl, ho, hb⟩
  have HB1 := hid (below_call HB0.out hb HB0.out.size)
  have HS1_1 := hid (Slt.of_own ho)
  clear ho
  clear hb
  go_wp2_with fail
  refine (H1.out _ _ _).mono ?_; rintro e w2 ⟨rfl, hb⟩
  have HB2 := hid (below_call HB1.out hb HB1.out.size)
  have HS1_2 := hid (HS1_1.out.below hb)
  clear hb
  go_wp2_with fail
  refine (HT.out.run _ HB2.out).mono ?_; rintro e w3 ⟨A3, c3, rfl, ho, hb⟩
  have HB3 := hid (below_call HB2.out hb HB2.out.size)
  have HS1_3 := hid (HS1_2.out.below hb)
  have HS2_3 := hid (Slt.of_own ho)
  clear ho
  clear hb
  go_wp2_with fail
  refine (H2.out _ _ _ HS2_3.out).mono ?_; rintro e w4 ⟨rfl, hb⟩
  have HB4 := hid (below_call HB3.out hb HB3.out.size)
  have HS1_4 := hid (HS1_3.out.below hb)
  clear hb
  go_wp2_with fail
  refine (HT.out.run _ HB4.out).mono ?_; rintro e w5 ⟨A5, c5, rfl, ho, hb⟩
  have HB5 := hid (below_call HB4.out hb HB4.out.size)
  have HS1_5 := hid (HS1_4.out.below hb)
  have HS3_5 := hid (Slt.of_own ho)
  clear ho
  clear hb
  go_wp2_with fail
  refine (H3.out _ _ _ HS3_5.out).mono ?_; rintro e w6 ⟨rfl, hb⟩
  have HB6 := hid (below_call HB5.out hb HB5.out.size)
  have HS1_6 := hid (HS1_5.out.below hb)
  clear hb
  go_wp2_with fail
  refine (HG.out _).mono ?_; rintro e w' ⟨rfl, rfl⟩
  go_wp2_with fail
  refine (awake _).mono ?_; rintro e w7 ⟨rfl, hb⟩
  have HB7 := hid (below_call HB6.out hb HB6.out.size)
  have HS1_7 := hid (HS1_6.out.below hb)
  clear hb
  go_wp2
  go_ret
  exact ⟨rfl, HB7.out⟩

set_option maxRecDepth 100000 in
set_option maxHeartbeats 4000000 in
theorem guessLeft_bad (w : World) (p : Nat) (c : Int) (N : Nat) (A : Option Addr) (n cp : Nat) (hs : List Tri) (hsl : Slt w A n cp hs) (a : Int) (hg : 0 < codes p c) (hN : codes p c = N) (hh : histOk p N hs = false) :
    Calls Try.prog 14 #[.int .i64 p, .int .i64 c, .slice A n cp, .int .i64 a] w fun e w' => e = .returned (.bool true) ∧ Below w.heap.size w w' := by
  obtain ⟨⟨h1, h2⟩, ⟨h3, h4⟩, h5, h6⟩ := game_facts hg hN
  obtain ⟨m, ts, hT⟩ := trip_of hsl
  have hht : histOk p N ts = false := by rw [hT.hist]; exact hh
  have hg0 : gameOk p c [] = true := gameOk_iff.2 ⟨hg, by simp⟩
  have hbA : BadGame p c [a] ts := by
    cases e : gameOk p c [a]
    · exact .inl e
    · exact .inr ⟨e, by rw [hN]; simpa using hht⟩
  have hb0 : BadGame p c [] ts := .inr ⟨hg0, by rw [hN]; simpa using hht⟩
  have HT := hid hT
  have H1 := hid fun (A' : Option Addr) (c' : Nat) (W : World) (h : Slt W A' m c' ts) => leftPub_bad p c N A' m c' ts W hg hN h hht
  have H2 := hid fun (A' : Option Addr) (c' : Nat) (W : World) (h : Slt W A' m c' ts) => worstPub_bad p c a A' m c' ts W h hbA
  have H3 := hid fun (A' : Option Addr) (c' : Nat) (W : World) (h : Slt W A' m c' ts) => nextPub_bad p c A' m c' ts W h hb0
  have HG := hid fun W => gameLaw p c none 0 0 [] W (Sl.nil W) true hg0
  have HH := hid fun (W : World) (hb : Below w.heap.size w W) => (show Calls Try.prog 44 #[.int .i64 p, .int .i64 c, .slice A n cp] W fun e w' => e = .returned (.bool false) ∧ Below W.heap.size W w' from by rw [← hh]; exact refHist p c N A n cp hs W h2 hN (hsl.below hb))
  clear hbA hb0 hT hg hN hsl hh hht hg0
  have HB0 := hid (Below.refl w.heap.size w)
  go_enter Try.func14, Try.ntmps14
  go_wp2_with fail
  refine (HT.out.run _ HB0.out).mono ?_; rintro e w1 ⟨A1, c1, rfl, ho, hb⟩
  have HB1 := hid (below_call HB0.out hb HB0.out.size)
  have HS1_1 := hid (Slt.of_own ho)
  clear ho
  clear hb
  go_wp2_with fail
  refine (H1.out _ _ _ HS1_1.out).mono ?_; rintro e w2 ⟨rfl, hb⟩
  have HB2 := hid (below_call HB1.out hb HB1.out.size)
  clear hb
  go_wp2_with fail
  refine (HT.out.run _ HB2.out).mono ?_; rintro e w3 ⟨A3, c3, rfl, ho, hb⟩
  have HB3 := hid (below_call HB2.out hb HB2.out.size)
  have HS2_3 := hid (Slt.of_own ho)
  clear ho
  clear hb
  go_wp2_with fail
  refine (H2.out _ _ _ HS2_3.out).mono ?_; rintro e w4 ⟨rfl, hb⟩
  have HB4 := hid (below_call HB3.out hb HB3.out.size)
  clear hb
  go_wp2_with fail
  refine (HT.out.run _ HB4.out).mono ?_; rintro e w5 ⟨A5, c5, rfl, ho, hb⟩
  have HB5 := hid (below_call HB4.out hb HB4.out.size)
  have HS3_5 := hid (Slt.of_own ho)
  clear ho
  clear hb
  go_wp2_with fail
  refine (H3.out _ _ _ HS3_5.out).mono ?_; rintro e w6 ⟨rfl, hb⟩
  have HB6 := hid (below_call HB5.out hb HB5.out.size)
  clear hb
  go_wp2_with fail
  refine (HG.out _).mono ?_; rintro e w' ⟨rfl, rfl⟩
  go_wp2_with fail
  refine (HH.out _ HB6.out).mono ?_; rintro e w7 ⟨rfl, hb⟩
  have HB7 := hid (below_call HB6.out hb HB6.out.size)
  clear hb
  go_wp2_with fail
  refine (awake _).mono ?_; rintro e w8 ⟨rfl, hb⟩
  have HB8 := hid (below_call HB7.out hb HB7.out.size)
  clear hb
  go_wp2
  go_ret
  exact ⟨rfl, HB8.out⟩

set_option maxRecDepth 100000 in
set_option maxHeartbeats 4000000 in
theorem guessLeft_ny (w : World) (p : Nat) (c : Int) (N : Nat) (A : Option Addr) (n cp : Nat) (hs : List Tri) (hsl : Slt w A n cp hs) (a : Int) (hg : 0 < codes p c) (hN : codes p c = N) (hh : histOk p N hs = true) (hl : leftL c p N hs = []) (ha : gameOk p c [a] = true) :
    Calls Try.prog 14 #[.int .i64 p, .int .i64 c, .slice A n cp, .int .i64 a] w fun e w' => e = .returned (.bool true) ∧ Below w.heap.size w w' := by
  obtain ⟨⟨h1, h2⟩, ⟨h3, h4⟩, h5, h6⟩ := game_facts hg hN
  obtain ⟨m, ts, hT⟩ := trip_of hsl
  obtain ⟨h10, htri⟩ := hist_iff.1 hh
  obtain ⟨rfl, rfl⟩ := hT.same h10
  have hg0 : gameOk p c [] = true := gameOk_iff.2 ⟨hg, by simp⟩
  have hr := left_rise c p N ts
  have hle := left_len c p N ts
  have hln := hsl.len
  have HT := hid hT
  have H1 := hid fun (A' : Option Addr) (c' : Nat) (W : World) (h : Slt W A' m c' ts) => leftPub_ok p c N A' m c' ts W hg hN h hh
  have HG := hid fun W => gameLaw p c none 0 0 [] W (Sl.nil W) true hg0
  have HH := hid fun (W : World) (hb : Below w.heap.size w W) => (show Calls Try.prog 44 #[.int .i64 p, .int .i64 c, .slice A m cp] W fun e w' => e = .returned (.bool true) ∧ Below W.heap.size W w' from by rw [← hh]; exact refHist p c N A m cp ts W h2 hN (hsl.below hb))
  have HL := hid fun (W : World) (hb : Below w.heap.size w W) => refLeft p c N A m cp ts W h2 h3 h4 h6 hN (hsl.below hb) (fun x hx => by have := (htri x hx).1; omega) (by omega)
  have HE := hid fun (A' B' : Option Addr) (c' d' : Nat) (W : World) (h : Sl W A' (leftL c p N ts).length c' ((leftL c p N ts).map (Value.int .i64))) (h' : Sl W B' (leftL c p N ts).length d' ((leftL c p N ts).map (Value.int .i64))) => (show Calls Try.prog 37 #[.slice A' (leftL c p N ts).length c', .slice B' (leftL c p N ts).length d'] W fun e w' => e = .returned (.bool true) ∧ Below W.heap.size W w' from by
    have := equalInts A' B' (leftL c p N ts).length c' (leftL c p N ts).length d' (leftL c p N ts) (leftL c p N ts) W h h'
    simpa using this)
  have H2 := hid fun (A' : Option Addr) (c' : Nat) (W : World) (h : Slt W A' m c' ts) => worstPub_none p c a N A' m c' ts W h ha hN hh hl
  have HA := hid fun (A' : Option Addr) (c' : Nat) (W : World) (h : Sl W A' 1 c' ([a].map (Value.int .i64))) => gameLaw p c A' 1 c' [a] W h true ha
  have H3 := hid fun (A' : Option Addr) (c' : Nat) (W : World) (h : Slt W A' m c' ts) => nextPub_none p c N A' m c' ts W h hg0 hN hh hl
  rw [hl] at H1 HL HE
  have gl : ((([] : List Int).length : Int) == 0) = true := rfl
  clear hT hg hN hsl hh hg0 h10 htri hr hle ha
  have HB0 := hid (Below.refl w.heap.size w)
  go_enter Try.func14, Try.ntmps14
  go_wp2_with fail
  refine (HT.out.run _ HB0.out).mono ?_; rintro e w1 ⟨A1, c1, rfl, ho, hb⟩
  have HB1 := hid (below_call HB0.out hb HB0.out.size)
  have HS1_1 := hid (Slt.of_own ho)
  clear ho
  clear hb
  go_wp2_with fail
  refine (H1.out _ _ _ HS1_1.out).mono ?_; rintro e w2 ⟨A2, c2, rfl, ho, hb⟩
  have HB2 := hid (below_call HB1.out hb HB1.out.size)
  have SL_2 := hid (Sl.of_own ho)
  clear ho
  clear hb
  go_wp2_with fail
  refine (HT.out.run _ HB2.out).mono ?_; rintro e w3 ⟨A3, c3, rfl, ho, hb⟩
  have HB3 := hid (below_call HB2.out hb HB2.out.size)
  have SL_3 := hid (SL_2.out.below hb)
  have HS2_3 := hid (Slt.of_own ho)
  clear ho
  clear hb
  go_wp2_with fail
  refine (H2.out _ _ _ HS2_3.out).mono ?_; rintro e w4 ⟨rfl, hb⟩
  have HB4 := hid (below_call HB3.out hb HB3.out.size)
  have SL_4 := hid (SL_3.out.below hb)
  clear hb
  go_wp2_with fail
  refine (HT.out.run _ HB4.out).mono ?_; rintro e w5 ⟨A5, c5, rfl, ho, hb⟩
  have HB5 := hid (below_call HB4.out hb HB4.out.size)
  have SL_5 := hid (SL_4.out.below hb)
  have HS3_5 := hid (Slt.of_own ho)
  clear ho
  clear hb
  go_wp2_with fail
  refine (H3.out _ _ _ HS3_5.out).mono ?_; rintro e w6 ⟨rfl, hb⟩
  have HB6 := hid (below_call HB5.out hb HB5.out.size)
  have SL_6 := hid (SL_5.out.below hb)
  clear hb
  go_wp2_with fail
  refine (HG.out _).mono ?_; rintro e w' ⟨rfl, rfl⟩
  go_wp2_with fail
  refine (HH.out _ HB6.out).mono ?_; rintro e w7 ⟨rfl, hb⟩
  have HB7 := hid (below_call HB6.out hb HB6.out.size)
  have SL_7 := hid (SL_6.out.below hb)
  clear hb
  go_wp2_with fail
  refine (HL.out _ HB7.out).mono ?_; rintro e w8 ⟨A8, c8, rfl, ho, hb⟩
  have HB8 := hid (below_call HB7.out hb HB7.out.size)
  have SL_8 := hid (SL_7.out.below hb)
  have SR_8 := hid (Sl.of_own ho)
  clear ho
  clear hb
  go_wp2_with fail
  refine (HE.out _ _ _ _ _ SL_8.out SR_8.out).mono ?_; rintro e w9 ⟨rfl, hb⟩
  have HB9 := hid (below_call HB8.out hb HB8.out.size)
  have SL_9 := hid (SL_8.out.below hb)
  have SR_9 := hid (SR_8.out.below hb)
  clear hb
  go_wp2_with fail
  refine (awake _).mono ?_; rintro e w10 ⟨rfl, hb⟩
  have HB10 := hid (below_call HB9.out hb HB9.out.size)
  have SL_10 := hid (SL_9.out.below hb)
  have SR_10 := hid (SR_9.out.below hb)
  clear hb
  go_wp2_with fail
  have HB11 := hid (HB10.out.alloc HB10.out.size (.cells #[.int .i64 a] 3))
  have SL_11 := hid (SL_10.out.alloc (.cells #[.int .i64 a] 3))
  have SR_11 := hid (SR_10.out.alloc (.cells #[.int .i64 a] 3))
  refine (HA.out _ _ _ (Sl.new _ #[.int .i64 a] 3 rfl (by simp))).mono ?_; rintro e w' ⟨rfl, rfl⟩
  go_wp2
  go_ret
  exact ⟨rfl, HB11.out⟩

set_option maxRecDepth 100000 in
set_option maxHeartbeats 4000000 in
theorem guessLeft_nx (w : World) (p : Nat) (c : Int) (N : Nat) (A : Option Addr) (n cp : Nat) (hs : List Tri) (hsl : Slt w A n cp hs) (a : Int) (hg : 0 < codes p c) (hN : codes p c = N) (hh : histOk p N hs = true) (hl : leftL c p N hs = []) (ha : gameOk p c [a] = false) :
    Calls Try.prog 14 #[.int .i64 p, .int .i64 c, .slice A n cp, .int .i64 a] w fun e w' => e = .returned (.bool true) ∧ Below w.heap.size w w' := by
  obtain ⟨⟨h1, h2⟩, ⟨h3, h4⟩, h5, h6⟩ := game_facts hg hN
  obtain ⟨m, ts, hT⟩ := trip_of hsl
  obtain ⟨h10, htri⟩ := hist_iff.1 hh
  obtain ⟨rfl, rfl⟩ := hT.same h10
  have hg0 : gameOk p c [] = true := gameOk_iff.2 ⟨hg, by simp⟩
  have hr := left_rise c p N ts
  have hle := left_len c p N ts
  have hln := hsl.len
  have HT := hid hT
  have H1 := hid fun (A' : Option Addr) (c' : Nat) (W : World) (h : Slt W A' m c' ts) => leftPub_ok p c N A' m c' ts W hg hN h hh
  have HG := hid fun W => gameLaw p c none 0 0 [] W (Sl.nil W) true hg0
  have HH := hid fun (W : World) (hb : Below w.heap.size w W) => (show Calls Try.prog 44 #[.int .i64 p, .int .i64 c, .slice A m cp] W fun e w' => e = .returned (.bool true) ∧ Below W.heap.size W w' from by rw [← hh]; exact refHist p c N A m cp ts W h2 hN (hsl.below hb))
  have HL := hid fun (W : World) (hb : Below w.heap.size w W) => refLeft p c N A m cp ts W h2 h3 h4 h6 hN (hsl.below hb) (fun x hx => by have := (htri x hx).1; omega) (by omega)
  have HE := hid fun (A' B' : Option Addr) (c' d' : Nat) (W : World) (h : Sl W A' (leftL c p N ts).length c' ((leftL c p N ts).map (Value.int .i64))) (h' : Sl W B' (leftL c p N ts).length d' ((leftL c p N ts).map (Value.int .i64))) => (show Calls Try.prog 37 #[.slice A' (leftL c p N ts).length c', .slice B' (leftL c p N ts).length d'] W fun e w' => e = .returned (.bool true) ∧ Below W.heap.size W w' from by
    have := equalInts A' B' (leftL c p N ts).length c' (leftL c p N ts).length d' (leftL c p N ts) (leftL c p N ts) W h h'
    simpa using this)
  have H2 := hid fun (A' : Option Addr) (c' : Nat) (W : World) (h : Slt W A' m c' ts) => worstPub_bad p c a A' m c' ts W h (.inl ha)
  have HA := hid fun (A' : Option Addr) (c' : Nat) (W : World) (h : Sl W A' 1 c' ([a].map (Value.int .i64))) => gameLaw p c A' 1 c' [a] W h false ha
  have H3 := hid fun (A' : Option Addr) (c' : Nat) (W : World) (h : Slt W A' m c' ts) => nextPub_none p c N A' m c' ts W h hg0 hN hh hl
  rw [hl] at H1 HL HE
  have gl : ((([] : List Int).length : Int) == 0) = true := rfl
  clear hT hg hN hsl hh hg0 h10 htri hr hle ha
  have HB0 := hid (Below.refl w.heap.size w)
  go_enter Try.func14, Try.ntmps14
  go_wp2_with fail
  refine (HT.out.run _ HB0.out).mono ?_; rintro e w1 ⟨A1, c1, rfl, ho, hb⟩
  have HB1 := hid (below_call HB0.out hb HB0.out.size)
  have HS1_1 := hid (Slt.of_own ho)
  clear ho
  clear hb
  go_wp2_with fail
  refine (H1.out _ _ _ HS1_1.out).mono ?_; rintro e w2 ⟨A2, c2, rfl, ho, hb⟩
  have HB2 := hid (below_call HB1.out hb HB1.out.size)
  have SL_2 := hid (Sl.of_own ho)
  clear ho
  clear hb
  go_wp2_with fail
  refine (HT.out.run _ HB2.out).mono ?_; rintro e w3 ⟨A3, c3, rfl, ho, hb⟩
  have HB3 := hid (below_call HB2.out hb HB2.out.size)
  have SL_3 := hid (SL_2.out.below hb)
  have HS2_3 := hid (Slt.of_own ho)
  clear ho
  clear hb
  go_wp2_with fail
  refine (H2.out _ _ _ HS2_3.out).mono ?_; rintro e w4 ⟨rfl, hb⟩
  have HB4 := hid (below_call HB3.out hb HB3.out.size)
  have SL_4 := hid (SL_3.out.below hb)
  clear hb
  go_wp2_with fail
  refine (HT.out.run _ HB4.out).mono ?_; rintro e w5 ⟨A5, c5, rfl, ho, hb⟩
  have HB5 := hid (below_call HB4.out hb HB4.out.size)
  have SL_5 := hid (SL_4.out.below hb)
  have HS3_5 := hid (Slt.of_own ho)
  clear ho
  clear hb
  go_wp2_with fail
  refine (H3.out _ _ _ HS3_5.out).mono ?_; rintro e w6 ⟨rfl, hb⟩
  have HB6 := hid (below_call HB5.out hb HB5.out.size)
  have SL_6 := hid (SL_5.out.below hb)
  clear hb
  go_wp2_with fail
  refine (HG.out _).mono ?_; rintro e w' ⟨rfl, rfl⟩
  go_wp2_with fail
  refine (HH.out _ HB6.out).mono ?_; rintro e w7 ⟨rfl, hb⟩
  have HB7 := hid (below_call HB6.out hb HB6.out.size)
  have SL_7 := hid (SL_6.out.below hb)
  clear hb
  go_wp2_with fail
  refine (HL.out _ HB7.out).mono ?_; rintro e w8 ⟨A8, c8, rfl, ho, hb⟩
  have HB8 := hid (below_call HB7.out hb HB7.out.size)
  have SL_8 := hid (SL_7.out.below hb)
  have SR_8 := hid (Sl.of_own ho)
  clear ho
  clear hb
  go_wp2_with fail
  refine (HE.out _ _ _ _ _ SL_8.out SR_8.out).mono ?_; rintro e w9 ⟨rfl, hb⟩
  have HB9 := hid (below_call HB8.out hb HB8.out.size)
  have SL_9 := hid (SL_8.out.below hb)
  have SR_9 := hid (SR_8.out.below hb)
  clear hb
  go_wp2_with fail
  refine (awake _).mono ?_; rintro e w10 ⟨rfl, hb⟩
  have HB10 := hid (below_call HB9.out hb HB9.out.size)
  have SL_10 := hid (SL_9.out.below hb)
  have SR_10 := hid (SR_9.out.below hb)
  clear hb
  go_wp2_with fail
  have HB11 := hid (HB10.out.alloc HB10.out.size (.cells #[.int .i64 a] 3))
  have SL_11 := hid (SL_10.out.alloc (.cells #[.int .i64 a] 3))
  have SR_11 := hid (SR_10.out.alloc (.cells #[.int .i64 a] 3))
  refine (HA.out _ _ _ (Sl.new _ #[.int .i64 a] 3 rfl (by simp))).mono ?_; rintro e w' ⟨rfl, rfl⟩
  go_wp2
  go_ret
  exact ⟨rfl, HB11.out⟩

set_option maxRecDepth 100000 in
set_option maxHeartbeats 4000000 in
theorem guessLeft_oy (w : World) (p : Nat) (c : Int) (N : Nat) (A : Option Addr) (n cp : Nat) (hs : List Tri) (hsl : Slt w A n cp hs) (a : Int) (hg : 0 < codes p c) (hN : codes p c = N) (hh : histOk p N hs = true) (hl : leftL c p N hs ≠ []) (ha : gameOk p c [a] = true) :
    Calls Try.prog 14 #[.int .i64 p, .int .i64 c, .slice A n cp, .int .i64 a] w fun e w' => e = .returned (.bool true) ∧ Below w.heap.size w w' := by
  obtain ⟨⟨h1, h2⟩, ⟨h3, h4⟩, h5, h6⟩ := game_facts hg hN
  obtain ⟨m, ts, hT⟩ := trip_of hsl
  obtain ⟨h10, htri⟩ := hist_iff.1 hh
  obtain ⟨rfl, rfl⟩ := hT.same h10
  have hg0 : gameOk p c [] = true := gameOk_iff.2 ⟨hg, by simp⟩
  have hr := left_rise c p N ts
  have hle := left_len c p N ts
  have hln := hsl.len
  have HT := hid hT
  have H1 := hid fun (A' : Option Addr) (c' : Nat) (W : World) (h : Slt W A' m c' ts) => leftPub_ok p c N A' m c' ts W hg hN h hh
  have HG := hid fun W => gameLaw p c none 0 0 [] W (Sl.nil W) true hg0
  have HH := hid fun (W : World) (hb : Below w.heap.size w W) => (show Calls Try.prog 44 #[.int .i64 p, .int .i64 c, .slice A m cp] W fun e w' => e = .returned (.bool true) ∧ Below W.heap.size W w' from by rw [← hh]; exact refHist p c N A m cp ts W h2 hN (hsl.below hb))
  have HL := hid fun (W : World) (hb : Below w.heap.size w W) => refLeft p c N A m cp ts W h2 h3 h4 h6 hN (hsl.below hb) (fun x hx => by have := (htri x hx).1; omega) (by omega)
  have HE := hid fun (A' B' : Option Addr) (c' d' : Nat) (W : World) (h : Sl W A' (leftL c p N ts).length c' ((leftL c p N ts).map (Value.int .i64))) (h' : Sl W B' (leftL c p N ts).length d' ((leftL c p N ts).map (Value.int .i64))) => (show Calls Try.prog 37 #[.slice A' (leftL c p N ts).length c', .slice B' (leftL c p N ts).length d'] W fun e w' => e = .returned (.bool true) ∧ Below W.heap.size W w' from by
    have := equalInts A' B' (leftL c p N ts).length c' (leftL c p N ts).length d' (leftL c p N ts) (leftL c p N ts) W h h'
    simpa using this)
  have H2 := hid fun (A' : Option Addr) (c' : Nat) (W : World) (h : Slt W A' m c' ts) => worstPub_ok p c a N A' m c' ts W h ha hN hh hl
  have HA := hid fun (A' : Option Addr) (c' : Nat) (W : World) (h : Sl W A' 1 c' ([a].map (Value.int .i64))) => gameLaw p c A' 1 c' [a] W h true ha
  have H3 := hid fun (A' : Option Addr) (c' : Nat) (W : World) (h : Slt W A' m c' ts) => nextPub_ok p c N A' m c' ts W h hg0 hN hh hl
  have HNX := hid fun (A' : Option Addr) (c' : Nat) (W : World) (h : Sl W A' (leftL c p N ts).length c' ((leftL c p N ts).map (Value.int .i64))) => refNext p c N A' (leftL c p N ts).length c' (leftL c p N ts) W h2 h3 h4 h5 h6 hN h hr
  have gl : (((leftL c p N ts).length : Int) == 0) = false := by
    rw [beq_eq_false_iff_ne]
    intro h
    exact hl (List.eq_nil_of_length_eq_zero (by omega))
  have gl2 : ((leftL c p N ts).length == 0) = false := by
    rw [beq_eq_false_iff_ne]
    intro h
    exact hl (List.eq_nil_of_length_eq_zero h)
  have gx : (nextL c p N (leftL c p N ts) == nextL c p N (leftL c p N ts)) = true := by simp
  have ha2 := (gameOk_iff.1 ha).2 a (by simp)
  rw [hN] at ha2
  have HW := hid fun (A' : Option Addr) (c' : Nat) (W : World) (h : Sl W A' (leftL c p N ts).length c' ((leftL c p N ts).map (Value.int .i64))) => refWorst p c A' (leftL c p N ts).length c' (leftL c p N ts) a W h2 h3 h4 h (fun x hx => by have := hr.mem x hx; omega) (by omega) (by omega)
  have gw : ((worstL c p (leftL c p N ts) a : Int) == (worstL c p (leftL c p N ts) a : Int)) = true := by simp
  clear hT hg hN hsl hh hg0 h10 htri hr hle hl ha
  generalize leftL c p N ts = l at *
  generalize nextL c p N l = nx at *
  generalize worstL c p l a = wo at *
  have HB0 := hid (Below.refl w.heap.size w)
  go_enter Try.func14, Try.ntmps14
  go_wp2_with fail
  refine (HT.out.run _ HB0.out).mono ?_; rintro e w1 ⟨A1, c1, rfl, ho, hb⟩
  have HB1 := hid (below_call HB0.out hb HB0.out.size)
  have HS1_1 := hid (Slt.of_own ho)
  clear ho
  clear hb
  go_wp2_with fail
  refine (H1.out _ _ _ HS1_1.out).mono ?_; rintro e w2 ⟨A2, c2, rfl, ho, hb⟩
  have HB2 := hid (below_call HB1.out hb HB1.out.size)
  have SL_2 := hid (Sl.of_own ho)
  clear ho
  clear hb
  go_wp2_with fail
  refine (HT.out.run _ HB2.out).mono ?_; rintro e w3 ⟨A3, c3, rfl, ho, hb⟩
  have HB3 := hid (below_call HB2.out hb HB2.out.size)
  have SL_3 := hid (SL_2.out.below hb)
  have HS2_3 := hid (Slt.of_own ho)
  clear ho
  clear hb
  go_wp2_with fail
  refine (H2.out _ _ _ HS2_3.out).mono ?_; rintro e w4 ⟨rfl, hb⟩
  have HB4 := hid (below_call HB3.out hb HB3.out.size)
  have SL_4 := hid (SL_3.out.below hb)
  clear hb
  go_wp2_with fail
  refine (HT.out.run _ HB4.out).mono ?_; rintro e w5 ⟨A5, c5, rfl, ho, hb⟩
  have HB5 := hid (below_call HB4.out hb HB4.out.size)
  have SL_5 := hid (SL_4.out.below hb)
  have HS3_5 := hid (Slt.of_own ho)
  clear ho
  clear hb
  go_wp2_with fail
  refine (H3.out _ _ _ HS3_5.out).mono ?_; rintro e w6 ⟨rfl, hb⟩
  have HB6 := hid (below_call HB5.out hb HB5.out.size)
  have SL_6 := hid (SL_5.out.below hb)
  clear hb
  go_wp2_with fail
  refine (HG.out _).mono ?_; rintro e w' ⟨rfl, rfl⟩
  go_wp2_with fail
  refine (HH.out _ HB6.out).mono ?_; rintro e w7 ⟨rfl, hb⟩
  have HB7 := hid (below_call HB6.out hb HB6.out.size)
  have SL_7 := hid (SL_6.out.below hb)
  clear hb
  go_wp2_with fail
  refine (HL.out _ HB7.out).mono ?_; rintro e w8 ⟨A8, c8, rfl, ho, hb⟩
  have HB8 := hid (below_call HB7.out hb HB7.out.size)
  have SL_8 := hid (SL_7.out.below hb)
  have SR_8 := hid (Sl.of_own ho)
  clear ho
  clear hb
  go_wp2_with fail
  refine (HE.out _ _ _ _ _ SL_8.out SR_8.out).mono ?_; rintro e w9 ⟨rfl, hb⟩
  have HB9 := hid (below_call HB8.out hb HB8.out.size)
  have SL_9 := hid (SL_8.out.below hb)
  have SR_9 := hid (SR_8.out.below hb)
  clear hb
  go_wp2_with fail
  refine (awake _).mono ?_; rintro e w10 ⟨rfl, hb⟩
  have HB10 := hid (below_call HB9.out hb HB9.out.size)
  have SL_10 := hid (SL_9.out.below hb)
  have SR_10 := hid (SR_9.out.below hb)
  clear hb
  go_wp2_with fail
  refine (HNX.out _ _ _ SR_10.out).mono ?_; rintro e w11 ⟨rfl, hb⟩
  have HB11 := hid (below_call HB10.out hb HB10.out.size)
  have SL_11 := hid (SL_10.out.below hb)
  have SR_11 := hid (SR_10.out.below hb)
  clear hb
  go_wp2_with fail
  have HB12 := hid (HB11.out.alloc HB11.out.size (.cells #[.int .i64 a] 3))
  have SL_12 := hid (SL_11.out.alloc (.cells #[.int .i64 a] 3))
  have SR_12 := hid (SR_11.out.alloc (.cells #[.int .i64 a] 3))
  refine (HA.out _ _ _ (Sl.new _ #[.int .i64 a] 3 rfl (by simp))).mono ?_; rintro e w' ⟨rfl, rfl⟩
  go_wp2_with fail
  refine (HW.out _ _ _ SR_12.out).mono ?_; rintro e w13 ⟨rfl, hb⟩
  have HB13 := hid (below_call HB12.out hb HB12.out.size)
  have SL_13 := hid (SL_12.out.below hb)
  have SR_13 := hid (SR_12.out.below hb)
  clear hb
  go_wp2
  go_ret
  exact ⟨rfl, HB13.out⟩

set_option maxRecDepth 100000 in
set_option maxHeartbeats 4000000 in
theorem guessLeft_ox (w : World) (p : Nat) (c : Int) (N : Nat) (A : Option Addr) (n cp : Nat) (hs : List Tri) (hsl : Slt w A n cp hs) (a : Int) (hg : 0 < codes p c) (hN : codes p c = N) (hh : histOk p N hs = true) (hl : leftL c p N hs ≠ []) (ha : gameOk p c [a] = false) :
    Calls Try.prog 14 #[.int .i64 p, .int .i64 c, .slice A n cp, .int .i64 a] w fun e w' => e = .returned (.bool true) ∧ Below w.heap.size w w' := by
  obtain ⟨⟨h1, h2⟩, ⟨h3, h4⟩, h5, h6⟩ := game_facts hg hN
  obtain ⟨m, ts, hT⟩ := trip_of hsl
  obtain ⟨h10, htri⟩ := hist_iff.1 hh
  obtain ⟨rfl, rfl⟩ := hT.same h10
  have hg0 : gameOk p c [] = true := gameOk_iff.2 ⟨hg, by simp⟩
  have hr := left_rise c p N ts
  have hle := left_len c p N ts
  have hln := hsl.len
  have HT := hid hT
  have H1 := hid fun (A' : Option Addr) (c' : Nat) (W : World) (h : Slt W A' m c' ts) => leftPub_ok p c N A' m c' ts W hg hN h hh
  have HG := hid fun W => gameLaw p c none 0 0 [] W (Sl.nil W) true hg0
  have HH := hid fun (W : World) (hb : Below w.heap.size w W) => (show Calls Try.prog 44 #[.int .i64 p, .int .i64 c, .slice A m cp] W fun e w' => e = .returned (.bool true) ∧ Below W.heap.size W w' from by rw [← hh]; exact refHist p c N A m cp ts W h2 hN (hsl.below hb))
  have HL := hid fun (W : World) (hb : Below w.heap.size w W) => refLeft p c N A m cp ts W h2 h3 h4 h6 hN (hsl.below hb) (fun x hx => by have := (htri x hx).1; omega) (by omega)
  have HE := hid fun (A' B' : Option Addr) (c' d' : Nat) (W : World) (h : Sl W A' (leftL c p N ts).length c' ((leftL c p N ts).map (Value.int .i64))) (h' : Sl W B' (leftL c p N ts).length d' ((leftL c p N ts).map (Value.int .i64))) => (show Calls Try.prog 37 #[.slice A' (leftL c p N ts).length c', .slice B' (leftL c p N ts).length d'] W fun e w' => e = .returned (.bool true) ∧ Below W.heap.size W w' from by
    have := equalInts A' B' (leftL c p N ts).length c' (leftL c p N ts).length d' (leftL c p N ts) (leftL c p N ts) W h h'
    simpa using this)
  have H2 := hid fun (A' : Option Addr) (c' : Nat) (W : World) (h : Slt W A' m c' ts) => worstPub_bad p c a A' m c' ts W h (.inl ha)
  have HA := hid fun (A' : Option Addr) (c' : Nat) (W : World) (h : Sl W A' 1 c' ([a].map (Value.int .i64))) => gameLaw p c A' 1 c' [a] W h false ha
  have H3 := hid fun (A' : Option Addr) (c' : Nat) (W : World) (h : Slt W A' m c' ts) => nextPub_ok p c N A' m c' ts W h hg0 hN hh hl
  have HNX := hid fun (A' : Option Addr) (c' : Nat) (W : World) (h : Sl W A' (leftL c p N ts).length c' ((leftL c p N ts).map (Value.int .i64))) => refNext p c N A' (leftL c p N ts).length c' (leftL c p N ts) W h2 h3 h4 h5 h6 hN h hr
  have gl : (((leftL c p N ts).length : Int) == 0) = false := by
    rw [beq_eq_false_iff_ne]
    intro h
    exact hl (List.eq_nil_of_length_eq_zero (by omega))
  have gl2 : ((leftL c p N ts).length == 0) = false := by
    rw [beq_eq_false_iff_ne]
    intro h
    exact hl (List.eq_nil_of_length_eq_zero h)
  have gx : (nextL c p N (leftL c p N ts) == nextL c p N (leftL c p N ts)) = true := by simp
  clear hT hg hN hsl hh hg0 h10 htri hr hle hl ha
  generalize leftL c p N ts = l at *
  generalize nextL c p N l = nx at *
  have HB0 := hid (Below.refl w.heap.size w)
  go_enter Try.func14, Try.ntmps14
  go_wp2_with fail
  refine (HT.out.run _ HB0.out).mono ?_; rintro e w1 ⟨A1, c1, rfl, ho, hb⟩
  have HB1 := hid (below_call HB0.out hb HB0.out.size)
  have HS1_1 := hid (Slt.of_own ho)
  clear ho
  clear hb
  go_wp2_with fail
  refine (H1.out _ _ _ HS1_1.out).mono ?_; rintro e w2 ⟨A2, c2, rfl, ho, hb⟩
  have HB2 := hid (below_call HB1.out hb HB1.out.size)
  have SL_2 := hid (Sl.of_own ho)
  clear ho
  clear hb
  go_wp2_with fail
  refine (HT.out.run _ HB2.out).mono ?_; rintro e w3 ⟨A3, c3, rfl, ho, hb⟩
  have HB3 := hid (below_call HB2.out hb HB2.out.size)
  have SL_3 := hid (SL_2.out.below hb)
  have HS2_3 := hid (Slt.of_own ho)
  clear ho
  clear hb
  go_wp2_with fail
  refine (H2.out _ _ _ HS2_3.out).mono ?_; rintro e w4 ⟨rfl, hb⟩
  have HB4 := hid (below_call HB3.out hb HB3.out.size)
  have SL_4 := hid (SL_3.out.below hb)
  clear hb
  go_wp2_with fail
  refine (HT.out.run _ HB4.out).mono ?_; rintro e w5 ⟨A5, c5, rfl, ho, hb⟩
  have HB5 := hid (below_call HB4.out hb HB4.out.size)
  have SL_5 := hid (SL_4.out.below hb)
  have HS3_5 := hid (Slt.of_own ho)
  clear ho
  clear hb
  go_wp2_with fail
  refine (H3.out _ _ _ HS3_5.out).mono ?_; rintro e w6 ⟨rfl, hb⟩
  have HB6 := hid (below_call HB5.out hb HB5.out.size)
  have SL_6 := hid (SL_5.out.below hb)
  clear hb
  go_wp2_with fail
  refine (HG.out _).mono ?_; rintro e w' ⟨rfl, rfl⟩
  go_wp2_with fail
  refine (HH.out _ HB6.out).mono ?_; rintro e w7 ⟨rfl, hb⟩
  have HB7 := hid (below_call HB6.out hb HB6.out.size)
  have SL_7 := hid (SL_6.out.below hb)
  clear hb
  go_wp2_with fail
  refine (HL.out _ HB7.out).mono ?_; rintro e w8 ⟨A8, c8, rfl, ho, hb⟩
  have HB8 := hid (below_call HB7.out hb HB7.out.size)
  have SL_8 := hid (SL_7.out.below hb)
  have SR_8 := hid (Sl.of_own ho)
  clear ho
  clear hb
  go_wp2_with fail
  refine (HE.out _ _ _ _ _ SL_8.out SR_8.out).mono ?_; rintro e w9 ⟨rfl, hb⟩
  have HB9 := hid (below_call HB8.out hb HB8.out.size)
  have SL_9 := hid (SL_8.out.below hb)
  have SR_9 := hid (SR_8.out.below hb)
  clear hb
  go_wp2_with fail
  refine (awake _).mono ?_; rintro e w10 ⟨rfl, hb⟩
  have HB10 := hid (below_call HB9.out hb HB9.out.size)
  have SL_10 := hid (SL_9.out.below hb)
  have SR_10 := hid (SR_9.out.below hb)
  clear hb
  go_wp2_with fail
  refine (HNX.out _ _ _ SR_10.out).mono ?_; rintro e w11 ⟨rfl, hb⟩
  have HB11 := hid (below_call HB10.out hb HB10.out.size)
  have SL_11 := hid (SL_10.out.below hb)
  have SR_11 := hid (SR_10.out.below hb)
  clear hb
  go_wp2_with fail
  have HB12 := hid (HB11.out.alloc HB11.out.size (.cells #[.int .i64 a] 3))
  have SL_12 := hid (SL_11.out.alloc (.cells #[.int .i64 a] 3))
  have SR_12 := hid (SR_11.out.alloc (.cells #[.int .i64 a] 3))
  refine (HA.out _ _ _ (Sl.new _ #[.int .i64 a] 3 rfl (by simp))).mono ?_; rintro e w' ⟨rfl, rfl⟩
  go_wp2
  go_ret
  exact ⟨rfl, HB12.out⟩

theorem guessLeft_walk (w : World) (p : Int) (_ : (Lit.int .i64 p).wf = true) (c : Int) (_ : (Lit.int .i64 c).wf = true) (A : Option Addr) (n cp : Nat) (hs : List Tri) (hsl : Slt w A n cp hs) (a : Int) (_ : (Lit.int .i64 a).wf = true) :
    Calls Try.prog 14 #[.int .i64 p, .int .i64 c, .slice A n cp, .int .i64 a] w fun e w' => e = .returned (.bool true) ∧ Below w.heap.size w w' := by
  cases hg : gameOk p c []
  · exact guessLeft_no w p c A n cp hs hsl a hg
  · obtain ⟨q, N, rfl, hN, _⟩ := game_nat hg
    have hp := (gameOk_iff.1 hg).1
    cases hh : histOk q N hs
    · exact guessLeft_bad w q c N A n cp hs hsl a hp hN hh
    · by_cases hl : leftL c q N hs = []
      · cases ha : gameOk q c [a]
        · exact guessLeft_nx w q c N A n cp hs hsl a hp hN hh hl ha
        · exact guessLeft_ny w q c N A n cp hs hsl a hp hN hh hl ha
      · cases ha : gameOk q c [a]
        · exact guessLeft_ox w q c N A n cp hs hsl a hp hN hh hl ha
        · exact guessLeft_oy w q c N A n cp hs hsl a hp hN hh hl ha
end Go.Proofs.Ytdclmhmdkhpekaa
