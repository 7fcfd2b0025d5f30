/- The walk of the law GuessSums. No condition. -/
import Derived.Test.YtdclmhmdkhpekaaWalkAfter
import Derived.Test.YtdclmhmdkhpekaaPascal
import Derived.Test.YtdclmhmdkhpekaaShl
namespace Go.Proofs.Ytdclmhmdkhpekaa
open Go.RowKit

theorem quiet_eq {P : Program} {f : FuncId} {args : Array Value} {w : World} {n : Nat} {v : Value}
    (h : Calls P f args (w.drewN n) fun e w' => e = .returned v ∧ w.drewN n = w') : Calls P f args (w.drewN n) fun e w'' => e = .returned v ∧ ∃ m, w'' = w.drewN m :=
  h.mono fun _ _ ⟨he, hm⟩ => ⟨he, n, hm.symm⟩

set_option maxRecDepth 100000 in
set_option maxHeartbeats 2000000 in
theorem guessSums_bad (w : World) (A : Option Addr) (n c : Nat) (xs : List Int) (hs : Sl w A n c (xs.map (Value.int .i64)))
    (B : Option Addr) (n' d : Nat) (q : List Int) (hq : Sl w B n' d (q.map (Value.int .i64))) (k : Int) (hno : ¬ (stateOk 200 xs = true ∧ askOk xs q = true)) :
    Calls Try.prog 9 #[.slice A n c, .slice B n' d, .int .i64 k] w fun e w' => e = .returned (.bool true) ∧ Below w.heap.size w w' := by
  have hn := hs.numlen
  have hk := hq.numlen
  have HL : Lists w A B n c n' d xs q := ⟨fun W hW => lawList A n c xs W (hs.below hW), fun W hW => lawList B n' d q W (hq.below hW)⟩
  have HA := hid fun (yes : Bool) (A1 A2 : Option Addr) (c1 c2 : Nat) (W : World) (s1 : Sl W A1 (min n 7) c1 ((xs.take (min n 7)).map (Value.int .i64))) (s2 : Sl W A2 (min n' 7) c2 ((q.take (min n' 7)).map (Value.int .i64))) => progAfterPub_bad A1 A2 (min n 7) c1 (min n' 7) c2 _ _ yes W s1 s2 (fun h => hno ((both_take hn hk).1 h))
  clear hn hk hs hq hno
  go_enter Try.func9, Try.ntmps9
  go_wp2_with fail
  refine (HL.l1 _ (Below.refl _ _)).mono ?_
  rintro e w1 ⟨A1, c1, rfl, ho1, hb1⟩
  have s1 := Sl.of_own ho1
  have hz1 := hb1.size
  clear ho1
  go_wp2_with fail
  refine (HL.l2 _ hb1).mono ?_
  rintro e w2 ⟨A2, c2, rfl, ho2, hb2⟩
  have s2 := Sl.of_own ho2
  have s1' := s1.below hb2
  have hz2 := hb2.size
  have hb12 := below_call hb1 hb2 hz1
  clear ho2 s1
  go_wp2_with fail
  refine (HA.out _ _ _ _ _ _ s1' s2).mono ?_
  rintro e w3 ⟨rfl, rfl⟩
  clear s1' s2
  go_wp2_with fail
  refine (HL.l1 _ hb12).mono ?_
  rintro e w3 ⟨A3, c3, rfl, ho3, hb3⟩
  have s3 := Sl.of_own ho3
  have hz3 := hb3.size
  have hb13 := below_call hb12 hb3 (by omega)
  clear ho3
  go_wp2_with fail
  refine (HL.l2 _ hb13).mono ?_
  rintro e w4 ⟨A4, c4, rfl, ho4, hb4⟩
  have s4 := Sl.of_own ho4
  have s3' := s3.below hb4
  have hz4 := hb4.size
  have hb14 := below_call hb13 hb4 (by omega)
  clear ho4 s3
  go_wp2_with fail
  refine (HA.out _ _ _ _ _ _ s3' s4).mono ?_
  rintro e w5 ⟨rfl, rfl⟩
  clear s3' s4
  go_wp2_with (go_at_call 20; refine (awake _).mono ?_; rintro e w6 ⟨rfl, hb6⟩)
  go_ret
  exact ⟨rfl, below_call hb14 hb6 (by omega)⟩

theorem sums_case (U V N Q : Int) (h : U + V = N) : N ≤ 2 * Q ∨ (2 * Q < N ∧ (V ≤ U → Q < U) ∧ (¬ V ≤ U → Q < V)) := by
  by_cases h1 : N ≤ 2 * Q
  · exact .inl h1
  · exact .inr ⟨by omega, fun _ => by omega, fun _ => by omega⟩
attribute [local go_sem ↓] shl_p2
set_option maxRecDepth 100000 in
set_option maxHeartbeats 4000000 in
theorem guessSums_ok (w : World) (A : Option Addr) (n c : Nat) (xs : List Int) (hs : Sl w A (n + 1) c (xs.map (Value.int .i64)))
    (B : Option Addr) (d : Nat) (q : List Int) (hq : Sl w B (n + 1) d (q.map (Value.int .i64))) (k : Int) (h1 : stateOk 200 xs = true) (h2 : askOk xs q = true) :
    Calls Try.prog 9 #[.slice A (n + 1) c, .slice B (n + 1) d, .int .i64 k] w fun e w' => e = .returned (.bool true) ∧ Below w.heap.size w w' := by
  have hn := hs.numlen
  have hk := hq.numlen
  have hi := stateOk_iff.1 h1
  have hm7 : min (n + 1) 7 = n + 1 := Nat.min_eq_left (by have := stateOk_len h1; omega)
  have L1 := hid fun (W : World) (hW : Below w.heap.size w W) => lawList A (n + 1) c xs W (hs.below hW)
  have L2 := hid fun (W : World) (hW : Below w.heap.size w W) => lawList B (n + 1) d q W (hq.below hW)
  rw [hm7, List.take_of_length_le (show xs.length ≤ n + 1 by omega)] at L1
  rw [hm7, List.take_of_length_le (show q.length ≤ n + 1 by omega)] at L2
  have HA := hid fun (yes : Bool) (A1 A2 : Option Addr) (c1 c2 : Nat) (W : World) (s1 : Sl W A1 (n + 1) c1 (xs.map (Value.int .i64))) (s2 : Sl W A2 (n + 1) c2 (q.map (Value.int .i64))) => afterPub_yes A1 A2 (n + 1) c1 (n + 1) c2 xs q yes W s1 s2 h1 h2
  have HVS := hid fun (W : World) (hW : Below w.heap.size w W) => refState A (n + 1) c xs 200 (by omega) W (hs.below hW)
  have HVQ := hid fun (W : World) (hW : Below w.heap.size w W) => refQuestion A B (n + 1) c (n + 1) d xs q W (hs.below hW) (hq.below hW)
  rw [h1] at HVS
  rw [h2] at HVQ
  have H1 := hid h1; have H2 := hid h2; have HI := hid hi; have HN := hid hn; have HK := hid hk
  have HSX := hid hs; have HSQ := hid hq
  have hn4 : n ≤ 3 := by omega
  clear h1 h2 hi hn hk hs hq hm7
  go_enter Try.func9, Try.ntmps9
  go_wp2_with fail
  refine (L1.out _ (Below.refl _ _)).mono ?_
  rintro e w1 ⟨A1, c1, rfl, ho1, hb1⟩
  have s1 := Sl.of_own ho1
  have hz1 := hb1.size
  clear ho1
  go_wp2_with fail
  refine (L2.out _ hb1).mono ?_
  rintro e w2 ⟨A2, c2, rfl, ho2, hb2⟩
  have s2 := Sl.of_own ho2
  have s1' := s1.below hb2
  have hz2 := hb2.size
  have hb12 := below_call hb1 hb2 hz1
  clear ho2 s1
  go_wp2_with fail
  refine (HA.out _ _ _ _ _ _ s1' s2).mono ?_
  rintro e w3 ⟨A3, c3, rfl, s3, hb3⟩
  have hz3 := hb3.size
  have hb13 := below_call hb12 hb3 (by omega)
  clear s1' s2
  go_wp2_with fail
  refine (L1.out _ hb13).mono ?_
  rintro e w4 ⟨A4, c4, rfl, ho4, hb4⟩
  have s4 := Sl.of_own ho4
  have s3' := s3.below hb4
  have hz4 := hb4.size
  have hb14 := below_call hb13 hb4 (by omega)
  clear ho4 s3
  go_wp2_with fail
  refine (L2.out _ hb14).mono ?_
  rintro e w5 ⟨A5, c5, rfl, ho5, hb5⟩
  have s5 := Sl.of_own ho5
  have s4' := s4.below hb5
  have s3 := s3'.below hb5
  have hz5 := hb5.size
  have hb15 := below_call hb14 hb5 (by omega)
  clear ho5 s4 s3'
  go_wp2_with fail
  refine (HA.out _ _ _ _ _ _ s4' s5).mono ?_
  rintro e w6 ⟨A6, c6, rfl, s6, hb6⟩
  have s3' := s3.below hb6
  have hz6 := hb6.size
  have hb16 := below_call hb15 hb6 (by omega)
  clear s4' s5 s3
  go_wp2_with (first | (go_at_call 29; refine (HVS.out _ hb16).mono ?_; rintro e w' ⟨rfl, rfl⟩) | (go_at_call 30; refine (HVQ.out _ hb16).mono ?_; rintro e w' ⟨rfl, rfl⟩))
  have hi := HI.out
  have sx := HSX.out.below hb16
  have sq := HSQ.out.below hb16
  have hAt := fun y => after_ok (yes := y) H1.out H2.out
  have hAi := fun y => stateOk_iff.1 (hAt y)
  have HVa := hid fun m => refState A3 (n + 1) c3 (after true xs q) 200 (by omega) (w6.drewN m) (s3'.drewN m)
  have HVb := hid fun m => refState A6 (n + 1) c6 (after false xs q) 200 (by omega) (w6.drewN m) (s6.drewN m)
  rw [hAt true] at HVa
  rw [hAt false] at HVb
  have HSa := hid fun m => lawSum A3 (n + 1) c3 (after true xs q) 200 (by omega) (by omega) (hAi true).2.2.1 (w6.drewN m) (s3'.drewN m)
  have HSb := hid fun m => lawSum A6 (n + 1) c6 (after false xs q) 200 (by omega) (by omega) (hAi false).2.2.1 (w6.drewN m) (s6.drewN m)
  have HSx := hid fun m => lawSum A (n + 1) c xs 200 (by omega) (by omega) hi.2.2.1 (w6.drewN m) (sx.drewN m)
  have ta := total_after (yes := true) (q := q) hi.1
  have tb := total_after (yes := false) (q := q) hi.1
  have hnn : ∀ j, j < xs.length → 0 ≤ at0 xs j := fun j hj => (hi.2.2.1 _ (at0_mem hj)).1
  have tl := at0_le_total hnn (show n < xs.length by have := HN.out; omega)
  have ql := (askOk_iff.1 H2.out).2 n (by have := HK.out; omega)
  have tx := hi.2.2.2
  have e1 : xs.length - 1 = n := by have := HN.out; omega
  rw [e1] at ta tb
  simp only [inA, Bool.not_true, Bool.not_false, if_true, Bool.false_eq_true, if_false] at ta tb
  obtain ⟨bx, ox, rfl, lx, _, cx⟩ := sx.num (show n < n + 1 by omega)
  obtain ⟨bq, oq, rfl, lq, _, cq⟩ := sq.num (show n < n + 1 by omega)
  generalize total (after true xs q) = TA at *
  generalize total (after false xs q) = TB at *
  generalize hTX : total xs = TX at *
  generalize hXL : at0 xs n = XL at *
  generalize hQL : at0 q n = QL at *
  have d1 : (TA != TX - XL + QL) = false := by rw [bne_eq_false_iff_eq]; omega
  have d2 : (TB != TX - QL) = false := by rw [bne_eq_false_iff_eq]; omega
  have D1 := hid ta; have D2 := hid tb
  clear ta tb hAt hAi hnn e1 hTX hXL hQL hi sx sq
  go_wp2_with fail
  go_quiet ((first | (go_at_call 29; with_reducible exact quiet_eq (HVa.out _)) | (go_at_call 29; with_reducible exact quiet_eq (HVb.out _)) | (go_at_call 33; with_reducible exact quiet_eq (HSa.out _)) | (go_at_call 33; with_reducible exact quiet_eq (HSb.out _)) | (go_at_call 33; with_reducible exact quiet_eq (HSx.out _))))
  have hbq : Below w.heap.size w (w6.drewN nq) := below_drewN hb16 nq
  have za : Sl (w6.drewN nq) A3 (n + 1) c3 ((after true xs q).map (Value.int .i64)) := s3'.drewN nq
  have zb : Sl (w6.drewN nq) A6 (n + 1) c6 ((after false xs q).map (Value.int .i64)) := s6.drewN nq
  clear cx cq d1 d2 HVa HVb HSa HSb HSx HVS HVQ D1 D2 ql tl tx lx lq
  by_cases hk1 : k < 1
  · go_wp2_with (go_at_call 20; refine (awake _).mono ?_; rintro e w7 ⟨rfl, hb7⟩)
    go_ret
    exact ⟨rfl, below_call hbq hb7 (by simp; omega)⟩
  have hk1' : decide (k < 1) = false := by simpa using hk1
  by_cases hk2 : 30 < k
  · go_wp2_with (go_at_call 20; refine (awake _).mono ?_; rintro e w7 ⟨rfl, hb7⟩)
    go_ret
    exact ⟨rfl, below_call hbq hb7 (by simp; omega)⟩
  have hAt := fun y => after_ok (yes := y) H1.out H2.out
  have WX := hid fun (A1 : Option Addr) (c1 : Nat) (W : World) (s1 : Sl W A1 (n + 1) c1 (xs.map (Value.int .i64))) => progWeightPub_ok A1 (n + 1) c1 xs k W s1 H1.out (by omega) (by omega)
  have WA := hid fun (y : Bool) (A1 : Option Addr) (c1 : Nat) (W : World) (s1 : Sl W A1 (n + 1) c1 ((after y xs q).map (Value.int .i64))) => progWeightPub_ok A1 (n + 1) c1 (after y xs q) (k - 1) W s1 (hAt y) (by omega) (by omega)
  have LI := hid fun (A1 A2 : Option Addr) (c1 c2 : Nat) (W : World) (s1 : Sl W A1 (n + 1) c1 (xs.map (Value.int .i64))) (s2 : Sl W A2 (n + 1) c2 (q.map (Value.int .i64))) => progLie_ok A1 A2 (n + 1) c1 (n + 1) c2 xs q k W s1 s2 H1.out H2.out (by omega) (by omega)
  have ws := weight_sum (xs := xs) (q := q) (k := k - 1) (by have := HI.out; omega) (by have := HI.out; omega)
  rw [Int.sub_add_cancel] at ws
  have wb := fun y => (pwt_bd (xs := after y xs q) (q := k - 1) (by omega) (by omega) (fun x hx => by have := (stateOk_iff.1 (hAt y)).2.2.1 x hx; omega) (by rw [after_len]; have := HI.out; omega) _ (Nat.le_refl _))
  have wt := wb true
  have wf := wb false
  have hle : xs.length ≤ 4 := by have := HI.out; omega
  rw [after_len] at wt wf
  have wt' : 0 ≤ weight (after true xs q) (k - 1) ∧ weight (after true xs q) (k - 1) ≤ 16000000000000 := by unfold weight; rw [after_len]; omega
  have wf' : 0 ≤ weight (after false xs q) (k - 1) ∧ weight (after false xs q) (k - 1) ≤ 16000000000000 := by unfold weight; rw [after_len]; omega
  unfold lieYes at LI
  generalize hU : weight (after true xs q) (k - 1) = U at *
  generalize hV : weight (after false xs q) (k - 1) = V at *
  generalize hNW : weight xs k = N at *
  have WT := hid (WA.out true)
  have WF := hid (WA.out false)
  rw [hU] at WT
  rw [hV] at WF
  have hsum : (U + V != N) = false := by rw [bne_eq_false_iff_eq]; exact ws
  have HW := hid ws
  clear wb wt wf hle hAt hU hV hNW ws WA
  have hcase : (V ≤ U) ∨ (¬ V ≤ U) := Decidable.em _
  rcases hcase with huv | huv
  all_goals
    go_wp2_with fail
    refine (L1.out _ hbq).mono ?_
    rintro e w7 ⟨A7, c7, rfl, ho7, hb7⟩
    have s7 := Sl.of_own ho7
    have hz7 := hb7.size
    have hb17 := below_call hbq hb7 (by simp; omega)
    have za7 := za.below hb7
    have zb7 := zb.below hb7
    clear ho7
    simp at hz7
    go_wp2_with fail
    refine (WX.out _ _ _ s7).mono ?_
    rintro e w7' ⟨rfl, rfl⟩
    clear s7
    go_wp2_with fail
    refine (cloneInts _ _ _ _ (by omega) _ za7).mono ?_
    rintro e w8 ⟨A8, c8, rfl, ho8, hb8⟩
    have s8 := Sl.of_own ho8
    have hz8 := hb8.size
    have hb18 := below_call hb17 hb8 (by omega)
    have zb8 := zb7.below hb8
    clear ho8
    go_wp2_with fail
    refine (WT.out _ _ _ s8).mono ?_
    rintro e w8' ⟨rfl, rfl⟩
    clear s8
    go_wp2_with fail
    refine (cloneInts _ _ _ _ (by omega) _ zb8).mono ?_
    rintro e w9 ⟨A9, c9, rfl, ho9, hb9⟩
    have s9 := Sl.of_own ho9
    have hz9 := hb9.size
    have hb19 := below_call hb18 hb9 (by omega)
    clear ho9
    go_wp2_with fail
    refine (WF.out _ _ _ s9).mono ?_
    rintro e w9' ⟨rfl, rfl⟩
    clear s9
    go_wp2_with fail
    refine (L1.out _ hb19).mono ?_
    rintro e w10 ⟨A10, c10, rfl, ho10, hb10⟩
    have s10 := Sl.of_own ho10
    have hz10 := hb10.size
    have hb110 := below_call hb19 hb10 (by omega)
    clear ho10
    go_wp2_with fail
    refine (L2.out _ hb110).mono ?_
    rintro e w11 ⟨A11, c11, rfl, ho11, hb11⟩
    have s11 := Sl.of_own ho11
    have s10' := s10.below hb11
    have hz11 := hb11.size
    have hb111 := below_call hb110 hb11 (by omega)
    clear ho11 s10
    go_wp2_with fail
    refine (LI.out _ _ _ _ _ s10' s11).mono ?_
    rintro e w12 ⟨rfl, hb12'⟩
    have hz12 := hb12'.size
    have hb112 := below_call hb111 hb12' (by omega)
    clear s10' s11
    have hk3 : (1 : Int) ≤ k := by omega
    have hk4 : k ≤ 30 := by omega
    have f1 : Fits k := ⟨by omega, by omega⟩
    have f2 : Fits (k - 1) := ⟨by omega, by omega⟩
    have q1 := p2_pred hk3
    have hN := sums_case U V N (p2 (k - 1)) HW.out
    rw [← q1] at hN
    clear hk1 hk2 hk1' za zb za7 zb7 zb8 q1
    rcases hN with hN | ⟨hN, hN2, hN3⟩
    · go_wp2_with (go_at_call 20; refine (awake _).mono ?_; rintro e w13 ⟨rfl, hb13'⟩)
      go_ret
      exact ⟨rfl, below_call hb112 hb13' (by omega)⟩
    · have hN' : decide (N ≤ p2 k) = false := decide_eq_false (by omega)
      have hQ := hid hN2
      have hQ' := hid hN3
      clear hN2 hN3
      first
        | (have hq : p2 (k - 1) < U := hQ.out huv
           go_wp2_with (go_at_call 20; refine (awake _).mono ?_; rintro e w13 ⟨rfl, hb13'⟩)
           go_ret
           exact ⟨rfl, below_call hb112 hb13' (by omega)⟩)
        | (have hq : p2 (k - 1) < V := hQ'.out (by first | exact huv | exact Int.not_le.2 huv)
           go_wp2_with (go_at_call 20; refine (awake _).mono ?_; rintro e w13 ⟨rfl, hb13'⟩)
           go_ret
           exact ⟨rfl, below_call hb112 hb13' (by omega)⟩)

theorem guessSums_walk (w : World) (A : Option Addr) (n c : Nat) (xs : List Int) (hs : Sl w A n c (xs.map (Value.int .i64))) (_ : ∀ x ∈ xs, -9223372036854775808 ≤ x ∧ x ≤ 9223372036854775807)
    (B : Option Addr) (n' d : Nat) (q : List Int) (hq : Sl w B n' d (q.map (Value.int .i64))) (_ : ∀ x ∈ q, -9223372036854775808 ≤ x ∧ x ≤ 9223372036854775807) (k : Int) (_ : (Lit.int .i64 k).wf = true) :
    Calls Try.prog 9 #[.slice A n c, .slice B n' d, .int .i64 k] w fun e w' => e = .returned (.bool true) ∧ Below w.heap.size w w' := by
  by_cases h : stateOk 200 xs = true ∧ askOk xs q = true
  · have h1 := (stateOk_iff.1 h.1).1
    have hn := hs.numlen
    obtain ⟨m, rfl⟩ : ∃ m, n = m + 1 := ⟨n - 1, by omega⟩
    obtain rfl : n' = m + 1 := by have := (askOk_iff.1 h.2).1; have := hq.numlen; omega
    exact guessSums_ok w A m c xs hs B d q hq k h.1 h.2
  · exact guessSums_bad w A n c xs hs B n' d q hq k h
end Go.Proofs.Ytdclmhmdkhpekaa
