/- Walk of GuessWins. No condition. -/
import Derived.Test.YtdclmhmdkhpekaaRefA
namespace Go.Proofs.Ytdclmhmdkhpekaa
open Go.RowKit

theorem refAsk (A : Option Addr) (n c : Nat) (xs : List Int) (q : Nat) (hq : q ≤ 20) (hx : St n xs) (w : World) (hs : Sl w A n c (xs.map (Value.int .i64))) :
    Calls Try.prog 49 #[.slice A n c, .int .i64 q] w fun e w' => ∃ A' m c', e = .returned (.tuple #[.slice A' m c', .int .i64 (askE q xs)]) ∧ Sl w' A' m c' ((askR q xs).map (Value.int .i64)) ∧ Below w.heap.size w w' := by
  by_cases hw : winS q xs = true ∧ 1 < total xs
  · cases q with
    | zero =>
      have h1 := hw.1
      simp only [winS, decide_eq_true_eq] at h1
      omega
    | succ q =>
      have ea : askE (q + 1) xs = 0 := by unfold askE; rw [if_neg (by omega), if_pos hw.1]
      rw [ea]
      exact refAskYes A n c xs q hq hx w hs hw.1 hw.2
  · exact refAskNo A n c xs q hq hx w hs hw

set_option maxRecDepth 100000 in
set_option maxHeartbeats 1000000 in
theorem guessWins_bad (w : World) (A : Option Addr) (n c : Nat) (xs : List Int) (q : Int) (hs : Sl w A n c (xs.map (Value.int .i64))) (h : ¬ (stateOk 24 xs = true ∧ 0 ≤ q ∧ q ≤ 12)) :
    Calls Try.prog 15 #[.slice A n c, .int .i64 q] w fun e w' => e = .returned (.bool true) ∧ Below w.heap.size w w' := by
  have hn := hs.numlen
  have HL := hid fun W (hb : Below w.heap.size w W) => lawList A n c xs W (hs.below hb)
  have HB := hid fun A' c' W (s1 : Sl W A' (min n 7) c' ((xs.take (min n 7)).map (Value.int .i64))) => askBad A' (min n 7) c' _ q W s1 (by rw [stateOk_take hn]; exact h)
  have HW := hid fun A' c' W (s1 : Sl W A' (min n 7) c' ((xs.take (min n 7)).map (Value.int .i64))) => winsBad A' (min n 7) c' _ q W s1 (by rw [stateOk_take hn]; exact h)
  have HST := hid fun W (hb : Below w.heap.size w W) => refState A n c xs 24 (by omega) W (hs.below hb)
  clear hs hn
  have hcase : stateOk 24 xs = false ∨ stateOk 24 xs = true ∧ (decide (q < 0) = true ∨ decide (q < 0) = false ∧ decide (12 < q) = true) := by
    cases h1 : stateOk 24 xs with
    | false => exact .inl rfl
    | true =>
      refine .inr ⟨rfl, ?_⟩
      by_cases h2 : q < 0
      · exact .inl (decide_eq_true h2)
      · exact .inr ⟨decide_eq_false h2, decide_eq_true (by simp only [h1, true_and] at h; omega)⟩
  clear h
  rcases hcase with h1 | ⟨h1, d1 | ⟨d1, d2⟩⟩
  all_goals
    rw [h1] at HST
    clear h1
    go_enter Try.func15, Try.ntmps15
    go_wp2_with fail
    refine (HL.out _ (Below.refl _ _)).mono ?_; rintro e w1 ⟨A1, c1, rfl, o1, b1⟩
    have s1 := Sl.of_own o1
    go_wp2_with fail
    refine (HW.out _ _ _ s1).mono ?_; rintro e w2 ⟨rfl, rfl⟩
    clear s1 o1
    go_wp2_with fail
    refine (HL.out _ b1).mono ?_; rintro e w3 ⟨A3, c3, rfl, o3, b3⟩
    have s3 := Sl.of_own o3
    have B3 := hid (below_call b1 b3 b1.size)
    clear b1 b3
    go_wp2_with fail
    refine (HB.out _ _ _ s3).mono ?_; rintro e w4 ⟨rfl, rfl⟩
    clear s3 o3
    go_wp2_with (first | (go_at_call 29; refine (HST.out _ B3.out).mono ?_; rintro e w3 ⟨rfl, rfl⟩) | (go_at_call 20; refine (awake _).mono ?_; rintro e w6 ⟨rfl, b6⟩))
    go_ret
    exact ⟨rfl, below_call B3.out b6 B3.out.size⟩

set_option maxRecDepth 100000 in
set_option maxHeartbeats 2000000 in
theorem guessWins_good (w : World) (A : Option Addr) (n c : Nat) (xs : List Int) (q : Nat) (hq : q ≤ 12) (hs : Sl w A n c (xs.map (Value.int .i64))) (h : stateOk 24 xs = true) :
    Calls Try.prog 15 #[.slice A n c, .int .i64 q] w fun e w' => e = .returned (.bool true) ∧ Below w.heap.size w w' := by
  have hn := hs.numlen
  have e1 := take_min7 hn (by have := stateOk_len h; omega)
  have e2 : min n 7 = n := Nat.min_eq_left (by have := stateOk_len h; omega)
  have HL := hid fun W (hb : Below w.heap.size w W) => lawList A n c xs W (hs.below hb)
  rw [e1, e2] at HL
  have hx : St n xs := ⟨hn, Nn.of_state h, by have := (stateOk_iff.1 h).2.2.2; omega⟩
  have HA := hid fun A' c' W (s1 : Sl W A' n c' (xs.map (Value.int .i64))) => askPub A' n c' xs q hq W s1 h
  have HW := hid fun A' c' W (s1 : Sl W A' n c' (xs.map (Value.int .i64))) => winsPub A' n c' xs q hq W s1 h
  have HRA := hid fun W (hb : Below w.heap.size w W) => refAsk A n c xs q (by omega) hx W (hs.below hb)
  have HRW := hid fun W (hb : Below w.heap.size w W) => refWins A n c xs q (by omega) hx W (hs.below hb)
  have HST := hid fun W (hb : Below w.heap.size w W) => refState A n c xs 24 (by omega) W (hs.below hb)
  rw [h] at HST
  have g1 : decide ((q : Int) < 0) = false := decide_eq_false (by omega)
  have g2 : decide (12 < (q : Int)) = false := decide_eq_false (by omega)
  have g3 : decide (12 < q) = false := decide_eq_false (by omega)
  clear hs h hn e1 e2 hx
  generalize winS q xs = u at *
  generalize askE q xs = er at *
  generalize askR q xs = r at *
  go_enter Try.func15, Try.ntmps15
  go_wp2_with fail
  refine (HL.out _ (Below.refl _ _)).mono ?_; rintro e w1 ⟨A1, c1, rfl, o1, b1⟩
  have s1 := Sl.of_own o1
  go_wp2_with fail
  refine (HW.out _ _ _ s1).mono ?_; rintro e w2 ⟨rfl, b2⟩
  have B2 := hid (below_call b1 b2 b1.size)
  clear s1 o1 b1 b2
  go_wp2_with fail
  refine (HL.out _ B2.out).mono ?_; rintro e w3 ⟨A3, c3, rfl, o3, b3⟩
  have s3 := Sl.of_own o3
  have B3 := hid (below_call B2.out b3 B2.out.size)
  clear b3
  go_wp2_with fail
  refine (HA.out _ _ _ s3).mono ?_; rintro e w4 ⟨A4, m4, c4, rfl, s4, b4⟩
  have B4 := hid (below_call B3.out b4 B3.out.size)
  have S4 := hid s4
  clear s3 o3 b4 s4
  go_wp2_with fail
  refine (HST.out _ B4.out).mono ?_; rintro e w5 ⟨rfl, rfl⟩
  go_wp2_with fail
  refine (HRA.out _ B4.out).mono ?_; rintro e w6 ⟨A6, m6, c6, rfl, s6, b6⟩
  have B6 := hid (below_call B4.out b6 B4.out.size)
  have S46 := hid (S4.out.below b6)
  have S6 := hid s6
  clear b6 s6
  go_wp2_with fail
  refine (HRW.out _ B6.out).mono ?_; rintro e w7 ⟨rfl, b7⟩
  have B7 := hid (below_call B6.out b7 B6.out.size)
  have S47 := hid (S46.out.below b7)
  have S67 := hid (S6.out.below b7)
  have HEQ := hid (show Calls Try.prog 37 #[.slice A4 m4 c4, .slice A6 m6 c6] w7 fun e w' => e = .returned (.bool true) ∧ Below w7.heap.size w7 w' by
    have := equalInts A4 A6 m4 c4 m6 c6 r r w7 S47.out S67.out
    rwa [show decide (r = r) = true by simp] at this)
  clear b7
  go_wp2_with (first | (go_at_call 37; refine HEQ.out.mono ?_; rintro e w8 ⟨rfl, b8⟩) | (go_at_call 20; refine (awake _).mono ?_; rintro e w9 ⟨rfl, b9⟩))
  go_ret
  exact ⟨rfl, below_call (below_call B7.out b8 B7.out.size) b9 (by have := B7.out.size; have := b8.size; omega)⟩

theorem guessWins_walk (w : World) (A : Option Addr) (n c : Nat) (xs : List Int) (hs : Sl w A n c (xs.map (Value.int .i64))) (_ : ∀ x ∈ xs, -9223372036854775808 ≤ x ∧ x ≤ 9223372036854775807) (q : Int) (_ : (Lit.int .i64 q).wf = true) :
    Calls Try.prog 15 #[.slice A n c, .int .i64 q] w fun e w' => e = .returned (.bool true) ∧ Below w.heap.size w w' := by
  by_cases h : stateOk 24 xs = true ∧ 0 ≤ q ∧ q ≤ 12
  · obtain ⟨k, rfl⟩ := Int.eq_ofNat_of_zero_le h.2.1
    exact guessWins_good w A n c xs k (by omega) hs h.1
  · exact guessWins_bad w A n c xs q hs h
end Go.Proofs.Ytdclmhmdkhpekaa
