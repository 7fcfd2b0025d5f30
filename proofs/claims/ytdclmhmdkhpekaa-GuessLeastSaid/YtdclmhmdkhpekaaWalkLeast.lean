/- Walk of GuessLeast. No condition. -/
import Derived.Test.YtdclmhmdkhpekaaRefL
namespace Go.Proofs.Ytdclmhmdkhpekaa
open Go.RowKit

set_option maxRecDepth 100000 in
set_option maxHeartbeats 1000000 in
theorem guessLeast_bad (w : World) (n e : Int) (h : ¬ (1 ≤ n ∧ n ≤ 40 ∧ 0 ≤ e ∧ e ≤ 2)) :
    Calls Try.prog 7 #[.int .i64 n, .int .i64 e] w fun r w' => r = .returned (.bool true) ∧ Below w.heap.size w w' := by
  have HL := hid (leastBad n e w h)
  by_cases h1 : n < 1
  · have d1 : decide (n < 1) = true := decide_eq_true h1
    clear h
    go_enter Try.func7, Try.ntmps7
    go_wp2_with (first | (go_at_call 25; refine HL.out.mono ?_; rintro r w1 ⟨rfl, rfl⟩) | (go_at_call 20; refine (awake _).mono ?_; rintro r w6 ⟨rfl, b6⟩))
    go_ret
    exact ⟨rfl, b6⟩
  have d1 : decide (n < 1) = false := decide_eq_false h1
  by_cases h2 : 40 < n
  · have d2 : decide (40 < n) = true := decide_eq_true h2
    clear h
    go_enter Try.func7, Try.ntmps7
    go_wp2_with (first | (go_at_call 25; refine HL.out.mono ?_; rintro r w1 ⟨rfl, rfl⟩) | (go_at_call 20; refine (awake _).mono ?_; rintro r w6 ⟨rfl, b6⟩))
    go_ret
    exact ⟨rfl, b6⟩
  have d2 : decide (40 < n) = false := decide_eq_false h2
  by_cases h3 : e < 0
  · have d3 : decide (e < 0) = true := decide_eq_true h3
    clear h
    go_enter Try.func7, Try.ntmps7
    go_wp2_with (first | (go_at_call 25; refine HL.out.mono ?_; rintro r w1 ⟨rfl, rfl⟩) | (go_at_call 20; refine (awake _).mono ?_; rintro r w6 ⟨rfl, b6⟩))
    go_ret
    exact ⟨rfl, b6⟩
  have d3 : decide (e < 0) = false := decide_eq_false h3
  have d4 : decide (2 < e) = true := decide_eq_true (by omega)
  clear h
  go_enter Try.func7, Try.ntmps7
  go_wp2_with (first | (go_at_call 25; refine HL.out.mono ?_; rintro r w1 ⟨rfl, rfl⟩) | (go_at_call 20; refine (awake _).mono ?_; rintro r w6 ⟨rfl, b6⟩))
  go_ret
  exact ⟨rfl, b6⟩

set_option maxRecDepth 100000 in
set_option maxHeartbeats 1000000 in
theorem guessLeast_good (w : World) (n : Int) (e q : Nat) (hn : 1 ≤ n) (hn4 : n ≤ 40) (he : e ≤ 2) (hq : LeastOf q (startL n e)) :
    Calls Try.prog 7 #[.int .i64 n, .int .i64 e] w fun r w' => r = .returned (.bool true) ∧ Below w.heap.size w w' := by
  have d1 : decide (n < 1) = false := decide_eq_false (by omega)
  have d2 : decide (40 < n) = false := decide_eq_false (by omega)
  have d3 : decide ((e : Int) < 0) = false := decide_eq_false (by omega)
  have d4 : decide (2 < (e : Int)) = false := decide_eq_false (by omega)
  have d4n : decide (2 < e) = false := decide_eq_false (by omega)
  have HL := hid (leastPub n e q w hn hn4 he hq)
  have HR := hid fun W => refLeast n e q W hn hn4 he hq
  clear hq
  go_enter Try.func7, Try.ntmps7
  go_wp2_with fail
  refine HL.out.mono ?_; rintro r w1 ⟨rfl, b1⟩
  have B1 := hid b1
  clear b1
  go_wp2_with fail
  refine (HR.out _).mono ?_; rintro r w2 ⟨rfl, b2⟩
  have B2 := hid (below_call B1.out b2 B1.out.size)
  clear b2
  go_wp2_with (go_at_call 20; refine (awake _).mono ?_; rintro r w6 ⟨rfl, b6⟩)
  go_ret
  exact ⟨rfl, below_call B2.out b6 B2.out.size⟩

theorem guessLeast_walk (w : World) (n : Int) (_ : (Lit.int .i64 n).wf = true) (e : Int) (_ : (Lit.int .i64 e).wf = true) :
    Calls Try.prog 7 #[.int .i64 n, .int .i64 e] w fun r w' => r = .returned (.bool true) ∧ Below w.heap.size w w' := by
  by_cases h : 1 ≤ n ∧ n ≤ 40 ∧ 0 ≤ e ∧ e ≤ 2
  · obtain ⟨k, rfl⟩ := Int.eq_ofNat_of_zero_le h.2.2.1
    obtain ⟨q, hq⟩ := least_start (n := n) (e := k) (by omega) h.2.1 (by omega)
    exact guessLeast_good w n k q h.1 h.2.1 (by omega) hq
  · exact guessLeast_bad w n e h
end Go.Proofs.Ytdclmhmdkhpekaa
