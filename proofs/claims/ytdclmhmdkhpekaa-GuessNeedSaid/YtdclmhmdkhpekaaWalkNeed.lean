/- The walk of the law GuessNeed. No condition. -/
import Derived.Test.YtdclmhmdkhpekaaRefLeft
import Derived.Test.YtdclmhmdkhpekaaWalkColours
namespace Go.Proofs.Ytdclmhmdkhpekaa
open Go.RowKit Go.Maps

set_option maxRecDepth 100000 in
set_option maxHeartbeats 4000000 in
theorem guessNeed_walk (w : World) (p : Int) (_ : (Lit.int .i64 p).wf = true) (c : Int) (_ : (Lit.int .i64 c).wf = true) :
    Calls Try.prog 5 #[.int .i64 p, .int .i64 c] w fun e w' => e = .returned (.bool true) ∧ Below w.heap.size w w' := by
  by_cases h : 0 < codes p c ∧ codes p c ≤ 27
  · obtain ⟨N, hN⟩ := codes_nat p c
    have hc := codes_pos h.1
    obtain ⟨q, rfl⟩ := Int.eq_ofNat_of_zero_le (show 0 ≤ p by omega)
    have hg : gameOk q c [] = true := gameOk_iff.2 ⟨h.1, by simp⟩
    have HG := fun W => hid (gameLaw q c none 0 0 [] W (Sl.nil W) true hg)
    have H1 := fun W => hid (needPub_ok q c N W h.1 hN (by have := h.2; omega))
    have H2 := fun W => hid (refNeed q c N W h.1 hN (by have := h.2; omega))
    have H3 := hid fun W => (show Calls Try.prog 23 #[.int .i64 q, .int .i64 c] W fun e w' => e = .returned (.int .i64 N) ∧ W = w' from by rw [← hN]; exact refCodes q c W)
    have g1 : decide (27 < (N : Int)) = false := decide_eq_false (by omega)
    have g2 : decide (27 < N) = false := decide_eq_false (by omega)
    clear hg hc h hN
    go_enter Try.func5, Try.ntmps5
    go_wp2_with (first
      | (go_at_call 22; refine (H1 _).out.mono ?_; rintro e w1 ⟨⟨n, rfl, hn⟩, hb1⟩; have hz1 := hb1.size; have HB1 := hid hb1; have HN := hid hn; clear hb1 hn)
      | (go_at_call 19; refine (HG _).out.mono ?_; rintro e w2 ⟨rfl, rfl⟩)
      | (go_at_call 23; refine (H3.out _).mono ?_; rintro e w2 ⟨rfl, rfl⟩)
      | (go_at_call 24; refine (H2 _).out.mono ?_; rintro e w3 ⟨⟨m, rfl, hm⟩, hb3⟩; have hz3 := hb3.size; have HB3 := hid hb3; obtain rfl := HN.out.one hm; clear hb3 hm)
      | (go_at_call 20; refine (awake _).mono ?_; rintro e w4 ⟨rfl, hb4⟩))
    go_ret
    exact ⟨rfl, below_call (below_call HB1.out HB3.out hz1) hb4 (Nat.le_trans hz1 hz3)⟩
  · have H1 := fun W => hid (needPub_bad p c W h)
    have H3 := hid fun W => refCodes p c W
    by_cases hp : 0 < codes p c
    · have hg : gameOk p c [] = true := gameOk_iff.2 ⟨hp, by simp⟩
      have HG := fun W => hid (gameLaw p c none 0 0 [] W (Sl.nil W) true hg)
      have g1 : decide (27 < codes p c) = true := decide_eq_true (by omega)
      clear h hg hp
      go_enter Try.func5, Try.ntmps5
      go_wp2_with (first
        | (go_at_call 22; refine (H1 _).out.mono ?_; rintro e w1 ⟨rfl, hb1⟩; have hz1 := hb1.size)
        | (go_at_call 19; refine (HG _).out.mono ?_; rintro e w2 ⟨rfl, rfl⟩)
        | (go_at_call 23; refine (H3.out _).mono ?_; rintro e w2 ⟨rfl, rfl⟩)
        | (go_at_call 20; refine (awake _).mono ?_; rintro e w4 ⟨rfl, hb4⟩))
      go_ret
      exact ⟨rfl, below_call hb1 hb4 hz1⟩
    · have hg : gameOk p c [] = false := by
        cases e : gameOk p c []
        · rfl
        · exact absurd (gameOk_iff.1 e).1 hp
      have HG := fun W => hid (gameLaw p c none 0 0 [] W (Sl.nil W) false hg)
      clear h hg hp
      go_enter Try.func5, Try.ntmps5
      go_wp2_with (first
        | (go_at_call 22; refine (H1 _).out.mono ?_; rintro e w1 ⟨rfl, hb1⟩; have hz1 := hb1.size)
        | (go_at_call 19; refine (HG _).out.mono ?_; rintro e w2 ⟨rfl, rfl⟩)
        | (go_at_call 20; refine (awake _).mono ?_; rintro e w4 ⟨rfl, hb4⟩))
      go_ret
      exact ⟨rfl, below_call hb1 hb4 hz1⟩
end Go.Proofs.Ytdclmhmdkhpekaa
