/- The walk of the law GuessSame. No condition. -/
import Derived.Test.YtdclmhmdkhpekaaWalkMarks
import Derived.Test.YtdclmhmdkhpekaaPegs2
namespace Go.Proofs.Ytdclmhmdkhpekaa
open Go.RowKit

theorem gameOk_swap (p c a b : Int) : gameOk p c [b, a] = gameOk p c [a, b] := by
  unfold gameOk inCodes
  simp only [List.any_cons, List.any_nil, Bool.or_false]
  rw [Bool.or_comm]

set_option maxRecDepth 100000 in
set_option maxHeartbeats 1000000 in
theorem guessSame_walk (w : World) (p : Int) (_ : (Lit.int .i64 p).wf = true) (c : Int) (_ : (Lit.int .i64 c).wf = true) (a : Int) (_ : (Lit.int .i64 a).wf = true) (b : Int) (_ : (Lit.int .i64 b).wf = true) :
    Calls Try.prog 4 #[.int .i64 p, .int .i64 c, .int .i64 a, .int .i64 b] w fun e w' => e = .returned (.bool true) ∧ Below w.heap.size w w' := by
  have HS := fun W => hid (Sl.new W #[.int .i64 a, .int .i64 b] 3 rfl (by simp))
  cases hg : gameOk p c [a, b]
  · have HM := fun W => hid (marksPub_bad p c a b W hg)
    have HN := fun W => hid (marksPub_bad p c b a W ((gameOk_swap p c a b).trans hg))
    clear hg
    go_enter Try.func4, Try.ntmps4
    go_wp2_with fail
    refine ((HM _).out).mono ?_; rintro e w1 ⟨rfl, hb1⟩; have hz1 := hb1.size
    go_wp2_with fail
    refine ((HN _).out).mono ?_; rintro e w2 ⟨rfl, hb2⟩; have hz2 := hb2.size
    go_wp2_with (go_at_call 20; refine (awake _).mono ?_; rintro e w3 ⟨rfl, hb3⟩)
    go_ret
    exact ⟨rfl, below_call (below_call hb1 hb2 hz1) hb3 (by omega)⟩
  · have HM := fun W => hid (marksPub_ok p c a b W hg)
    have HN := fun W => hid (marksPub_ok p c b a W ((gameOk_swap p c a b).trans hg))
    have HG := fun W => hid (gameLaw p c _ _ _ [a, b] _ (HS W).out true hg)
    have hi := gameOk_iff.1 hg
    have hp := codes_pos hi.1
    have ha := hi.2 a (by simp)
    have hb := hi.2 b (by simp)
    rw [hp.2.2.2.2.2] at ha hb
    have hp1 := hp.1
    have hp2 := hp.2.1
    obtain ⟨n, rfl⟩ := Int.eq_ofNat_of_zero_le (show 0 ≤ p by omega)
    simp only [Int.toNat_natCast] at HM HN ha hb
    rw [black_comm c b a, white_comm c b a] at HN
    have hx := hits_bd c a b n
    have hy := hits_le_pairs c a b hp.2.2.1 hp.2.2.2.1 n
    have hs := pairs_le c a b hp.2.2.1 hp.2.2.2.1 n
    have hall := black_all hp.2.2.1 ha hb
    have hone := never_one (a := a) (b := b) hp.2.2.1 hp.2.2.2.1 (show 1 ≤ n by omega)
    have h1 : 0 ≤ black c a b n ∧ 0 ≤ white c a b n ∧ black c a b n + white c a b n ≤ n := by unfold black white; omega
    generalize black c a b n = X at *
    generalize white c a b n = Y at *
    have hx0 := h1.1
    have hy0 := h1.2.1
    have hxy := h1.2.2
    clear hg hi hp ha hb hx hy hs h1
    have hcase : ((a == b) = true ∧ (X == (n : Int)) = true ∧ (X != (n : Int) - 1) = true) ∨ ((a == b) = false ∧ (X == (n : Int)) = false ∧ (X != (n : Int) - 1) = true) ∨ ((a == b) = false ∧ (X == (n : Int)) = false ∧ (X != (n : Int) - 1) = false ∧ (Y != 1) = true) := by
      by_cases e : a = b
      · exact .inl ⟨by simpa using e, by simpa using hall.2 e, by have := hall.2 e; rw [bne_iff_ne]; omega⟩
      · have e' : X ≠ n := fun h => e (hall.1 h)
        by_cases e2 : X = n - 1
        · have e3 : Y ≠ 1 := fun h => hone e2 h
          exact .inr (.inr ⟨by simpa using e, by simpa using e', by rw [bne_eq_false_iff_eq]; exact e2, by rw [bne_iff_ne]; exact e3⟩)
        · exact .inr (.inl ⟨by simpa using e, by simpa using e', by rw [bne_iff_ne]; exact e2⟩)
    clear hall hone
    rcases hcase with ⟨c1, c2, c3⟩ | ⟨c1, c2, c3⟩ | ⟨c1, c2, c3, c4⟩
    all_goals
      go_enter Try.func4, Try.ntmps4
      go_wp2_with fail
      refine ((HM _).out).mono ?_; rintro e w1 ⟨rfl, hb1⟩; have hz1 := hb1.size
      go_wp2_with fail
      refine ((HN _).out).mono ?_; rintro e w2 ⟨rfl, hb2⟩; have hz2 := hb2.size
      go_wp2_with (first | (go_at_call 19; refine ((HG _).out).mono ?_; rintro e w4 ⟨rfl, rfl⟩) | (go_at_call 20; refine (awake _).mono ?_; rintro e w3 ⟨rfl, hb3⟩))
      go_ret
      exact ⟨rfl, below_call ((below_call hb1 hb2 hz1).alloc (by omega) _) hb3 (by simp; omega)⟩
end Go.Proofs.Ytdclmhmdkhpekaa
