/- The walk of the law GuessMarks. No condition. -/
import Derived.Test.YtdclmhmdkhpekaaMarksPub
namespace Go.Proofs.Ytdclmhmdkhpekaa
open Go.RowKit

theorem gameLaw (p c : Int) (A : Option Addr) (n k : Nat) (xs : List Int) (w : World) (hs : Sl w A n k (xs.map (Value.int .i64))) (r : Bool) (hr : gameOk p c xs = r) :
    Calls Try.prog 19 #[.int .i64 p, .int .i64 c, .slice A n k] w fun e w' => e = .returned (.bool r) ∧ w = w' :=
  (lawGame p c A n k xs w hs).mono fun _ _ ⟨⟨r', he, h⟩, hw⟩ => ⟨by subst hr; rw [he, h]; rfl, hw⟩

set_option maxRecDepth 100000 in
set_option maxHeartbeats 1000000 in
theorem guessMarks_walk (w : World) (p : Int) (_ : (Lit.int .i64 p).wf = true) (c : Int) (_ : (Lit.int .i64 c).wf = true) (a : Int) (_ : (Lit.int .i64 a).wf = true) (b : Int) (_ : (Lit.int .i64 b).wf = true) :
    Calls Try.prog 3 #[.int .i64 p, .int .i64 c, .int .i64 a, .int .i64 b] w fun e w' => e = .returned (.bool true) ∧ Below w.heap.size w w' := by
  have HS := fun W => hid (Sl.new W #[.int .i64 a, .int .i64 b] 3 rfl (by simp))
  cases hg : gameOk p c [a, b]
  · have HM := fun W => hid (marksPub_bad p c a b W hg)
    have HG := fun W => hid (gameLaw p c _ _ _ [a, b] _ (HS W).out false hg)
    clear hg
    go_enter Try.func3, Try.ntmps3
    go_wp2_with (first | (go_at_call 18; refine ((HM _).out).mono ?_; rintro e w1 ⟨rfl, hb1⟩; have hz1 := hb1.size) | (go_at_call 19; refine ((HG _).out).mono ?_; rintro e w2 ⟨rfl, rfl⟩) | (go_at_call 20; refine (awake _).mono ?_; rintro e w3 ⟨rfl, hb3⟩))
    go_ret
    exact ⟨rfl, below_call (hb1.alloc (by omega) _) hb3 (by simp; omega)⟩
  · have HM := fun W => hid (marksPub_ok p c a b W hg)
    have HG := fun W => hid (gameLaw p c _ _ _ [a, b] _ (HS W).out true hg)
    have hi := gameOk_iff.1 hg
    have hp := codes_pos hi.1
    have ha := hi.2 a (by simp)
    have hb := hi.2 b (by simp)
    have hN := (codes_bd p c).2
    have hp1 := hp.1
    have hp2 := hp.2.1
    obtain ⟨n, rfl⟩ := Int.eq_ofNat_of_zero_le (show 0 ≤ p by omega)
    have HR := fun W => hid (refMarks n c a b (by omega) hp.2.2.1 hp.2.2.2.1 ha.1 (by omega) hb.1 (by omega) W)
    simp only [Int.toNat_natCast] at HM
    clear hg hi hp ha hb hN
    go_enter Try.func3, Try.ntmps3
    go_wp2_with (first | (go_at_call 18; refine ((HM _).out).mono ?_; rintro e w1 ⟨rfl, hb1⟩; have hz1 := hb1.size) | (go_at_call 19; refine ((HG _).out).mono ?_; rintro e w2 ⟨rfl, rfl⟩) | (go_at_call 21; refine ((HR _).out).mono ?_; rintro e w4 ⟨rfl, hb4⟩; have hz4 := hb4.size) | (go_at_call 20; refine (awake _).mono ?_; rintro e w3 ⟨rfl, hb3⟩))
    go_ret
    simp at hz4
    exact ⟨rfl, below_call (below_call (hb1.alloc (by omega) _) hb4 (by simp; omega)) hb3 (by omega)⟩
end Go.Proofs.Ytdclmhmdkhpekaa
