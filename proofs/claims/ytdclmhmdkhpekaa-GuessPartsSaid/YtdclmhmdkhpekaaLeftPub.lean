/- Walks of guess.Left, guess.played and guess.Worst. Conditions: the slice reads as a list of triples. -/
import Derived.Test.YtdclmhmdkhpekaaLeftP
import Derived.Test.YtdclmhmdkhpekaaPickM
namespace Go.Proofs.Ytdclmhmdkhpekaa
open Go.RowKit Go.Maps

theorem game_facts {p : Nat} {c : Int} {N : Nat} (hg : 0 < codes p c) (hN : codes p c = N) : (1 ≤ p ∧ p ≤ 4) ∧ (1 ≤ c ∧ c ≤ 6) ∧ 1 ≤ N ∧ N ≤ 256 := by
  have h := codes_pos hg
  have := (codes_bd p c).2
  omega

set_option maxRecDepth 100000 in
set_option maxHeartbeats 4000000 in
theorem leftPub_no (p c : Int) (A : Option Addr) (n cp : Nat) (W : World) (hg : gameOk p c [] = false) :
    Calls Try.prog 40 #[.int .i64 p, .int .i64 c, .slice A n cp] W fun e w' => e = .returned (.tuple #[.slice none 0 0, .int .i64 2]) ∧ Below W.heap.size W w' := by
  have HR := hid (readNo p c none 0 0 [] W (Sl.nil W) hg)
  clear hg
  go_enter Try.func40, Try.ntmps40
  go_wp2_with (go_at_call 53; refine HR.out.mono ?_; rintro e w1 ⟨⟨q, d, N, rfl⟩, hb1⟩; have hz1 := hb1.size)
  go_ret2
  exact ⟨rfl, hb1.alloc (by omega) _⟩
set_option maxRecDepth 100000 in
set_option maxHeartbeats 4000000 in
theorem leftPub_bad (p : Nat) (c : Int) (N : Nat) (A : Option Addr) (n cp : Nat) (hs : List Tri) (W : World) (hg : 0 < codes p c) (hN : codes p c = N) (hsl : Slt W A n cp hs) (hh : histOk p N hs = false) :
    Calls Try.prog 40 #[.int .i64 p, .int .i64 c, .slice A n cp] W fun e w' => e = .returned (.tuple #[.slice none 0 0, .int .i64 2]) ∧ Below W.heap.size W w' := by
  obtain ⟨⟨h1, h2⟩, ⟨h3, h4⟩, h5, h6⟩ := game_facts hg hN
  have HR := hid (readYes p c none 0 0 [] W (Sl.nil W) (gameOk_iff.2 ⟨hg, by simp⟩) N hN)
  have HL := hid fun w1 (hb : Below W.heap.size W w1) => leftBad p c N A n cp hs w1 h2 h3 h4 h6 (hsl.below hb) hh
  clear hg hN hsl hh
  go_enter Try.func40, Try.ntmps40
  go_wp2_with (go_at_call 53; refine HR.out.mono ?_; rintro e w1 ⟨rfl, hb1⟩; have hz1 := hb1.size; have HB1 := hid hb1; clear hb1)
  have HB2 := hid (HB1.out.alloc hz1 (.cells #[.int .i64 p, .int .i64 c, .int .i64 N] 68))
  go_wp2_with (go_at_call 66; refine (HL.out _ HB2.out).mono ?_; rintro e w2 ⟨rfl, hb2⟩)
  go_ret2
  exact ⟨rfl, below_call HB2.out hb2 (by simp; omega)⟩
set_option maxRecDepth 100000 in
set_option maxHeartbeats 4000000 in
theorem leftPub_ok (p : Nat) (c : Int) (N : Nat) (A : Option Addr) (n cp : Nat) (hs : List Tri) (W : World) (hg : 0 < codes p c) (hN : codes p c = N) (hsl : Slt W A n cp hs) (hh : histOk p N hs = true) :
    Calls Try.prog 40 #[.int .i64 p, .int .i64 c, .slice A n cp] W fun e w' => ∃ A' c', e = .returned (.tuple #[.slice A' (leftL c p N hs).length c', .int .i64 0]) ∧ w'.ownsRow W.heap.size 3 1 (.slice A' (leftL c p N hs).length c') (leftL c p N hs).length ((leftL c p N hs).map (Value.int .i64)) ∧ Below W.heap.size W w' := by
  obtain ⟨⟨h1, h2⟩, ⟨h3, h4⟩, h5, h6⟩ := game_facts hg hN
  have HR := hid (readYes p c none 0 0 [] W (Sl.nil W) (gameOk_iff.2 ⟨hg, by simp⟩) N hN)
  have HL := hid fun w1 (hb : Below W.heap.size W w1) => leftOk p c N A n cp hs w1 h2 h3 h4 h6 (hsl.below hb) hh
  clear hg hN hsl hh
  go_enter Try.func40, Try.ntmps40
  go_wp2_with (go_at_call 53; refine HR.out.mono ?_; rintro e w1 ⟨rfl, hb1⟩; have hz1 := hb1.size; have HB1 := hid hb1; clear hb1)
  have HB2 := hid (HB1.out.alloc hz1 (.cells #[.int .i64 p, .int .i64 c, .int .i64 N] 68))
  go_wp2_with (go_at_call 66; refine (HL.out _ HB2.out).mono ?_; rintro e w2 ⟨A2, c2, rfl, ho2, hb2⟩)
  go_ret2
  exact ⟨A2, c2, rfl, own_more ho2 (by simp; omega), below_call HB2.out hb2 (by simp; omega)⟩
end Go.Proofs.Ytdclmhmdkhpekaa
