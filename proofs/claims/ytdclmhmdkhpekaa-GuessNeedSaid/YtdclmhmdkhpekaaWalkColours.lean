/- The walk of the law GuessColours. No condition. -/
import Derived.Test.YtdclmhmdkhpekaaNeedP
import Derived.Test.YtdclmhmdkhpekaaNeedM
import Derived.Test.YtdclmhmdkhpekaaWalkMarks
namespace Go.Proofs.Ytdclmhmdkhpekaa
open Go.RowKit Go.Maps

theorem codes_one {c : Int} (h1 : 1 ≤ c) (h6 : c ≤ 6) : codes ((1 : Nat) : Int) c = ((c.toNat : Nat) : Int) := by
  unfold codes
  have e : pw c (((1 : Nat) : Int)).toNat = c := by simp [pw]
  rw [e, if_pos (by omega)]; omega
theorem codes_nat (p c : Int) : ∃ N : Nat, codes p c = N := ⟨(codes p c).toNat, by have := (codes_bd p c).1; omega⟩

set_option maxRecDepth 100000 in
set_option maxHeartbeats 4000000 in
theorem guessColours_walk (w : World) (p : Int) (wp : (Lit.int .i64 p).wf = true) (c : Int) (wc : (Lit.int .i64 c).wf = true) :
    Calls Try.prog 6 #[.int .i64 p, .int .i64 c] w fun e w' => e = .returned (.bool true) ∧ Below w.heap.size w w' := by
  by_cases h : 0 < codes p c ∧ codes p c ≤ 27
  · obtain ⟨N, hN⟩ := codes_nat p c
    have hc := codes_pos h.1
    obtain ⟨q, rfl⟩ := Int.eq_ofNat_of_zero_le (show 0 ≤ p by omega)
    obtain ⟨G, hp1, hp4, hN1⟩ := game_of h.1 hN
    have hg : gameOk q c [] = true := gameOk_iff.2 ⟨h.1, by simp⟩
    have HG := fun W => hid (gameLaw q c none 0 0 [] W (Sl.nil W) true hg)
    have H1 := fun W => hid (needPub_ok q c N W h.1 hN (by have := h.2; omega))
    have hco := codes_one hc.2.2.1 hc.2.2.2.1
    have H3 := fun W => hid (show Calls Try.prog 22 #[.int .i64 1, .int .i64 c] W fun e w' => NeedOut c 1 c.toNat e ∧ Below W.heap.size W w' from needPub_ok 1 c c.toNat W (by rw [hco]; omega) hco (by omega))
    have hc1 := hc.2.2.1
    have hc6 := hc.2.2.2.1
    have hq4 := hc.2.1
    have HGM := hid G
    have hNq : (N : Int) = pw c q := G.N_eq
    have HNQ := hid hNq
    have HC5 : Hid (0 < codes q (c + 1) → c + 1 ≤ 6) := hid fun h => (codes_pos h).2.2.2.1
    clear hg hco hc h hN G hNq
    go_enter Try.func6, Try.ntmps6
    go_wp2_with fail
    refine (H1 _).out.mono ?_; rintro e w1 ⟨⟨n, rfl, hn⟩, hb1⟩
    have hz1 := hb1.size
    have HNE := hid hn
    have HB1 := hid hb1
    have hn1 := hn.pos
    have hnle : n ≤ N := HGM.out.need_le hn hN1
    have b1 : decide ((n : Int) < 1) = false := decide_eq_false (by omega)
    have hN256 : N ≤ 100000 := by
      have h1 := HNQ.out
      have h2 := pw_bd c q hc1 hc6 (by omega)
      omega
    have hfac : (q = 1 → (n : Int) = c) ∧ (n = 1 ↔ c = 1) := by
      refine ⟨fun e => ?_, ?_⟩
      · subst e
        exact need_hole hc1 hc6 HNQ.out hn
      · rw [HGM.out.need_one hn]
        have h1 := HNQ.out
        constructor
        · intro hle
          rcases Int.lt_or_le 1 c with g | g
          · have := pw_ge (show 2 ≤ c by omega) q hp1
            omega
          · omega
        · rintro rfl
          rw [pw_one] at h1
          omega
    have HFAC := hid hfac
    have H2 : ∀ W, Hid (Calls Try.prog 22 #[.int .i64 q, .int .i64 (c + 1)] W fun e w' => (NeedOut (c + 1) q (codes q (c + 1)).toNat e ∧ (0 < codes q (c + 1) ∧ codes q (c + 1) ≤ 27) ∨ e = .returned (.tuple #[.int .i64 0, .int .i64 2])) ∧ Below W.heap.size W w') := by
      intro W
      by_cases h2 : 0 < codes q (c + 1) ∧ codes q (c + 1) ≤ 27
      · exact hid ((needPub_ok q (c + 1) (codes q (c + 1)).toNat W h2.1 (by omega) (by omega)).mono fun e w' ⟨a, b⟩ => ⟨.inl ⟨a, h2⟩, b⟩)
      · exact hid ((needPub_bad q (c + 1) W h2).mono fun e w' ⟨a, b⟩ => ⟨.inr a, b⟩)
    have hone : ∀ (n' : Nat), Needs c 1 c.toNat n' → (n' : Int) = c := fun n' hn' => need_hole hc1 hc6 (by simp [pw]; omega) hn'
    have HON := hid hone
    have hq : (((q : Nat) : Int) == 1) = false ∨ ((((q : Nat) : Int) == 1) = true ∧ ((n : Int) != c) = false ∧ (q == 1) = true) := by
      by_cases e : q = 1
      · right
        have := hfac.1 e
        exact ⟨by simp [e], by simp [this], by simp [e]⟩
      · left; rw [beq_eq_false_iff_ne]; omega
    have hcc : (((n : Int) == 1) = true ∧ (c == 1) = true ∧ (n == 1) = true) ∨ (((n : Int) == 1) = false ∧ (c == 1) = false ∧ (n == 1) = false) := by
      by_cases e : n = 1
      · left
        have := hfac.2.1 e
        exact ⟨by simp [e], by simp [this], by simp [e]⟩
      · right
        have : c ≠ 1 := fun h => e (hfac.2.2 h)
        exact ⟨by rw [beq_eq_false_iff_ne]; omega, by rw [beq_eq_false_iff_ne]; exact this, by rw [beq_eq_false_iff_ne]; exact e⟩
    clear hn hb1 hfac hone
    rcases hq with q1 | ⟨q1, q2, q3⟩
    all_goals
      rcases hcc with ⟨c1, c2, c3⟩ | ⟨c1, c2, c3⟩
    all_goals
      go_wp2_with (go_at_call 19; refine (HG _).out.mono ?_; rintro e w2 ⟨rfl, rfl⟩)
      refine (H2 _).out.mono ?_; rintro e w3 ⟨hor, hb3⟩
      have hz3 := hb3.size
      rcases hor with ⟨⟨m, rfl, hm⟩, h27⟩ | rfl
    all_goals first
      | (have hmn : n ≤ m := by
          have hr := codes_pos h27.1
          rw [Int.toNat_natCast] at hr
          exact need_more hp1 (by omega) hc1 (HC5.out h27.1) HNQ.out (by rw [← hr.2.2.2.2.2]; omega) (by omega) HNE.out hm
         have b2 : decide ((m : Int) < n) = false := decide_eq_false (by omega)
         have b3 : decide (m < n) = false := decide_eq_false (by omega)
         clear hm h27 hmn
         go_wp2_with fail)
      | (go_wp2_with fail)
    all_goals
      refine (H3 _).out.mono ?_; rintro e w4 ⟨⟨n4, rfl, hn4⟩, hb4⟩
      have h4 := HON.out n4 hn4
      have b4 : ((n4 : Int) == c) = true := by rw [h4]; simp
      have HB4 := hid (below_call (below_call HB1.out hb3 hz1) hb4 (Nat.le_trans hz1 hz3))
      have HZ4 := hid hb4.size
      clear hn4 h4 hb3 hb4
      go_wp2_with (go_at_call 20; refine (awake _).mono ?_; rintro e w5 ⟨rfl, hb5⟩)
      go_ret
      exact ⟨rfl, below_call HB4.out hb5 (Nat.le_trans hz1 (Nat.le_trans hz3 HZ4.out))⟩
  · have H1 := fun W => hid (needPub_bad p c W h)
    clear h
    go_enter Try.func6, Try.ntmps6
    go_wp2_with (first | (go_at_call 22; refine (H1 _).out.mono ?_; rintro e w1 ⟨rfl, hb1⟩; have hz1 := hb1.size) | (go_at_call 20; refine (awake _).mono ?_; rintro e w2 ⟨rfl, hb2⟩))
    go_ret
    exact ⟨rfl, below_call hb1 hb2 hz1⟩
end Go.Proofs.Ytdclmhmdkhpekaa
