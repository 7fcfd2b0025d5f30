/- The walk of the law GuessAfter. No condition. -/
import Derived.Test.YtdclmhmdkhpekaaWalkLies
namespace Go.Proofs.Ytdclmhmdkhpekaa
open Go.RowKit

/-- What law GuessAfter's calls of list give. -/
structure Lists (w : World) (A B : Option Addr) (n c n' d : Nat) (xs q : List Int) : Prop where
  l1 : ∀ W, Below w.heap.size w W → Calls Try.prog 28 #[.slice A n c] W fun e w' => ∃ A' c', e = .returned (.slice A' (min n 7) c') ∧ w'.ownsRow W.heap.size 3 1 (.slice A' (min n 7) c') (min n 7) ((xs.take (min n 7)).map (Value.int .i64)) ∧ Below W.heap.size W w'
  l2 : ∀ W, Below w.heap.size w W → Calls Try.prog 28 #[.slice B n' d] W fun e w' => ∃ A' c', e = .returned (.slice A' (min n' 7) c') ∧ w'.ownsRow W.heap.size 3 1 (.slice A' (min n' 7) c') (min n' 7) ((q.take (min n' 7)).map (Value.int .i64)) ∧ Below W.heap.size W w'

theorem afterPub_yes (A B : Option Addr) (n c n' d : Nat) (xs q : List Int) (yes : Bool) (w : World) (hs : Sl w A n c (xs.map (Value.int .i64))) (hq : Sl w B n' d (q.map (Value.int .i64))) (h1 : stateOk 200 xs = true) (h2 : askOk xs q = true) :
    Calls Try.prog 32 #[.slice A n c, .slice B n' d, .bool yes] w fun e w' => ∃ A' c', e = .returned (.tuple #[.slice A' n c', .int .i64 0]) ∧ Sl w' A' n c' ((after yes xs q).map (Value.int .i64)) ∧ Below w.heap.size w w' :=
  (progAfterPub_ok A B n c n' d xs q yes w hs hq h1 h2).mono fun _ _ ⟨A', c', he, ho, hb⟩ => ⟨A', c', he, Sl.of_own ho, hb⟩
theorem afterPub_no (A B : Option Addr) (n c n' d : Nat) (xs q : List Int) (yes : Bool) (w : World) (hs : Sl w A n c (xs.map (Value.int .i64))) (hq : Sl w B n' d (q.map (Value.int .i64))) (h : ¬ (stateOk 200 xs = true ∧ askOk xs q = true)) :
    Calls Try.prog 32 #[.slice A n c, .slice B n' d, .bool yes] w fun e w' => ∃ A' c', e = .returned (.tuple #[.slice A' 0 c', .int .i64 2]) ∧ Sl w' A' 0 c' (([] : List Int).map (Value.int .i64)) ∧ Below w.heap.size w w' :=
  (progAfterPub_bad A B n c n' d xs q yes w hs hq h).mono fun _ _ ⟨he, hw⟩ => ⟨none, 0, he, by subst hw; exact Sl.nil _, by subst hw; exact Below.refl _ _⟩

set_option maxRecDepth 100000 in
set_option maxHeartbeats 2000000 in
theorem guessAfter_walk (w : World) (A : Option Addr) (n c : Nat) (xs : List Int) (hs : Sl w A n c (xs.map (Value.int .i64))) (_ : ∀ x ∈ xs, -9223372036854775808 ≤ x ∧ x ≤ 9223372036854775807)
    (B : Option Addr) (n' d : Nat) (q : List Int) (hq : Sl w B n' d (q.map (Value.int .i64))) (_ : ∀ x ∈ q, -9223372036854775808 ≤ x ∧ x ≤ 9223372036854775807) (yes : Bool) (k : Int) (_ : (Lit.int .i64 k).wf = true) :
    Calls Try.prog 10 #[.slice A n c, .slice B n' d, .bool yes, .int .i64 k] w fun e w' => e = .returned (.bool true) ∧ Below w.heap.size w w' := by
  have hn := hs.numlen
  have hk := hq.numlen
  have HL : Lists w A B n c n' d xs q := ⟨fun W hW => lawList A n c xs W (hs.below hW), fun W hW => lawList B n' d q W (hq.below hW)⟩
  have VS := fun (W : World) (hW : Below w.heap.size w W) => refState A n c xs 200 (by omega) W (hs.below hW)
  have VQ := fun (W : World) (hW : Below w.heap.size w W) => refQuestion A B n c n' d xs q W (hs.below hW) (hq.below hW)
  cases h1 : stateOk 200 xs
  · have h1' : stateOk 200 (xs.take (min n 7)) = false := by rw [stateOk_take hn]; exact h1
    have HA := hid fun (A1 A2 : Option Addr) (c1 c2 : Nat) (W : World) (s1 : Sl W A1 (min n 7) c1 ((xs.take (min n 7)).map (Value.int .i64))) (s2 : Sl W A2 (min n' 7) c2 ((q.take (min n' 7)).map (Value.int .i64))) => progAfterPub_bad A1 A2 (min n 7) c1 (min n' 7) c2 _ _ yes W s1 s2 (by rw [h1']; simp)
    have HW := hid fun (A1 : Option Addr) (c1 : Nat) (W : World) (s1 : Sl W A1 (min n 7) c1 ((xs.take (min n 7)).map (Value.int .i64))) => progWeightPub_bad A1 (min n 7) c1 _ k W s1 (by rw [h1']; simp)
    rw [h1] at VS
    have HVS := hid VS
    clear VS VQ h1 h1' hs hq hn hk
    go_enter Try.func10, Try.ntmps10
    go_wp2_with fail
    refine (HL.l1 _ (Below.refl _ _)).mono ?_
    rintro e w1 ⟨A1, c1, rfl, ho1, hb1⟩
    have s1 := Sl.of_own ho1
    have hz1 := hb1.size
    clear ho1
    go_wp2_with fail
    refine (HL.l2 _ hb1).mono ?_
    rintro e w2 ⟨A2, c2, rfl, ho2, hb2⟩
    have s2 := Sl.of_own ho2
    have s1' := s1.below hb2
    have hz2 := hb2.size
    have hb12 := below_call hb1 hb2 hz1
    clear ho2 s1
    go_wp2_with fail
    refine (HA.out _ _ _ _ _ s1' s2).mono ?_
    rintro e w3 ⟨rfl, rfl⟩
    clear s1' s2
    go_wp2_with fail
    refine (HL.l1 _ hb12).mono ?_
    rintro e w4 ⟨A4, c4, rfl, ho4, hb4⟩
    have s4 := Sl.of_own ho4
    have hz4 := hb4.size
    have hb14 := below_call hb12 hb4 (by omega)
    clear ho4
    go_wp2_with fail
    refine (HW.out _ _ _ s4).mono ?_
    rintro e w5 ⟨rfl, rfl⟩
    clear s4
    go_wp2_with (first | (go_at_call 29; refine (HVS.out _ hb14).mono ?_; rintro e w' ⟨rfl, rfl⟩) | (go_at_call 20; refine (awake _).mono ?_; rintro e w6 ⟨rfl, hb6⟩))
    go_ret
    exact ⟨rfl, below_call hb14 hb6 (by omega)⟩
  · have hi := stateOk_iff.1 h1
    have e1 : xs.take (min n 7) = xs := take_min7 hn (by have := stateOk_len h1; omega)
    rw [h1] at VS
    have HVS := hid VS
    clear VS
    have hkc : ∃ wt er : Int, (∀ (A1 : Option Addr) (c1 : Nat) (W : World), Sl W A1 (min n 7) c1 ((xs.take (min n 7)).map (Value.int .i64)) → Calls Try.prog 34 #[.slice A1 (min n 7) c1, .int .i64 k] W fun e w' => e = .returned (.tuple #[.int .i64 wt, .int .i64 er]) ∧ W = w') ∧
        ((decide (k < 0) = false ∧ ¬ 30 < k ∧ wt = weight xs k ∧ er = 0) ∨ (k < 0 ∧ wt = 0 ∧ er = 2) ∨ (decide (k < 0) = false ∧ 30 < k ∧ wt = 0 ∧ er = 2)) := by
      by_cases e : 0 ≤ k ∧ k ≤ 30
      · exact ⟨weight xs k, 0, fun A1 c1 W s1 => by rw [e1] at s1; exact progWeightPub_ok A1 _ c1 xs k W s1 h1 e.1 e.2, .inl ⟨by simp; omega, by omega, rfl, rfl⟩⟩
      · refine ⟨0, 2, fun A1 c1 W s1 => progWeightPub_bad A1 _ c1 _ k W s1 (by omega), ?_⟩
        by_cases e2 : k < 0
        · exact .inr (.inl ⟨e2, rfl, rfl⟩)
        · exact .inr (.inr ⟨by simpa using e2, by omega, rfl, rfl⟩)
    have hac : ∃ (m : Nat) (ys : List Int) (er : Int), (∀ (A1 A2 : Option Addr) (c1 c2 : Nat) (W : World), Sl W A1 (min n 7) c1 ((xs.take (min n 7)).map (Value.int .i64)) → Sl W A2 (min n' 7) c2 ((q.take (min n' 7)).map (Value.int .i64)) → Calls Try.prog 32 #[.slice A1 (min n 7) c1, .slice A2 (min n' 7) c2, .bool yes] W fun e w' => ∃ A' c', e = .returned (.tuple #[.slice A' m c', .int .i64 er]) ∧ Sl w' A' m c' (ys.map (Value.int .i64)) ∧ Below W.heap.size W w') ∧
        ((askOk xs q = true ∧ ys = after yes xs q ∧ m = n ∧ er = 0 ∧ n' = n) ∨ (askOk xs q = false ∧ m = 0 ∧ er = 2)) := by
      cases h2 : askOk xs q
      · exact ⟨0, [], 2, fun A1 A2 c1 c2 W s1 s2 => afterPub_no A1 A2 _ c1 _ c2 _ _ yes W s1 s2 (by rw [askOk_take hn hk h1, h2]; simp), .inr ⟨rfl, rfl, rfl⟩⟩
      · have hnn : n' = n := by have := (askOk_iff.1 h2).1; omega
        have hm : min n 7 = n := Nat.min_eq_left (by have := stateOk_len h1; omega)
        have e2 : q.take (min n' 7) = q := take_min7 hk (by have := stateOk_len h1; omega)
        refine ⟨n, after yes xs q, 0, fun A1 A2 c1 c2 W s1 s2 => ?_, .inl ⟨rfl, rfl, rfl, rfl, hnn⟩⟩
        rw [e1] at s1
        rw [e2] at s2
        rw [hm] at s1 ⊢
        exact afterPub_yes A1 A2 n c1 (min n' 7) c2 xs q yes W s1 s2 h1 h2
    obtain ⟨wt, er, HW, hkc⟩ := hkc
    obtain ⟨m, ys, er', HA, hac⟩ := hac
    have HW := hid HW; have HA := hid HA
    have HRW := hid fun (h0 : 0 ≤ k) (h30 : k ≤ 30) (W : World) (hW : Below w.heap.size w W) => refWeight A n c xs k h0 (by omega) (by omega) (fun x hx => by have := hi.2.2.1 x hx; omega) W (hs.below hW)
    have HRA := hid fun (h2 : askOk xs q = true) (hnn : n' = n) (W : World) (hW : Below w.heap.size w W) => refAfter A B n c d xs q yes 200 (by omega) (by omega) (by omega) (by omega) hi.2.2.1 h2 W (hs.below hW) (hnn ▸ hq.below hW)
    clear hs hq hn hk e1 hi h1
    rcases hac with ⟨h2, rfl, rfl, rfl, rfl⟩ | ⟨h2, rfl, rfl⟩ <;> rcases hkc with ⟨g1, g2, rfl, rfl⟩ | ⟨g1, rfl, rfl⟩ | ⟨g1, g2, rfl, rfl⟩
    all_goals
      rw [h2] at VQ
      have HVQ := hid VQ
      have H2 := hid h2
      clear VQ h2
      go_enter Try.func10, Try.ntmps10
      go_wp2_with fail
      refine (HL.l1 _ (Below.refl _ _)).mono ?_
      rintro e w1 ⟨A1, c1, rfl, ho1, hb1⟩
      have s1 := Sl.of_own ho1
      have hz1 := hb1.size
      clear ho1
      go_wp2_with fail
      refine (HL.l2 _ hb1).mono ?_
      rintro e w2 ⟨A2, c2, rfl, ho2, hb2⟩
      have s2 := Sl.of_own ho2
      have s1' := s1.below hb2
      have hz2 := hb2.size
      have hb12 := below_call hb1 hb2 hz1
      clear ho2 s1
      go_wp2_with fail
      refine (HA.out _ _ _ _ _ s1' s2).mono ?_
      rintro e w3 ⟨A3, c3, rfl, s3, hb3⟩
      have hz3 := hb3.size
      have hb13 := below_call hb12 hb3 (by omega)
      clear s1' s2
      go_wp2_with fail
      refine (HL.l1 _ hb13).mono ?_
      rintro e w4 ⟨A4, c4, rfl, ho4, hb4⟩
      have s4 := Sl.of_own ho4
      have hz4 := hb4.size
      have hb14 := below_call hb13 hb4 (by omega)
      have s3' := s3.below hb4
      clear ho4 s3
      go_wp2_with fail
      refine (HW.out _ _ _ s4).mono ?_
      rintro e w5 ⟨rfl, rfl⟩
      clear s4
      go_wp2_with (first | (go_at_call 29; refine (HVS.out _ hb14).mono ?_; rintro e w' ⟨rfl, rfl⟩) | (go_at_call 30; refine (HVQ.out _ hb14).mono ?_; rintro e w' ⟨rfl, rfl⟩) | (go_at_call 36; refine (HRW.out (by have := of_dec_false g1; omega) (by omega) _ hb14).mono ?_; rintro e w' ⟨rfl, rfl⟩) | (go_at_call 38; refine (HRA.out H2.out (by trivial) _ hb14).mono ?_; rintro e w6 ⟨A6, c6, rfl, ho6, hb6⟩; have hz6 := hb6.size; have s6 := hid (Sl.of_own ho6); have s3' := hid (s3'.below hb6); clear ho6) | (go_at_call 37; refine (equalInts _ _ _ _ _ _ _ _ _ s3'.out s6.out).mono ?_; rintro e w7 ⟨rfl, hb7⟩; have hz7 := hb7.size) | (go_at_call 20; refine (awake _).mono ?_; rintro e w8 ⟨rfl, hb8⟩))
      go_ret
      first
        | exact ⟨rfl, below_call hb14 hb8 (by omega)⟩
        | exact ⟨rfl, below_call (below_call (below_call hb14 hb6 (by omega)) hb7 (by omega)) hb8 (by omega)⟩
end Go.Proofs.Ytdclmhmdkhpekaa
