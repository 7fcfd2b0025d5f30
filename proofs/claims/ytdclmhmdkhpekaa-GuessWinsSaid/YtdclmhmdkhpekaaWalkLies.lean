/- The walk of the law GuessLies. No condition. -/
import Derived.Test.YtdclmhmdkhpekaaLie
import Derived.Test.YtdclmhmdkhpekaaMarksPub
namespace Go.Proofs.Ytdclmhmdkhpekaa
open Go.RowKit

/-- The beginnings of both are what both are, where it matters. -/
theorem both_take {m : Int} {xs q : List Int} {n k : Nat} (hn : xs.length = n) (hk : q.length = k) : (stateOk m (xs.take (min n 7)) = true ∧ askOk (xs.take (min n 7)) (q.take (min k 7)) = true) ↔ (stateOk m xs = true ∧ askOk xs q = true) := by
  rw [stateOk_take hn]
  constructor
  · rintro ⟨h1, h2⟩
    exact ⟨h1, by rwa [askOk_take hn hk h1] at h2⟩
  · rintro ⟨h1, h2⟩
    exact ⟨h1, by rwa [askOk_take hn hk h1]⟩

set_option maxRecDepth 100000 in
set_option maxHeartbeats 2000000 in
theorem guessLies_walk (w : World) (A : Option Addr) (n c : Nat) (xs : List Int) (hs : Sl w A n c (xs.map (Value.int .i64))) (_ : ∀ x ∈ xs, -9223372036854775808 ≤ x ∧ x ≤ 9223372036854775807)
    (B : Option Addr) (n' d : Nat) (q : List Int) (hq : Sl w B n' d (q.map (Value.int .i64))) (_ : ∀ x ∈ q, -9223372036854775808 ≤ x ∧ x ≤ 9223372036854775807) (k : Int) (_ : (Lit.int .i64 k).wf = true) :
    Calls Try.prog 8 #[.slice A n c, .slice B n' d, .int .i64 k] w fun e w' => e = .returned (.bool true) ∧ Below w.heap.size w w' := by
  have hn := hs.numlen
  have hk := hq.numlen
  have L1 := hid (lawList A n c xs w hs)
  have L2 := fun (W : World) (hW : Below w.heap.size w W) => lawList B n' d q W (hq.below hW)
  have HL2 := hid L2
  have VS := fun (W : World) (hW : Below w.heap.size w W) => refState A n c xs 200 (by omega) W (hs.below hW)
  have VQ := fun (W : World) (hW : Below w.heap.size w W) => refQuestion A B n c n' d xs q W (hs.below hW) (hq.below hW)
  clear L2
  by_cases hok : stateOk 200 xs = true ∧ askOk xs q = true ∧ 1 ≤ k ∧ k ≤ 30
  · obtain ⟨h1, h2, h3, h4⟩ := hok
    have e1 : xs.take (min n 7) = xs := take_min7 hn (by have := stateOk_len h1; omega)
    have e2 : q.take (min n' 7) = q := take_min7 hk (by have := stateOk_len h1; have := (askOk_iff.1 h2).1; omega)
    rw [e1] at L1
    rw [e2] at HL2
    rw [h1] at VS
    rw [h2] at VQ
    have HVS := hid VS; have HVQ := hid VQ
    have HP := hid fun (A1 A2 : Option Addr) (c1 c2 : Nat) (W : World) (s1 : Sl W A1 (min n 7) c1 (xs.map (Value.int .i64))) (s2 : Sl W A2 (min n' 7) c2 (q.map (Value.int .i64))) => progLie_ok A1 A2 (min n 7) c1 (min n' 7) c2 xs q k W s1 s2 h1 h2 h3 h4
    have HR := hid fun (W : World) (hW : Below w.heap.size w W) => refLie A B n c n' d xs q k W (hs.below hW) (hq.below hW) h1 h2 h3 h4
    clear VS VQ h1 h2 e1 e2 hn hk hs hq
    have h3' : decide (k < 1) = false := by simpa using h3
    go_enter Try.func8, Try.ntmps8
    go_wp2_with fail
    refine (L1.out).mono ?_
    rintro e w1 ⟨A1, c1, rfl, ho1, hb1⟩
    have s1 := Sl.of_own ho1
    have hz1 := hb1.size
    clear ho1
    go_wp2_with fail
    refine (HL2.out _ hb1).mono ?_
    rintro e w2 ⟨A2, c2, rfl, ho2, hb2⟩
    have s2 := Sl.of_own ho2
    have s1' := s1.below hb2
    have hz2 := hb2.size
    have hb12 := below_call hb1 hb2 hz1
    clear ho2 s1
    go_wp2_with fail
    refine (HP.out _ _ _ _ _ s1' s2).mono ?_
    rintro e w3 ⟨rfl, hb3⟩
    have hz3 := hb3.size
    have hb13 := below_call hb12 hb3 (by omega)
    clear s1' s2
    go_wp2_with (first | (go_at_call 29; refine (HVS.out _ hb13).mono ?_; rintro e w' ⟨rfl, rfl⟩) | (go_at_call 30; refine (HVQ.out _ hb13).mono ?_; rintro e w' ⟨rfl, rfl⟩) | (go_at_call 31; refine (HR.out _ hb13).mono ?_; rintro e w4 ⟨rfl, hb4⟩; have hz4 := hb4.size) | (go_at_call 20; refine (awake _).mono ?_; rintro e w5 ⟨rfl, hb5⟩))
    go_ret
    exact ⟨rfl, below_call (below_call hb13 hb4 (by omega)) hb5 (by omega)⟩
  · have hok' : ¬ (stateOk 200 (xs.take (min n 7)) = true ∧ askOk (xs.take (min n 7)) (q.take (min n' 7)) = true ∧ 1 ≤ k ∧ k ≤ 30) := by
      rintro ⟨a, b, c⟩
      have := (both_take (m := 200) hn hk).1 ⟨a, b⟩
      exact hok ⟨this.1, this.2, c⟩
    have HP := hid fun (A1 A2 : Option Addr) (c1 c2 : Nat) (W : World) (s1 : Sl W A1 (min n 7) c1 ((xs.take (min n 7)).map (Value.int .i64))) (s2 : Sl W A2 (min n' 7) c2 ((q.take (min n' 7)).map (Value.int .i64))) => progLie_bad A1 A2 (min n 7) c1 (min n' 7) c2 _ _ k W s1 s2 hok'
    have hcase : stateOk 200 xs = false ∨ (stateOk 200 xs = true ∧ askOk xs q = false) ∨ (stateOk 200 xs = true ∧ askOk xs q = true ∧ k < 1) ∨ (stateOk 200 xs = true ∧ askOk xs q = true ∧ decide (k < 1) = false ∧ 30 < k) := by
      cases h1 : stateOk 200 xs
      · exact .inl rfl
      · cases h2 : askOk xs q
        · exact .inr (.inl ⟨rfl, rfl⟩)
        · by_cases e : k < 1
          · exact .inr (.inr (.inl ⟨rfl, rfl, e⟩))
          · exact .inr (.inr (.inr ⟨rfl, rfl, by simpa using e, by by_cases e2 : 30 < k; exact e2; exact absurd ⟨h1, h2, by omega, by omega⟩ hok⟩))
    clear hok hok' hn hk hs hq
    rcases hcase with h1 | ⟨h1, h2⟩ | ⟨h1, h2, h3⟩ | ⟨h1, h2, h3, h4⟩
    all_goals rw [h1] at VS
    any_goals rw [h2] at VQ
    all_goals
      have HVS := hid VS; have HVQ := hid VQ
      clear VS VQ h1
    any_goals clear h2
    all_goals
      go_enter Try.func8, Try.ntmps8
      go_wp2_with fail
      refine (L1.out).mono ?_
      rintro e w1 ⟨A1, c1, rfl, ho1, hb1⟩
      have s1 := Sl.of_own ho1
      have hz1 := hb1.size
      clear ho1
      go_wp2_with fail
      refine (HL2.out _ hb1).mono ?_
      rintro e w2 ⟨A2, c2, rfl, ho2, hb2⟩
      have s2 := Sl.of_own ho2
      have s1' := s1.below hb2
      have hz2 := hb2.size
      have hb12 := below_call hb1 hb2 hz1
      clear ho2 s1
      go_wp2_with fail
      refine (HP.out _ _ _ _ _ s1' s2).mono ?_
      rintro e w3 ⟨rfl, rfl⟩
      clear s1' s2
      go_wp2_with (first | (go_at_call 29; refine (HVS.out _ hb12).mono ?_; rintro e w' ⟨rfl, rfl⟩) | (go_at_call 30; refine (HVQ.out _ hb12).mono ?_; rintro e w' ⟨rfl, rfl⟩) | (go_at_call 20; refine (awake _).mono ?_; rintro e w5 ⟨rfl, hb5⟩))
      go_ret
      exact ⟨rfl, below_call hb12 hb5 (by omega)⟩
end Go.Proofs.Ytdclmhmdkhpekaa
