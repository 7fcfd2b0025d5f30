/- Walk of LearnTurns. No condition. -/
import Derived.Test.YtpebglilphgamaaTurnP
import Derived.Test.YtpebglilphgamaaWalkLeft
namespace Go.Proofs.Ytpebglilphgamaa
open Go.RowKit

attribute [local go_sem ↓] shl_p2

set_option maxRecDepth 100000 in
set_option maxHeartbeats 1000000 in
theorem learnTurns_bad (w : World) (p : Int) (A : Option Addr) (n c : Nat) (xs : List Int) (s : Int) (hs : Sl w A n c (xs.map (Value.int .i64))) (h : ¬ (Cls p xs ∧ 0 ≤ s ∧ s < p2 p)) :
    Calls Try.prog 14 #[.int .i64 p, .slice A n c, .int .i64 s] w fun e w' => e = .returned (.bool true) ∧ Below w.heap.size w w' := by
  have hn := hs.numlen
  have HL := hid fun W (hb : Below w.heap.size w W) => lawList A n c xs W (hs.below hb)
  have hB : ¬ (Cls p (xs.take (min n 20)) ∧ 0 ≤ s ∧ s < p2 p) := fun H => h ⟨(cls_take hn).1 H.1, H.2⟩
  have HG := hid fun A' c' W (s1 : Sl W A' (min n 20) c' ((xs.take (min n 20)).map (Value.int .i64))) => turnBad p A' (min n 20) c' _ s W s1 hB
  by_cases hc : Cls p xs
  · have HC := hid fun W (hb : Below w.heap.size w W) => refClassOk p A n c xs W (hs.below hb) hc
    have FP := hc.fits
    by_cases h1 : s < 0
    · have g1 : decide (s < 0) = true := decide_eq_true h1
      clear hs hB h hn hc h1
      go_enter Try.func14, Try.ntmps14
      go_wp2_with fail
      refine (HL.out _ (Below.refl _ _)).mono ?_; rintro e w1 ⟨A1, c1, rfl, o1, b1⟩
      have s1 := Sl.of_own o1
      go_wp2_with fail
      refine (HG.out _ _ _ s1).mono ?_; rintro e w2 ⟨rfl, b2⟩
      have b12 : Below w.heap.size w w2 := below_call b1 b2 b1.size
      clear s1 o1 b1 b2
      go_wp2_with fail
      refine (HC.out _ b12).mono ?_; rintro e w3 ⟨rfl, rfl⟩
      go_wp2_with (go_at_call 21; refine (awake _).mono ?_; rintro e w6 ⟨rfl, b6⟩)
      go_ret
      exact ⟨rfl, below_call b12 b6 b12.size⟩
    · have g1 : decide (s < 0) = false := decide_eq_false h1
      have g2 : decide (p2 p ≤ s) = true := decide_eq_true (by
        rcases Int.lt_or_le s (p2 p) with g | g
        · exact absurd ⟨hc, by omega, g⟩ h
        · exact g)
      clear hs hB h hn hc h1
      go_enter Try.func14, Try.ntmps14
      go_wp2_with fail
      refine (HL.out _ (Below.refl _ _)).mono ?_; rintro e w1 ⟨A1, c1, rfl, o1, b1⟩
      have s1 := Sl.of_own o1
      go_wp2_with fail
      refine (HG.out _ _ _ s1).mono ?_; rintro e w2 ⟨rfl, b2⟩
      have b12 : Below w.heap.size w w2 := below_call b1 b2 b1.size
      clear s1 o1 b1 b2
      go_wp2_with fail
      refine (HC.out _ b12).mono ?_; rintro e w3 ⟨rfl, rfl⟩
      go_wp2_with (go_at_call 21; refine (awake _).mono ?_; rintro e w6 ⟨rfl, b6⟩)
      go_ret
      exact ⟨rfl, below_call b12 b6 b12.size⟩
  · have HC := hid fun W (hb : Below w.heap.size w W) => refClassBad p A n c xs W (hs.below hb) hc
    clear hs hB h hn hc
    go_enter Try.func14, Try.ntmps14
    go_wp2_with fail
    refine (HL.out _ (Below.refl _ _)).mono ?_; rintro e w1 ⟨A1, c1, rfl, o1, b1⟩
    have s1 := Sl.of_own o1
    go_wp2_with fail
    refine (HG.out _ _ _ s1).mono ?_; rintro e w2 ⟨rfl, b2⟩
    have b12 : Below w.heap.size w w2 := below_call b1 b2 b1.size
    clear s1 o1 b1 b2
    go_wp2_with fail
    refine (HC.out _ b12).mono ?_; rintro e w3 ⟨rfl, rfl⟩
    go_wp2_with (go_at_call 21; refine (awake _).mono ?_; rintro e w6 ⟨rfl, b6⟩)
    go_ret
    exact ⟨rfl, below_call b12 b6 b12.size⟩

set_option maxRecDepth 100000 in
set_option maxHeartbeats 1000000 in
theorem learnTurns_good (w : World) (p : Nat) (A : Option Addr) (n c : Nat) (xs : List Int) (s : Nat) (hs : Sl w A n c (xs.map (Value.int .i64))) (h : Cls p xs) (hsp : s < 2 ^ p) :
    Calls Try.prog 14 #[.int .i64 p, .slice A n c, .int .i64 s] w fun e w' => e = .returned (.bool true) ∧ Below w.heap.size w w' := by
  have hn := hs.numlen
  have h1 := take_min20 hn (by have := h.n16; omega)
  have h3 : min n 20 = n := Nat.min_eq_left (by have := h.n16; omega)
  have hp : p ≤ 5 := by have := h.p5; omega
  have h32 := Nat.pow_le_pow_right (show 0 < 2 by decide) hp
  have HL := hid fun W (hb : Below w.heap.size w W) => lawList A n c xs W (hs.below hb)
  rw [h1, h3] at HL
  have HG := hid fun A' c' W (s1 : Sl W A' n c' (xs.map (Value.int .i64))) => turnOk p A' n c' xs s W s1 h hsp
  have HC := hid fun W (hb : Below w.heap.size w W) => refClassOk p A n c xs W (hs.below hb) h
  have HR := hid fun W (hb : Below w.heap.size w W) => refTurn A n c xs s (by omega) W (hs.below hb)
  have hE := turnR_eq hp hsp h.inP h.pair
  unfold turnL at hE
  rw [← hE] at HR
  generalize sortI (xs.map (xorI s)) = ys at *
  have FP := h.fits
  have g1 : decide ((s : Int) < 0) = false := decide_eq_false (by omega)
  have g2 : decide (p2 (p : Int) ≤ (s : Int)) = false := decide_eq_false (by rw [p2_nat]; omega)
  clear hs h hn h1 h3 hp h32 hE hsp
  go_enter Try.func14, Try.ntmps14
  go_wp2_with fail
  refine (HL.out _ (Below.refl _ _)).mono ?_; rintro e w1 ⟨A1, c1, rfl, o1, b1⟩
  have s1 := Sl.of_own o1
  go_wp2_with fail
  refine (HG.out _ _ _ s1).mono ?_; rintro e w2 ⟨A2, c2, rfl, o2, b2⟩
  have b12 : Below w.heap.size w w2 := below_call b1 b2 b1.size
  have s2 := Sl.of_own o2
  clear s1 o1 b1 b2 o2
  go_wp2_with fail
  refine (HC.out _ b12).mono ?_; rintro e w3 ⟨rfl, rfl⟩
  go_wp2_with fail
  refine (HR.out _ b12).mono ?_; rintro e w4 ⟨A4, q4, c4, rfl, o4, b4⟩
  have b14 : Below w.heap.size w w4 := below_call b12 b4 b12.size
  have s4 := Sl.of_own o4
  have s24 := s2.below b4
  have HQ := hid (equalSame A2 A4 n c2 q4 c4 _ _ s24 s4)
  clear o4 b4 s2 s4 s24
  go_wp2_with fail
  refine (HQ.out).mono ?_; rintro e w5 ⟨rfl, b5⟩
  have b15 : Below w.heap.size w w5 := below_call b14 b5 b14.size
  go_wp2_with (go_at_call 21; refine (awake _).mono ?_; rintro e w6 ⟨rfl, b6⟩)
  go_ret
  exact ⟨rfl, below_call b15 b6 b15.size⟩

theorem learnTurns_walk (w : World) (p : Int) (_ : (Lit.int .i64 p).wf = true) (A : Option Addr) (n c : Nat) (xs : List Int) (hs : Sl w A n c (xs.map (Value.int .i64))) (_ : ∀ x ∈ xs, -9223372036854775808 ≤ x ∧ x ≤ 9223372036854775807) (s : Int) (_ : (Lit.int .i64 s).wf = true) :
    Calls Try.prog 14 #[.int .i64 p, .slice A n c, .int .i64 s] w fun e w' => e = .returned (.bool true) ∧ Below w.heap.size w w' := by
  by_cases h : Cls p xs ∧ 0 ≤ s ∧ s < p2 p
  · obtain ⟨q, rfl⟩ := Int.eq_ofNat_of_zero_le (show 0 ≤ p by have := h.1.p1; omega)
    obtain ⟨t, rfl⟩ := Int.eq_ofNat_of_zero_le h.2.1
    exact learnTurns_good w q A n c xs t hs h.1 (by have := h.2.2; rw [p2_nat] at this; omega)
  · exact learnTurns_bad w p A n c xs s hs h
end Go.Proofs.Ytpebglilphgamaa
