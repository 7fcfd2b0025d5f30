/- Walk of GuessWeighs. No condition. -/
import Derived.Test.YtdclmhmdkhpekaaWinPub
import Derived.Test.YtdclmhmdkhpekaaLie
import Derived.Test.YtdclmhmdkhpekaaClone
import Derived.Test.YtdclmhmdkhpekaaMarksPub
namespace Go.Proofs.Ytdclmhmdkhpekaa
open Go.RowKit

theorem state200 {xs : List Int} (h : stateOk 24 xs = true) : stateOk 200 xs = true := by
  have hi := stateOk_iff.1 h
  exact stateOk_iff.2 ⟨hi.1, hi.2.1, fun x hx => by have := hi.2.2.1 x hx; omega, by have := hi.2.2.2; omega⟩
attribute [local go_sem ↓] shl_p2

set_option maxRecDepth 100000 in
set_option maxHeartbeats 1000000 in
theorem guessWeighs_bad (w : World) (A : Option Addr) (n c : Nat) (xs : List Int) (q : Int) (hs : Sl w A n c (xs.map (Value.int .i64))) (h : ¬ (stateOk 24 xs = true ∧ 0 ≤ q ∧ q ≤ 12)) :
    Calls Try.prog 12 #[.slice A n c, .int .i64 q] w fun e w' => e = .returned (.bool true) ∧ Below w.heap.size w w' := by
  have hn := hs.numlen
  have HL := hid (lawList A n c xs w hs)
  have HB := hid fun A' c' W (s1 : Sl W A' (min n 7) c' ((xs.take (min n 7)).map (Value.int .i64))) => winsBad A' (min n 7) c' _ q W s1 (by rw [stateOk_take hn]; exact h)
  clear hs h hn
  go_enter Try.func12, Try.ntmps12
  go_wp2_with fail
  refine HL.out.mono ?_; rintro e w1 ⟨A1, c1, rfl, o1, b1⟩
  have s1 := Sl.of_own o1
  go_wp2_with fail
  refine (HB.out _ _ _ s1).mono ?_; rintro e w2 ⟨rfl, rfl⟩
  clear s1 o1
  go_wp2_with (go_at_call 20; refine (awake _).mono ?_; rintro e w6 ⟨rfl, b6⟩)
  go_ret
  exact ⟨rfl, below_call b1 b6 b1.size⟩

set_option maxRecDepth 100000 in
set_option maxHeartbeats 2000000 in
theorem guessWeighs_good (w : World) (A : Option Addr) (n c : Nat) (xs : List Int) (q : Nat) (hq : q ≤ 12) (hs : Sl w A n c (xs.map (Value.int .i64))) (h : stateOk 24 xs = true) :
    Calls Try.prog 12 #[.slice A n c, .int .i64 q] w fun e w' => e = .returned (.bool true) ∧ Below w.heap.size w w' := by
  have hn := hs.numlen
  have e1 := take_min7 hn (by have := stateOk_len h; omega)
  have e2 : min n 7 = n := Nat.min_eq_left (by have := stateOk_len h; omega)
  have HL := hid fun W (hb : Below w.heap.size w W) => lawList A n c xs W (hs.below hb)
  rw [e1, e2] at HL
  have HP := plays24 h
  have HW := hid fun A' c' W (s1 : Sl W A' n c' (xs.map (Value.int .i64))) => winsPub A' n c' xs q hq W s1 h
  have HZ := hid fun A' c' W (s1 : Sl W A' n c' (xs.map (Value.int .i64))) => winsPub A' n c' xs 0 (by omega) W s1 h
  have HG := hid fun A' c' W (s1 : Sl W A' n c' (xs.map (Value.int .i64))) => progWeightPub_ok A' n c' xs q W s1 (state200 h) (by omega) (by omega)
  have HST := hid fun W (hb : Below w.heap.size w W) => refState A n c xs 24 (by omega) W (hs.below hb)
  rw [h] at HST
  have HSM := hid fun W (hb : Below w.heap.size w W) => lawSum A n c xs 1000 (by omega) (by have := HP.nn.hi; omega) HP.bd W (hs.below hb)
  have g1 : decide ((q : Int) < 0) = false := decide_eq_false (by omega)
  have g2 : decide (12 < (q : Int)) = false := decide_eq_false (by omega)
  have g3 : decide (12 < q) = false := decide_eq_false (by omega)
  have FQ : Fits (q : Int) := ⟨by omega, by omega⟩
  have hz0 : winS 0 xs = decide (total xs ≤ 1) := rfl
  have hww := fun hw => winS_weight (q := q) HP.nn hw
  have hsm := fun ht => winS_small (xs := xs) ht q
  clear hs h hn e1 e2 HP
  by_cases t : total xs ≤ 1
  · have k1 : decide (total xs ≤ 1) = true := decide_eq_true t
    have k2 := hsm t
    have k3 : decide (weight xs q ≤ p2 q) = true := decide_eq_true (hww k2)
    rw [k1] at hz0
    rw [k2] at HW
    rw [hz0] at HZ
    clear hww hsm k2 hz0 t
    go_enter Try.func12, Try.ntmps12
    go_wp2_with fail
    refine (HL.out _ (Below.refl _ _)).mono ?_; rintro e w1 ⟨A1, c1, rfl, o1, b1⟩
    have s1 := Sl.of_own o1
    go_wp2_with fail
    refine (HW.out _ _ _ s1).mono ?_; rintro e w2 ⟨rfl, b2⟩
    have b12 : Below w.heap.size w w2 := below_call b1 b2 b1.size
    clear s1 o1 b1 b2
    go_wp2_with fail
    refine (HST.out _ b12).mono ?_; rintro e w3 ⟨rfl, rfl⟩
    go_wp2_with fail
    refine (HL.out _ b12).mono ?_; rintro e w4 ⟨A4, c4, rfl, o4, b4⟩
    have s4 := Sl.of_own o4
    have b14 : Below w.heap.size w w4 := below_call b12 b4 b12.size
    go_wp2_with fail
    refine (HG.out _ _ _ s4).mono ?_; rintro e w5 ⟨rfl, rfl⟩
    clear s4 o4 b12 b4
    go_wp2_with fail
    refine (HL.out _ b14).mono ?_; rintro e w6 ⟨A6, c6, rfl, o6, b6⟩
    have s6 := Sl.of_own o6
    have b16 : Below w.heap.size w w6 := below_call b14 b6 b14.size
    go_wp2_with fail
    refine (HZ.out _ _ _ s6).mono ?_; rintro e w7 ⟨rfl, b7⟩
    have b17 : Below w.heap.size w w7 := below_call b16 b7 b16.size
    clear s6 o6 b14 b6 b16 b7
    go_wp2_with fail
    refine (HSM.out _ b17).mono ?_; rintro e w8 ⟨rfl, rfl⟩
    go_wp2_with (go_at_call 20; refine (awake _).mono ?_; rintro e w9 ⟨rfl, b9⟩)
    go_ret
    exact ⟨rfl, below_call b17 b9 b17.size⟩
  have k1 : decide (total xs ≤ 1) = false := decide_eq_false t
  rw [k1] at hz0
  rw [hz0] at HZ
  cases k2 : winS q xs with
  | true =>
    have k3 : decide (weight xs q ≤ p2 q) = true := decide_eq_true (hww k2)
    rw [k2] at HW
    clear hww hsm k2 hz0 t
    go_enter Try.func12, Try.ntmps12
    go_wp2_with fail
    refine (HL.out _ (Below.refl _ _)).mono ?_; rintro e w1 ⟨A1, c1, rfl, o1, b1⟩
    have s1 := Sl.of_own o1
    go_wp2_with fail
    refine (HW.out _ _ _ s1).mono ?_; rintro e w2 ⟨rfl, b2⟩
    have b12 : Below w.heap.size w w2 := below_call b1 b2 b1.size
    clear s1 o1 b1 b2
    go_wp2_with fail
    refine (HST.out _ b12).mono ?_; rintro e w3 ⟨rfl, rfl⟩
    go_wp2_with fail
    refine (HL.out _ b12).mono ?_; rintro e w4 ⟨A4, c4, rfl, o4, b4⟩
    have s4 := Sl.of_own o4
    have b14 : Below w.heap.size w w4 := below_call b12 b4 b12.size
    go_wp2_with fail
    refine (HG.out _ _ _ s4).mono ?_; rintro e w5 ⟨rfl, rfl⟩
    clear s4 o4 b12 b4
    go_wp2_with fail
    refine (HL.out _ b14).mono ?_; rintro e w6 ⟨A6, c6, rfl, o6, b6⟩
    have s6 := Sl.of_own o6
    have b16 : Below w.heap.size w w6 := below_call b14 b6 b14.size
    go_wp2_with fail
    refine (HZ.out _ _ _ s6).mono ?_; rintro e w7 ⟨rfl, b7⟩
    have b17 : Below w.heap.size w w7 := below_call b16 b7 b16.size
    clear s6 o6 b14 b6 b16 b7
    go_wp2_with fail
    refine (HSM.out _ b17).mono ?_; rintro e w8 ⟨rfl, rfl⟩
    go_wp2_with (go_at_call 20; refine (awake _).mono ?_; rintro e w9 ⟨rfl, b9⟩)
    go_ret
    exact ⟨rfl, below_call b17 b9 b17.size⟩
  | false =>
    rw [k2] at HW
    clear hww hsm k2 hz0 t
    go_enter Try.func12, Try.ntmps12
    go_wp2_with fail
    refine (HL.out _ (Below.refl _ _)).mono ?_; rintro e w1 ⟨A1, c1, rfl, o1, b1⟩
    have s1 := Sl.of_own o1
    go_wp2_with fail
    refine (HW.out _ _ _ s1).mono ?_; rintro e w2 ⟨rfl, b2⟩
    have b12 : Below w.heap.size w w2 := below_call b1 b2 b1.size
    clear s1 o1 b1 b2
    go_wp2_with fail
    refine (HST.out _ b12).mono ?_; rintro e w3 ⟨rfl, rfl⟩
    go_wp2_with fail
    refine (HL.out _ b12).mono ?_; rintro e w4 ⟨A4, c4, rfl, o4, b4⟩
    have s4 := Sl.of_own o4
    have b14 : Below w.heap.size w w4 := below_call b12 b4 b12.size
    go_wp2_with fail
    refine (HG.out _ _ _ s4).mono ?_; rintro e w5 ⟨rfl, rfl⟩
    clear s4 o4 b12 b4
    go_wp2_with fail
    refine (HL.out _ b14).mono ?_; rintro e w6 ⟨A6, c6, rfl, o6, b6⟩
    have s6 := Sl.of_own o6
    have b16 : Below w.heap.size w w6 := below_call b14 b6 b14.size
    go_wp2_with fail
    refine (HZ.out _ _ _ s6).mono ?_; rintro e w7 ⟨rfl, b7⟩
    have b17 : Below w.heap.size w w7 := below_call b16 b7 b16.size
    clear s6 o6 b14 b6 b16 b7
    go_wp2_with fail
    refine (HSM.out _ b17).mono ?_; rintro e w8 ⟨rfl, rfl⟩
    go_wp2_with (go_at_call 20; refine (awake _).mono ?_; rintro e w9 ⟨rfl, b9⟩)
    go_ret
    exact ⟨rfl, below_call b17 b9 b17.size⟩

theorem guessWeighs_walk (w : World) (A : Option Addr) (n c : Nat) (xs : List Int) (hs : Sl w A n c (xs.map (Value.int .i64))) (_ : ∀ x ∈ xs, -9223372036854775808 ≤ x ∧ x ≤ 9223372036854775807) (q : Int) (_ : (Lit.int .i64 q).wf = true) :
    Calls Try.prog 12 #[.slice A n c, .int .i64 q] w fun e w' => e = .returned (.bool true) ∧ Below w.heap.size w w' := by
  by_cases h : stateOk 24 xs = true ∧ 0 ≤ q ∧ q ≤ 12
  · obtain ⟨k, rfl⟩ := Int.eq_ofNat_of_zero_le h.2.1
    exact guessWeighs_good w A n c xs k (by omega) hs h.1
  · exact guessWeighs_bad w A n c xs q hs h
end Go.Proofs.Ytdclmhmdkhpekaa
