/- Walks of the reference's Say, Halve and State. Condition: the slice reads us a list of numbers. -/
import Derived.Test.YtpebglilphgamaaSay
import Derived.Test.YtpebglilphgamaaRefDim
namespace Go.Proofs.Ytpebglilphgamaa
open Go.RowKit

theorem careful_a {p : Nat} {xs : List Int} {x : Int} (hx : xs ≠ []) (h : (split xs x false).length = 0) : careful p xs x = true := by
  have h1 : split xs x false = [] := List.eq_nil_of_length_eq_zero h
  have h2 : split xs x true ≠ [] := by
    intro e
    have := split_len xs x
    rw [h, e] at this
    exact hx (List.eq_nil_of_length_eq_zero (by simpa using this.symm))
  have := dimL_nonneg (p := p) h2
  unfold careful
  rw [h1, dimL_nil]
  exact decide_eq_true (by omega)
theorem careful_b {p : Nat} {xs : List Int} {x : Int} (h : (split xs x true).length = 0) : careful p xs x = false := by
  have h1 : split xs x true = [] := List.eq_nil_of_length_eq_zero h
  have := dimL_ge p (split xs x false)
  unfold careful
  rw [h1, dimL_nil]
  exact decide_eq_false (by omega)

set_option maxRecDepth 100000 in
set_option maxHeartbeats 1000000 in
theorem refSay (p : Nat) (hp : p ≤ 60) (A : Option Addr) (n c : Nat) (xs : List Int) (hx : xs ≠ []) (x : Nat) (hx60 : x ≤ 60) (hn : n ≤ 1000) (w : World) (hs : Sl w A n c (xs.map (Value.int .i64))) :
    Calls Try.prog 36 #[.int .i64 p, .slice A n c, .int .i64 x] w fun e w' => e = .returned (.int .i64 (b01 (careful p xs x))) ∧ Below w.heap.size w w' := by
  have hf : Fits (x : Int) := ⟨by omega, by omega⟩
  have hl := hs.numlen
  have hln := split_len xs x
  have S0 := hid (refSplit0 A n c xs x hf hn w hs)
  have S1 := hid fun W (hb : Below w.heap.size w W) => refSplit1 A n c xs x hf hn W (hs.below hb)
  have CA := hid (careful_a (p := p) (x := x) hx)
  have CB := hid (careful_b (p := p) (xs := xs) (x := x))
  have hC : careful p xs x = decide (dimL p (split xs x false) < dimL p (split xs x true)) := rfl
  generalize ea : split xs x false = us at *
  generalize eb : split xs x true = vs at *
  have D0 := hid fun (A' : Option Addr) (c' : Nat) W (hW : Sl W A' us.length c' (us.map (Value.int .i64))) => refDim p hp us.length A' us.length c' us (Nat.le_refl _) (by omega) W hW
  have D1 := hid fun (A' : Option Addr) (c' : Nat) W (hW : Sl W A' vs.length c' (vs.map (Value.int .i64))) => refDim p hp vs.length A' vs.length c' vs (Nat.le_refl _) (by omega) W hW
  generalize eq0 : us.length = q0 at *
  generalize eq1 : vs.length = q1 at *
  have HX := hid hs
  have t0 := dimL_ge p us
  have t1 := dimL_ge p vs
  have T0 : dimL p us ≤ 1000 := by have := dimL_le p _ _ (rfl : us.length = _); omega
  have T1 : dimL p vs ≤ 1000 := by have := dimL_le p _ _ (rfl : vs.length = _); omega
  clear hx hf ea eb eq0 eq1 hl hln hs hx60
  by_cases z0 : q0 = 0
  · rw [CA.out z0]
    have hd : ((q0 : Int) == 0) = true := by rw [beq_iff_eq]; omega
    have hd2 : (q0 == 0) = true := by rw [beq_iff_eq]; omega
    clear z0 hC
    go_enter Try.func36, Try.ntmps36
    go_wp2_with fail
    refine (S0.out).mono ?_; rintro e w1 ⟨A1, c1, rfl, s1, b1⟩
    go_wp2_with fail
    refine (S1.out _ b1).mono ?_; rintro e w2 ⟨A2, c2, rfl, s2, b2⟩
    have hb2 : Below w.heap.size w w2 := below_call b1 b2 b1.size
    go_wp2
    go_ret
    exact ⟨rfl, hb2⟩
  have hd : ((q0 : Int) == 0) = false := by rw [beq_eq_false_iff_ne]; omega
  have hd2 : (q0 == 0) = false := by rw [beq_eq_false_iff_ne]; omega
  by_cases z1 : q1 = 0
  · rw [CB.out z1]
    have hd3 : decide (0 < (q1 : Int)) = false := decide_eq_false (by omega)
    have hd4 : decide (0 < q1) = false := decide_eq_false (by omega)
    clear z0 hC z1
    go_enter Try.func36, Try.ntmps36
    go_wp2_with fail
    refine (S0.out).mono ?_; rintro e w1 ⟨A1, c1, rfl, s1, b1⟩
    go_wp2_with fail
    refine (S1.out _ b1).mono ?_; rintro e w2 ⟨A2, c2, rfl, s2, b2⟩
    have hb2 : Below w.heap.size w w2 := below_call b1 b2 b1.size
    go_wp2
    go_ret
    exact ⟨rfl, hb2⟩
  have hd3 : decide (0 < (q1 : Int)) = true := decide_eq_true (by omega)
  have hd4 : decide (0 < q1) = true := decide_eq_true (by omega)
  clear z0 z1 CA CB
  rw [hC]
  clear hC
  by_cases h : dimL p us < dimL p vs
  · have h' : decide (dimL p us < dimL p vs) = true := decide_eq_true h
    rw [h', b01_true]
    clear h
    go_enter Try.func36, Try.ntmps36
    go_wp2_with fail
    refine (S0.out).mono ?_; rintro e w1 ⟨A1, c1, rfl, s1, b1⟩
    go_wp2_with fail
    refine (S1.out _ b1).mono ?_; rintro e w2 ⟨A2, c2, rfl, s2, b2⟩
    have hb2 : Below w.heap.size w w2 := below_call b1 b2 b1.size
    have s1' := s1.below b2
    go_wp2_with fail
    refine (D1.out _ _ _ s2).mono ?_; rintro e w3 ⟨rfl, b3⟩
    have hb3 : Below w.heap.size w w3 := below_call hb2 b3 hb2.size
    have s1'' := s1'.below b3
    go_wp2_with fail
    refine (D0.out _ _ _ s1'').mono ?_; rintro e w4 ⟨rfl, b4⟩
    have hb4 : Below w.heap.size w w4 := below_call hb3 b4 hb3.size
    go_wp2
    go_ret
    exact ⟨rfl, hb4⟩
  · have h' : decide (dimL p us < dimL p vs) = false := decide_eq_false h
    rw [h', b01_false]
    clear h
    go_enter Try.func36, Try.ntmps36
    go_wp2_with fail
    refine (S0.out).mono ?_; rintro e w1 ⟨A1, c1, rfl, s1, b1⟩
    go_wp2_with fail
    refine (S1.out _ b1).mono ?_; rintro e w2 ⟨A2, c2, rfl, s2, b2⟩
    have hb2 : Below w.heap.size w w2 := below_call b1 b2 b1.size
    have s1' := s1.below b2
    go_wp2_with fail
    refine (D1.out _ _ _ s2).mono ?_; rintro e w3 ⟨rfl, b3⟩
    have hb3 : Below w.heap.size w w3 := below_call hb2 b3 hb2.size
    have s1'' := s1'.below b3
    go_wp2_with fail
    refine (D0.out _ _ _ s1'').mono ?_; rintro e w4 ⟨rfl, b4⟩
    have hb4 : Below w.heap.size w w4 := below_call hb3 b4 hb3.size
    go_wp2
    go_ret
    exact ⟨rfl, hb4⟩

set_option maxRecDepth 100000 in
set_option maxHeartbeats 1000000 in
theorem refHalve (A : Option Addr) (n c : Nat) (xs : List Int) (x : Nat) (hx60 : x ≤ 60) (hn : n ≤ 1000) (w : World) (hs : Sl w A n c (xs.map (Value.int .i64))) :
    Calls Try.prog 37 #[.slice A n c, .int .i64 x] w fun e w' => e = .returned (.int .i64 (b01 (halving xs x))) ∧ Below w.heap.size w w' := by
  have hf : Fits (x : Int) := ⟨by omega, by omega⟩
  have hln := split_len xs x
  have S1 := hid (refSplit1 A n c xs x hf hn w hs)
  have S0 := hid fun W (hb : Below w.heap.size w W) => refSplit0 A n c xs x hf hn W (hs.below hb)
  have hC : halving xs x = decide (xs.length < 2 * (split xs x true).length) := rfl
  rw [hC]
  clear hC
  generalize split xs x false = us at *
  generalize split xs x true = vs at *
  generalize xs.length = q at *
  generalize us.length = q0 at *
  generalize vs.length = q1 at *
  clear hf hs hx60
  by_cases h : q0 < q1
  · have h' : decide (q < 2 * q1) = true := decide_eq_true (by omega)
    have hd : decide ((q0 : Int) < q1) = true := decide_eq_true (by omega)
    have hd2 : decide (q0 < q1) = true := decide_eq_true (by omega)
    rw [h', b01_true]
    clear h h' hln
    go_enter Try.func37, Try.ntmps37
    go_wp2_with fail
    refine (S1.out).mono ?_; rintro e w1 ⟨A1, c1, rfl, s1, b1⟩
    go_wp2_with fail
    refine (S0.out _ b1).mono ?_; rintro e w2 ⟨A2, c2, rfl, s2, b2⟩
    have hb2 : Below w.heap.size w w2 := below_call b1 b2 b1.size
    go_wp2
    go_ret
    exact ⟨rfl, hb2⟩
  · have h' : decide (q < 2 * q1) = false := decide_eq_false (by omega)
    have hd : decide ((q0 : Int) < q1) = false := decide_eq_false (by omega)
    have hd2 : decide (q0 < q1) = false := decide_eq_false (by omega)
    rw [h', b01_false]
    clear h h' hln
    go_enter Try.func37, Try.ntmps37
    go_wp2_with fail
    refine (S1.out).mono ?_; rintro e w1 ⟨A1, c1, rfl, s1, b1⟩
    go_wp2_with fail
    refine (S0.out _ b1).mono ?_; rintro e w2 ⟨A2, c2, rfl, s2, b2⟩
    have hb2 : Below w.heap.size w w2 := below_call b1 b2 b1.size
    go_wp2
    go_ret
    exact ⟨rfl, hb2⟩
/-- The error's number where no concept is left. -/
def stErr (n : Nat) : Int := if n = 0 then 5 else 0
set_option maxRecDepth 100000 in
theorem refState (A : Option Addr) (n c : Nat) (w : World) :
    Calls Try.prog 35 #[.slice A n c] w fun e w' => e = .returned (.int .i64 (stErr n)) ∧ w = w' := by
  by_cases h : n = 0
  · have hE : stErr n = 5 := if_pos h
    rw [hE]
    subst h
    clear hE
    go_enter Try.func35, Try.ntmps35
    go_wp2
    go_ret
    exact ⟨rfl, rfl⟩
  · have hE : stErr n = 0 := if_neg h
    rw [hE]
    have hd : ((n : Int) == 0) = false := by rw [beq_eq_false_iff_ne]; omega
    have hd2 : (n == 0) = false := by rw [beq_eq_false_iff_ne]; omega
    clear hE h
    go_enter Try.func35, Try.ntmps35
    go_wp2
    go_ret
    exact ⟨rfl, rfl⟩
end Go.Proofs.Ytpebglilphgamaa
