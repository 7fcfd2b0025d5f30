/- Walk of the reference's Dim: the plain dimension. Condition: the slice reads as a list of numbers. -/
import Derived.Test.YtpebglilphgamaaRef
namespace Go.Proofs.Ytpebglilphgamaa
open Go.RowKit

theorem refSplit0 (A : Option Addr) (n c : Nat) (xs : List Int) (x : Int) (hx : Fits x) (hn : n ≤ 1000) (w : World) (hs : Sl w A n c (xs.map (Value.int .i64))) :
    Calls Try.prog 55 #[.slice A n c, .int .i64 x, .int .i64 0] w fun e w' => ∃ A' c', e = .returned (.slice A' (split xs x false).length c') ∧ Sl w' A' (split xs x false).length c' ((split xs x false).map (Value.int .i64)) ∧ Below w.heap.size w w' :=
  (refSplit A n c xs x false hx hn w hs).mono fun _ _ ⟨A', m, c', he, ho, hb⟩ => by
    have h := Sl.of_own ho
    have hl : (split xs x false).length = m := h.numlen
    subst hl
    exact ⟨A', c', he, h, hb⟩
theorem refSplit1 (A : Option Addr) (n c : Nat) (xs : List Int) (x : Int) (hx : Fits x) (hn : n ≤ 1000) (w : World) (hs : Sl w A n c (xs.map (Value.int .i64))) :
    Calls Try.prog 55 #[.slice A n c, .int .i64 x, .int .i64 1] w fun e w' => ∃ A' c', e = .returned (.slice A' (split xs x true).length c') ∧ Sl w' A' (split xs x true).length c' ((split xs x true).map (Value.int .i64)) ∧ Below w.heap.size w w' :=
  (refSplit A n c xs x true hx hn w hs).mono fun _ _ ⟨A', m, c', he, ho, hb⟩ => by
    have h := Sl.of_own ho
    have hl : (split xs x true).length = m := h.numlen
    subst hl
    exact ⟨A', c', he, h, hb⟩
theorem dim2L_none {p : Nat} {xs : List Int} {x : Int} (h : (split xs x false).length = 0 ∨ (split xs x true).length = 0) : dim2L p xs x = -1 := by
  unfold dim2L dim2W
  exact if_pos (h.imp List.eq_nil_of_length_eq_zero List.eq_nil_of_length_eq_zero)
theorem dim2L_some {p : Nat} {xs : List Int} {x : Int} (h0 : 0 < (split xs x false).length) (h1 : 0 < (split xs x true).length) : dim2L p xs x = min (dimL p (split xs x false)) (dimL p (split xs x true)) := by
  unfold dim2L dim2W
  rw [if_neg]
  rintro (h | h)
  · rw [h] at h0; simp at h0
  · rw [h] at h1; simp at h1

set_option maxRecDepth 100000 in
set_option maxHeartbeats 2000000 in
theorem refDim (p : Nat) (hp : p ≤ 60) : ∀ (m : Nat) (A : Option Addr) (n c : Nat) (xs : List Int), xs.length ≤ m → n ≤ 1000 → ∀ w, Sl w A n c (xs.map (Value.int .i64)) →
    Calls Try.prog 29 #[.int .i64 p, .slice A n c] w fun e w' => e = .returned (.int .i64 (dimL p xs)) ∧ Below w.heap.size w w' := by
  intro m
  induction m with
  | zero =>
    intro A n c xs hm hn w hs
    have hl := hs.numlen
    have hx : xs = [] := List.eq_nil_of_length_eq_zero (by omega)
    subst hx
    rw [dimL_nil]
    obtain rfl : n = 0 := by simpa using hl.symm
    go_enter Try.func29, Try.ntmps29
    go_wp2
    go_ret
    exact ⟨rfl, Below.refl _ _⟩
  | succ m ih =>
    intro A n c xs hm hn w hs
    have hl := hs.numlen
    by_cases hx : xs = []
    · subst hx
      rw [dimL_nil]
      obtain rfl : n = 0 := by simpa using hl.symm
      go_enter Try.func29, Try.ntmps29
      go_wp2
      go_ret
      exact ⟨rfl, Below.refl _ _⟩
    have hn0 : 0 < n := by
      rcases Nat.eq_zero_or_pos n with h | h
      · exact absurd (List.eq_nil_of_length_eq_zero (by omega)) hx
      · exact h
    have HE := hid (dimL_eq (p := p) hx)
    have hn0' : ((n : Int) == 0) = false := by rw [beq_eq_false_iff_ne]; omega
    have HS := hid hs
    have HB := hid fun x : Int => dim2L_bd p xs x
    have HL := hid fun x : Int => split_len xs x
    have HD := hid fun (A' : Option Addr) (n' c' : Nat) (ys : List Int) (h : ys.length ≤ m) (h2 : n' ≤ 1000) (W : World) (hW : Sl W A' n' c' (ys.map (Value.int .i64))) => ih A' n' c' ys h h2 W hW
    have HXL := hid hl
    have HM := hid hm
    clear ih hx hm hl hs
    go_enter Try.func29, Try.ntmps29
    go_wp2
    go_loopg [5, 13] p (fun gk o i wr => ∃ k : Nat, gk + k = p ∧ i = .int .i64 k ∧ o = .int .i64 (best (fun x => 1 + dim2L p xs x) k) ∧ Below w.heap.size w wr)
    case atStart => exact ⟨0, by omega, rfl, rfl, Below.refl _ _⟩
    case round =>
      obtain ⟨k, hk, rfl, rfl, hb⟩ := hrel
      have HK := hid hk; clear hk
      by_cases hlt : k < p
      · have hf : Fits (k : Int) := ⟨by omega, by omega⟩
        have h60 : k < 60 := by omega
        have hbd := HB.out k
        have hx1000 : xs.length ≤ 1000 := by have := HXL.out; omega
        have hln := HL.out k
        have S0 := hid (refSplit0 A n c xs k hf hn wr (HS.out.below hb))
        go_wp2_with fail
        refine (S0.out).mono ?_; rintro e w1 ⟨A1, c1, rfl, s1, b1⟩
        have hb1 : Below w.heap.size w w1 := below_call hb b1 hb.size
        have S1 := hid (refSplit1 A n c xs k hf hn w1 (HS.out.below hb1))
        go_wp2_with fail
        refine (S1.out).mono ?_; rintro e w2 ⟨A2, c2, rfl, s2, b2⟩
        have hb2 : Below w.heap.size w w2 := below_call hb1 b2 hb1.size
        have s1' := s1.below b2
        obtain ⟨q0, hq0⟩ : ∃ q, q = (split xs k false).length := ⟨_, rfl⟩
        obtain ⟨q1, hq1⟩ : ∃ q, q = (split xs k true).length := ⟨_, rfl⟩
        rw [← hq0] at s1' hln
        rw [← hq1] at s2 hln
        rw [← hq0, ← hq1]
        have HQ0 := hid hq0; have HQ1 := hid hq1
        clear hq0 hq1 b1 b2 s1
        by_cases z0 : q0 = 0
        · have HZ := hid (dim2L_none (p := p) (xs := xs) (x := k) (.inl (HQ0.out ▸ z0)))
          have hd0 : decide (0 < (q0 : Int)) = false := decide_eq_false (by omega)
          have HP := hid (best_nonneg (fun x => 1 + dim2L p xs x) k)
          go_wp2
          go_roundg (gk - 1)
          case measure => have := HK.out; omega
          case rel => exact ⟨k + 1, by have := HK.out; omega, by go_num, int_eq (by simp only [best]; rw [HZ.out]; have := HP.out; omega), hb2⟩
        by_cases z1 : q1 = 0
        · have HZ := hid (dim2L_none (p := p) (xs := xs) (x := k) (.inr (HQ1.out ▸ z1)))
          have hd0 : decide (0 < (q0 : Int)) = true := decide_eq_true (by omega)
          have hd1 : decide (0 < (q1 : Int)) = false := decide_eq_false (by omega)
          have HP := hid (best_nonneg (fun x => 1 + dim2L p xs x) k)
          go_wp2
          go_roundg (gk - 1)
          case measure => have := HK.out; omega
          case rel => exact ⟨k + 1, by have := HK.out; omega, by go_num, int_eq (by simp only [best]; rw [HZ.out]; have := HP.out; omega), hb2⟩
        have HZ := hid (dim2L_some (p := p) (xs := xs) (x := k) (by have := HQ0.out; omega) (by have := HQ1.out; omega))
        have hd0 : decide (0 < (q0 : Int)) = true := decide_eq_true (by omega)
        have hd1 : decide (0 < (q1 : Int)) = true := decide_eq_true (by omega)
        have D0 := hid (HD.out A1 q0 c1 (split xs k false) (by have := HQ0.out; have := HM.out; omega) (by omega) w2 s1')
        have B0 := dimL_ge p (split xs k false)
        have B1 := dimL_ge p (split xs k true)
        have T0 : dimL p (split xs k false) ≤ 1000 := by have := dimL_le p _ _ (rfl : (split xs k false).length = _); have := HQ0.out; omega
        have T1 : dimL p (split xs k true) ≤ 1000 := by have := dimL_le p _ _ (rfl : (split xs k true).length = _); have := HQ1.out; omega
        go_wp2_with fail
        refine (D0.out).mono ?_; rintro e w3 ⟨rfl, b3⟩
        have hb3 : Below w.heap.size w w3 := below_call hb2 b3 hb2.size
        have D1 := hid (HD.out A2 q1 c2 (split xs k true) (by have := HQ1.out; have := HM.out; omega) (by omega) w3 (s2.below b3))
        go_wp2_with fail
        refine (D1.out).mono ?_; rintro e w4 ⟨rfl, b4⟩
        have hb4 : Below w.heap.size w w4 := below_call hb3 b4 hb3.size
        go_wp2
        all_goals go_roundg (gk - 1)
        all_goals first
          | (have := HK.out; omega)
          | exact ⟨k + 1, by have := HK.out; omega, by go_num, int_eq (by simp only [best]; rw [HZ.out]; omega), hb4⟩
      · obtain rfl : k = p := by have := HK.out; omega
        go_wp2
        go_ret
        exact ⟨ret_i HE.out.symm, hb⟩
end Go.Proofs.Ytpebglilphgamaa
