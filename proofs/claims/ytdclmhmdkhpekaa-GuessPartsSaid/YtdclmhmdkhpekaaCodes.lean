/- The reference's Codes; the law's game. Conditions: none but that a slice reads as a list. -/
import Derived.Test.YtdclmhmdkhpekaaRead
namespace Go.Proofs.Ytdclmhmdkhpekaa
open Go.RowKit

/-- c to the power of p where these are a game; else 0. -/
def codes (p c : Int) : Int := if 1 ≤ p ∧ p ≤ 4 ∧ 1 ≤ c ∧ c ≤ 6 ∧ pw c p.toNat ≤ 256 then pw c p.toNat else 0

set_option maxRecDepth 100000 in
set_option maxHeartbeats 400000 in
theorem refCodes_bad (p c : Int) (w : World) (h : p < 1 ∨ 4 < p ∨ c < 1 ∨ 6 < c) : Calls Try.prog 23 #[.int .i64 p, .int .i64 c] w fun e w' => e = .returned (.int .i64 0) ∧ w = w' := by
  have h4 : p < 1 ∨ (¬ p < 1 ∧ 4 < p) ∨ (¬ p < 1 ∧ ¬ 4 < p ∧ c < 1) ∨ (¬ p < 1 ∧ ¬ 4 < p ∧ ¬ c < 1 ∧ 6 < c) := by omega
  clear h
  rcases h4 with h | ⟨h, h'⟩ | ⟨h, h', h''⟩ | ⟨h, h', h'', h'''⟩
  all_goals
    go_enter Try.func23, Try.ntmps23
    go_wp2
    go_ret
    exact ⟨rfl, rfl⟩

set_option maxRecDepth 100000 in
set_option maxHeartbeats 400000 in
theorem refCodes_ok (p : Nat) (c : Int) (w : World) (hp1 : 1 ≤ p) (hp2 : p ≤ 4) (hc1 : 1 ≤ c) (hc2 : c ≤ 6) : Calls Try.prog 23 #[.int .i64 p, .int .i64 c] w fun e w' => e = .returned (.int .i64 (if pw c p ≤ 256 then pw c p else 0)) ∧ w = w' := by
  go_enter Try.func23, Try.ntmps23
  go_wp2
  go_loop [5, 21] (fun x i => ∃ m : Nat, m ≤ p ∧ i = .int .i64 m ∧ x = .int .i64 (pw c m)) (fun _ i => p - (intOf i).toNat)
  case atStart => exact ⟨0, Nat.zero_le _, rfl, rfl⟩
  case round =>
    obtain ⟨m, hm, rfl, rfl⟩ := hrel
    by_cases hlt : m < p
    · have d := pw_bd c m hc1 hc2 (by omega)
      have d' := pw_bd c (m + 1) hc1 hc2 (by omega)
      simp only [pw] at d'
      go_wp2
      go_round
      case rel => exact ⟨m + 1, by omega, by go_num, rfl⟩
      case measure => simp [intOf]; omega
    · obtain rfl : m = p := by omega
      have d := pw_bd c m hc1 hc2 (by omega)
      by_cases h : pw c m ≤ 256
      · go_wp2
        go_ret
        exact ⟨ret_i (by first | rfl | rw [if_pos h]), rfl⟩
      · go_wp2
        go_ret
        exact ⟨ret_i (by first | rfl | rw [if_neg (by omega)]), rfl⟩

theorem refCodes (p c : Int) (w : World) : Calls Try.prog 23 #[.int .i64 p, .int .i64 c] w fun e w' => e = .returned (.int .i64 (codes p c)) ∧ w = w' := by
  by_cases h : p < 1 ∨ 4 < p ∨ c < 1 ∨ 6 < c
  · refine (refCodes_bad p c w h).mono fun e w' hh => ?_
    rw [codes, if_neg (by omega)]
    exact hh
  · obtain ⟨n, rfl⟩ := Int.eq_ofNat_of_zero_le (show 0 ≤ p by omega)
    refine (refCodes_ok n c w (by omega) (by omega) (by omega) (by omega)).mono fun e w' ⟨he, hw⟩ => ⟨he.trans (ret_i ?_), hw⟩
    unfold codes
    simp only [Int.toNat_natCast]
    by_cases h6 : pw c n ≤ 256
    · rw [if_pos h6, if_pos (by omega)]
    · rw [if_neg h6, if_neg (by omega)]
theorem codes_bd (p c : Int) : 0 ≤ codes p c ∧ codes p c ≤ 256 := by
  unfold codes
  split
  · rename_i h
    have := pw_bd c p.toNat (by omega) (by omega) (by omega)
    omega
  · omega

set_option maxRecDepth 100000 in
set_option maxHeartbeats 1000000 in
/-- law06.game: are p, c a game, and the numbers codes of it? -/
theorem lawGame (p c : Int) (A : Option Addr) (n k : Nat) (xs : List Int) (w : World) (hs : Sl w A n k (xs.map (Value.int .i64))) :
    Calls Try.prog 19 #[.int .i64 p, .int .i64 c, .slice A n k] w fun e w' => (∃ r : Bool, e = .returned (.bool r) ∧ r = (decide (0 < codes p c) && !(xs.any fun x => decide (x < 0) || decide (codes p c ≤ x)))) ∧ w = w' := by
  have hm : n ≤ 9223372036854775807 := by have := hs.cap; have := hs.capm; unfold maxLen at this; omega
  have hcb := codes_bd p c
  obtain ⟨N, hN⟩ : ∃ N, N = codes p c := ⟨_, rfl⟩
  have hC : ∀ W, Hid (Calls Try.prog 23 #[.int .i64 p, .int .i64 c] W fun e w' => e = .returned (.int .i64 N) ∧ W = w') := fun W => by rw [hN]; exact refCodes p c W
  rw [← hN] at hcb ⊢
  have HN := hid hN
  clear hN
  go_enter Try.func19, Try.ntmps19
  go_wp2
  go_loopg [11] n (fun gk i wr => ∃ k : Nat, gk + k = n ∧ i = .int .i64 k ∧ (∀ (j : Nat) (y : Int), j < k → xs[j]? = some y → (decide (y < 0) || decide (N ≤ y)) = false) ∧ w = wr)
  case atStart => exact ⟨0, by omega, rfl, fun j _ h => absurd h (by omega), rfl⟩
  case round =>
    obtain ⟨k, hk, rfl, hno, rfl⟩ := hrel
    have HO := hid hno; have HK := hid hk; clear hno hk
    by_cases hlt : k < n
    · obtain ⟨b, o, u, rfl, lb1, e1, ca⟩ := hs.at hlt
      rw [List.getElem?_map] at e1
      obtain ⟨x, hx, rfl⟩ := Option.map_eq_some_iff.1 e1
      have HX := hid hx
      clear e1 hx
      by_cases h1 : x < 0
      · have hfin : (xs.any fun x => decide (x < 0) || decide (N ≤ x)) = true := List.any_eq_true.2 ⟨x, List.mem_of_getElem? HX.out, by simp [h1]⟩
        have HF := hid hfin; clear hfin
        go_wp2
        go_ret
        exact ⟨⟨false, rfl, by rw [HF.out]; simp⟩, rfl⟩
      · have h1' : decide (x < 0) = false := by simpa using h1
        by_cases h2 : N ≤ x
        · have hfin : (xs.any fun x => decide (x < 0) || decide (N ≤ x)) = true := List.any_eq_true.2 ⟨x, List.mem_of_getElem? HX.out, by simp [h2]⟩
          have HF := hid hfin; clear hfin
          go_wp2_with (go_at_call 23; refine ((hC _).out).mono ?_; rintro e w' ⟨rfl, rfl⟩)
          go_ret
          exact ⟨⟨false, rfl, by rw [HF.out]; simp⟩, rfl⟩
        · have h2' : decide (N ≤ x) = false := by simpa using h2
          go_wp2_with (go_at_call 23; refine ((hC _).out).mono ?_; rintro e w' ⟨rfl, rfl⟩)
          go_roundg (gk - 1)
          case measure => have := HK.out; omega
          case rel =>
            refine ⟨k + 1, by have := HK.out; omega, by go_num, fun j y hj hy => ?_, rfl⟩
            by_cases e : j = k
            · subst e; rw [HX.out] at hy; cases hy; simp; omega
            · exact HO.out j y (by omega) hy
    · have hfin : (xs.any fun x => decide (x < 0) || decide (N ≤ x)) = false := List.any_eq_false.2 fun x hx => by
        obtain ⟨j, hj⟩ := List.getElem?_of_mem hx
        have := HO.out j x (by have := (List.getElem?_eq_some_iff.1 hj).1; have := hs.len; simp at this; omega) hj
        simpa using this
      have HF := hid hfin; clear hfin
      go_wp2_with (go_at_call 23; refine ((hC _).out).mono ?_; rintro e w' ⟨rfl, rfl⟩)
      go_ret
      exact ⟨⟨_, rfl, by rw [HF.out]; simp⟩, rfl⟩
end Go.Proofs.Ytdclmhmdkhpekaa
