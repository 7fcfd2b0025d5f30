/- Walks of both functions size for sets of five points, and what count says of the numbers that stand for sets. Condition: these bounds. -/
import Derived.Test.YtpebglilphgamaaOnes
namespace Go.Proofs.Ytpebglilphgamaa
open Go.RowKit

theorem sz_step : ∀ k, k < 32 → 0 < k → sz (k &&& (k - 1)) + 1 = sz k ∧ (k &&& (k - 1)) < k := by decide +kernel
theorem sz_mk {n : Nat} (hn : n ≤ 16) (f : Nat → Bool) : sz (mkN n f) = cntB n f := by
  have key : ∀ m, n ≤ m → cntB m (mkN n f).testBit = cntB n f := by
    intro m
    induction m with
    | zero => intro h; obtain rfl : n = 0 := by omega
              rfl
    | succ m ih =>
      intro h
      by_cases e : n = m + 1
      · subst e
        exact cntB_congr fun i hi => by rw [mkN_bit]; simp [hi]
      · rw [cntB_succ, ih (by omega), mkN_bit]
        have : ¬ m < n := by omega
        simp [this]
  exact key 16 hn
theorem mkN_16 {n : Nat} (hn : n ≤ 16) (f : Nat → Bool) : mkN n f < 65536 := by
  have h1 := mkN_lt f n
  have h2 := Nat.pow_le_pow_right (show 0 < 2 by decide) hn
  have h3 : (2 : Nat) ^ 16 = 65536 := by decide
  omega
/-- count of a set of indices is the number of the elements there. -/
theorem countMk {n : Nat} (hn : n ≤ 16) (f : Nat → Bool) (xs : List Int) (w : World) :
    Calls Try.prog 70 #[.int .i64 (mk n f)] w fun e w' => e = .returned (.int .i64 (sel n f xs).length) ∧ w = w' := by
  have h := countS (mkN n f) (mkN_16 hn f) w
  rw [sz_mk hn, ← cntB_sel n f xs] at h
  exact h

set_option maxRecDepth 100000 in
set_option maxHeartbeats 1000000 in
theorem refSize (k : Nat) (hk : k < 32) (w : World) :
    Calls Try.prog 71 #[.int .i64 k] w fun e w' => e = .returned (.int .i64 (sz k)) ∧ w = w' := by
  have HZ := hid (sz_le 5 (by decide) k (by simpa using hk))
  have HK0 := hid hk
  clear hk
  go_enter Try.func71, Try.ntmps71
  go_wp2
  go_loopg [0, 3] k (fun gk s o wr => ∃ (j c : Nat), gk = j ∧ s = .int .i64 j ∧ o = .int .i64 c ∧ c + sz j = sz k ∧ j < 32 ∧ w = wr)
  case atStart => exact ⟨k, 0, rfl, rfl, rfl, by omega, HK0.out, rfl⟩
  case round =>
    obtain ⟨j, c, rfl, rfl, rfl, hc, hj, rfl⟩ := hrel
    by_cases h0 : 0 < gk
    · have hs := sz_step gk hj h0
      have h1 : ((gk : Int) - 1) = ((gk - 1 : Nat) : Int) := by omega
      have h2 := i64_and gk (gk - 1) (by omega) (by omega)
      have h3 : decide (0 < (gk : Int)) = true := decide_eq_true (by omega)
      have hb : c < 100 := by have := HZ.out; omega
      have HC := hid hc; have HS := hid hs
      clear hc hs
      go_wp2
      go_roundg (gk &&& (gk - 1))
      case measure => exact HS.out.2
      case rel => exact ⟨gk &&& (gk - 1), c + 1, rfl, rfl, by go_num, by have := HS.out.1; have := HC.out; omega, by have := HS.out.2; omega, rfl⟩
    · obtain rfl : gk = 0 := by omega
      rw [sz_zero] at hc
      obtain rfl : c = sz k := hc
      go_wp2
      go_ret
      exact ⟨rfl, rfl⟩
set_option maxRecDepth 100000 in
set_option maxHeartbeats 1000000 in
theorem lawSize (k : Nat) (hk : k < 32) (w : World) :
    Calls Try.prog 47 #[.int .i64 k] w fun e w' => e = .returned (.int .i64 (sz k)) ∧ w = w' := by
  have HZ := hid (sz_le 5 (by decide) k (by simpa using hk))
  have HK0 := hid hk
  clear hk
  go_enter Try.func47, Try.ntmps47
  go_wp2
  go_loopg [0, 3] k (fun gk s o wr => ∃ (j c : Nat), gk = j ∧ s = .int .i64 j ∧ o = .int .i64 c ∧ c + sz j = sz k ∧ j < 32 ∧ w = wr)
  case atStart => exact ⟨k, 0, rfl, rfl, rfl, by omega, HK0.out, rfl⟩
  case round =>
    obtain ⟨j, c, rfl, rfl, rfl, hc, hj, rfl⟩ := hrel
    by_cases h0 : 0 < gk
    · have hs := sz_step gk hj h0
      have h1 : ((gk : Int) - 1) = ((gk - 1 : Nat) : Int) := by omega
      have h2 := i64_and gk (gk - 1) (by omega) (by omega)
      have h3 : decide (0 < (gk : Int)) = true := decide_eq_true (by omega)
      have hb : c < 100 := by have := HZ.out; omega
      have HC := hid hc; have HS := hid hs
      clear hc hs
      go_wp2
      go_roundg (gk &&& (gk - 1))
      case measure => exact HS.out.2
      case rel => exact ⟨gk &&& (gk - 1), c + 1, rfl, rfl, by go_num, by have := HS.out.1; have := HC.out; omega, by have := HS.out.2; omega, rfl⟩
    · obtain rfl : gk = 0 := by omega
      rw [sz_zero] at hc
      obtain rfl : c = sz k := hc
      go_wp2
      go_ret
      exact ⟨rfl, rfl⟩
end Go.Proofs.Ytpebglilphgamaa
