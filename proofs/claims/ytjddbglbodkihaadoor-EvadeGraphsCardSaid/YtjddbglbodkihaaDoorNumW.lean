/- Walks of the reference's Nodes, Pairs and number. Condition: at most four nodes. -/
import Derived.Test.YtjddbglbodkihaaDoorSpM
import Derived.Test.YtjddbglbodkihaaDoorWord
namespace Go.Proofs.YtjddbglbodkihaaDoor
open Go.RowKit

set_option maxRecDepth 100000 in
set_option maxHeartbeats 1000000 in
theorem refNodes (m : Int) (w : World) :
    Calls Tryd.prog 45 #[.int .i64 m] w fun e w' => e = .returned (.bool (decide (2 ≤ m ∧ m ≤ 4))) ∧ w = w' := by
  by_cases h1 : 2 ≤ m
  · have g1 : decide (2 ≤ m) = true := decide_eq_true h1
    by_cases h2 : m ≤ 4
    · have g2 : decide (m ≤ 4) = true := decide_eq_true h2
      have g : decide (2 ≤ m ∧ m ≤ 4) = true := decide_eq_true ⟨h1, h2⟩
      rw [g]
      clear h1 h2 g
      go_enter Tryd.func45, Tryd.ntmps45
      go_wp2
      go_ret
      exact ⟨rfl, rfl⟩
    · have g2 : decide (m ≤ 4) = false := decide_eq_false h2
      have g : decide (2 ≤ m ∧ m ≤ 4) = false := decide_eq_false fun h => h2 h.2
      rw [g]
      clear h1 h2 g
      go_enter Tryd.func45, Tryd.ntmps45
      go_wp2
      go_ret
      exact ⟨rfl, rfl⟩
  · have g1 : decide (2 ≤ m) = false := decide_eq_false h1
    have g : decide (2 ≤ m ∧ m ≤ 4) = false := decide_eq_false fun h => h1 h.1
    rw [g]
    clear h1 g
    go_enter Tryd.func45, Tryd.ntmps45
    go_wp2
    go_ret
    exact ⟨rfl, rfl⟩
theorem nP_val : ∀ m : Fin 5, 2 ≤ m.val → (m.val : Int) * ((m.val : Int) - 1) / 2 = (nP m.val : Nat) := by decide
set_option maxRecDepth 100000 in
set_option maxHeartbeats 1000000 in
theorem refPairs (m : Nat) (w : World) (h2 : 2 ≤ m) (h4 : m ≤ 4) :
    Calls Tryd.prog 46 #[.int .i64 m] w fun e w' => e = .returned (.int .i64 (nP m : Nat)) ∧ w = w' := by
  obtain rfl | rfl | rfl : m = 2 ∨ m = 3 ∨ m = 4 := by omega
  all_goals
    go_enter Tryd.func46, Tryd.ntmps46
    go_wp2
    go_ret
    exact ⟨rfl, rfl⟩
theorem numb_all : ∀ m : Fin 5, ∀ i j : Fin 4, i.val < j.val → j.val < m.val → idxL (pairsL m.val) ((i.val : Int), (j.val : Int)) = ((prL m.val i.val ++ rowL i.val j.val).length : Nat) := by decide
theorem numb_le : ∀ m : Fin 5, ∀ i j : Fin 5, (prL m.val i.val ++ rowL i.val j.val).length ≤ 20 := by decide
def numN (m a b : Nat) : Nat := (prL m a ++ rowL a b).length
set_option maxRecDepth 100000 in
set_option maxHeartbeats 2000000 in
theorem numberU (m a b : Nat) (w : World) (h4 : m ≤ 4) (hab : a < b) (hb : b < m) :
    Calls Tryd.prog 100 #[.int .i64 m, .int .i64 a, .int .i64 b] w fun e w' => e = .returned (.int .i64 (numN m a b : Nat)) ∧ w = w' := by
  have g1 : decide ((b : Int) < a) = false := decide_eq_false (by omega)
  have g1n : decide (b < a) = false := decide_eq_false (by omega)
  have HLE := hid fun i j (hi : i ≤ m) (hj : j ≤ m) => (show numN m i j ≤ 20 from numb_le ⟨m, by omega⟩ ⟨i, by omega⟩ ⟨j, by omega⟩)
  have H0 : Hid (numN m 0 1 = 0) := hid rfl
  have HI := hid fun i j (h : i + 1 ≤ j) => (show numN m i (j + 1) = numN m i j + 1 from by unfold numN; rw [rowL_succ h, ← List.append_assoc, List.length_append (bs := [_])]; rfl)
  have HO := hid fun i => (show numN m (i + 1) (i + 1 + 1) = numN m i m from by unfold numN; rw [rowL_none, List.append_nil, prL_succ])
  generalize hf : numN m = f at *
  clear hf
  go_enter Tryd.func100, Tryd.ntmps100
  go_wp2
  go_loopg [7, 16] m (fun gk v t wr => ∃ i : Nat, gk + i = m ∧ i ≤ a ∧ t = .int .i64 i ∧ v = .int .i64 (f i (i + 1) : Nat) ∧ w = wr)
  case atStart => exact ⟨0, by omega, by omega, rfl, by rw [H0.out]; rfl, rfl⟩
  case round =>
    obtain ⟨i, hi, hia, rfl, rfl, rfl⟩ := hrel
    have hlt : i < m := by omega
    have HIA := hid hia
    have HII := hid hi
    clear hi
    go_wp2
    go_loopg [7, 9] (m - (i + 1)) (fun gj v t wr => ∃ j : Nat, gj + j = m ∧ i + 1 ≤ j ∧ (i = a → j ≤ b) ∧ t = .int .i64 j ∧ v = .int .i64 (f i j : Nat) ∧ w = wr)
    case atStart => exact ⟨i + 1, by omega, by omega, by omega, by go_num, rfl, rfl⟩
    case round =>
      obtain ⟨j, hj, hij, hjb, rfl, rfl, rfl⟩ := hrel
      have HJ := hid hj
      have HIJ := hid hij
      have HJB := hid hjb
      have hfl := HLE.out i j (by omega) (by omega)
      by_cases hlt2 : j < m
      · have HLT2 := hid hlt2
        by_cases hfound : i = a ∧ j = b
        · obtain ⟨rfl, rfl⟩ := hfound
          have e1 : ((i : Int) == i) = true := by simp
          have e2 : ((j : Int) == j) = true := by simp
          clear hj hij hjb
          go_wp2
          go_ret
          exact ⟨rfl, rfl⟩
        · have HS := hid (HI.out i j hij)
          have HNF := hid hfound
          by_cases hia2 : i = a
          · have e1 : ((i : Int) == a) = true := by simp [hia2]
            have e1n : (i == a) = true := by simp [hia2]
            have e2 : ((j : Int) == b) = false := by rw [beq_eq_false_iff_ne]; omega
            have e2n : (j == b) = false := by rw [beq_eq_false_iff_ne]; omega
            have HAA := hid hia2
            clear hj hij hjb hfound hia2
            go_wp2
            go_roundg (gk - 1)
            case measure => have := HJ.out; have := HLT2.out; omega
            case rel => exact ⟨j + 1, by have := HJ.out; have := HLT2.out; omega, by have := HIJ.out; omega, fun h => (by have := HJB.out h; have := HNF.out; omega), by go_num, by rw [HS.out]; go_num, rfl⟩
          · have e1 : ((i : Int) == a) = false := by rw [beq_eq_false_iff_ne]; omega
            have e1n : (i == a) = false := by rw [beq_eq_false_iff_ne]; omega
            have HAA := hid hia2
            clear hj hij hjb hfound hia2
            go_wp2
            go_roundg (gk - 1)
            case measure => have := HJ.out; have := HLT2.out; omega
            case rel => exact ⟨j + 1, by have := HJ.out; have := HLT2.out; omega, by have := HIJ.out; omega, fun h => absurd h HAA.out, by go_num, by rw [HS.out]; go_num, rfl⟩
      · obtain rfl : j = m := by have := HJ.out; omega
        have HNA : Hid (i < a) := hid (by
          rcases Nat.lt_or_ge i a with h | h
          · exact h
          · have := hjb (by omega); omega)
        have HS := hid (HO.out i)
        clear hj hij hjb hlt2
        go_wp2
        go_roundg (j - i - 1)
        case measure => have := HII.out; omega
        case rel => exact ⟨i + 1, by omega, by have := HNA.out; omega, by go_num, by rw [HS.out], rfl⟩
set_option maxRecDepth 100000 in
set_option maxHeartbeats 2000000 in
theorem numberD (m a b : Nat) (w : World) (h4 : m ≤ 4) (hab : a < b) (hb : b < m) :
    Calls Tryd.prog 100 #[.int .i64 m, .int .i64 b, .int .i64 a] w fun e w' => e = .returned (.int .i64 (numN m a b : Nat)) ∧ w = w' := by
  have g1 : decide ((a : Int) < b) = true := decide_eq_true (by omega)
  have g1n : decide (a < b) = true := decide_eq_true (by omega)
  have HLE := hid fun i j (hi : i ≤ m) (hj : j ≤ m) => (show numN m i j ≤ 20 from numb_le ⟨m, by omega⟩ ⟨i, by omega⟩ ⟨j, by omega⟩)
  have H0 : Hid (numN m 0 1 = 0) := hid rfl
  have HI := hid fun i j (h : i + 1 ≤ j) => (show numN m i (j + 1) = numN m i j + 1 from by unfold numN; rw [rowL_succ h, ← List.append_assoc, List.length_append (bs := [_])]; rfl)
  have HO := hid fun i => (show numN m (i + 1) (i + 1 + 1) = numN m i m from by unfold numN; rw [rowL_none, List.append_nil, prL_succ])
  generalize hf : numN m = f at *
  clear hf
  go_enter Tryd.func100, Tryd.ntmps100
  go_wp2
  go_loopg [7, 16] m (fun gk v t wr => ∃ i : Nat, gk + i = m ∧ i ≤ a ∧ t = .int .i64 i ∧ v = .int .i64 (f i (i + 1) : Nat) ∧ w = wr)
  case atStart => exact ⟨0, by omega, by omega, rfl, by rw [H0.out]; rfl, rfl⟩
  case round =>
    obtain ⟨i, hi, hia, rfl, rfl, rfl⟩ := hrel
    have hlt : i < m := by omega
    have HIA := hid hia
    have HII := hid hi
    clear hi
    go_wp2
    go_loopg [7, 9] (m - (i + 1)) (fun gj v t wr => ∃ j : Nat, gj + j = m ∧ i + 1 ≤ j ∧ (i = a → j ≤ b) ∧ t = .int .i64 j ∧ v = .int .i64 (f i j : Nat) ∧ w = wr)
    case atStart => exact ⟨i + 1, by omega, by omega, by omega, by go_num, rfl, rfl⟩
    case round =>
      obtain ⟨j, hj, hij, hjb, rfl, rfl, rfl⟩ := hrel
      have HJ := hid hj
      have HIJ := hid hij
      have HJB := hid hjb
      have hfl := HLE.out i j (by omega) (by omega)
      by_cases hlt2 : j < m
      · have HLT2 := hid hlt2
        by_cases hfound : i = a ∧ j = b
        · obtain ⟨rfl, rfl⟩ := hfound
          have e1 : ((i : Int) == i) = true := by simp
          have e2 : ((j : Int) == j) = true := by simp
          clear hj hij hjb
          go_wp2
          go_ret
          exact ⟨rfl, rfl⟩
        · have HS := hid (HI.out i j hij)
          have HNF := hid hfound
          by_cases hia2 : i = a
          · have e1 : ((i : Int) == a) = true := by simp [hia2]
            have e1n : (i == a) = true := by simp [hia2]
            have e2 : ((j : Int) == b) = false := by rw [beq_eq_false_iff_ne]; omega
            have e2n : (j == b) = false := by rw [beq_eq_false_iff_ne]; omega
            have HAA := hid hia2
            clear hj hij hjb hfound hia2
            go_wp2
            go_roundg (gk - 1)
            case measure => have := HJ.out; have := HLT2.out; omega
            case rel => exact ⟨j + 1, by have := HJ.out; have := HLT2.out; omega, by have := HIJ.out; omega, fun h => (by have := HJB.out h; have := HNF.out; omega), by go_num, by rw [HS.out]; go_num, rfl⟩
          · have e1 : ((i : Int) == a) = false := by rw [beq_eq_false_iff_ne]; omega
            have e1n : (i == a) = false := by rw [beq_eq_false_iff_ne]; omega
            have HAA := hid hia2
            clear hj hij hjb hfound hia2
            go_wp2
            go_roundg (gk - 1)
            case measure => have := HJ.out; have := HLT2.out; omega
            case rel => exact ⟨j + 1, by have := HJ.out; have := HLT2.out; omega, by have := HIJ.out; omega, fun h => absurd h HAA.out, by go_num, by rw [HS.out]; go_num, rfl⟩
      · obtain rfl : j = m := by have := HJ.out; omega
        have HNA : Hid (i < a) := hid (by
          rcases Nat.lt_or_ge i a with h | h
          · exact h
          · have := hjb (by omega); omega)
        have HS := hid (HO.out i)
        clear hj hij hjb hlt2
        go_wp2
        go_roundg (j - i - 1)
        case measure => have := HII.out; omega
        case rel => exact ⟨i + 1, by omega, by have := HNA.out; omega, by go_num, by rw [HS.out], rfl⟩
/-- The number of a pair, in any order. -/
theorem numberS (m a b : Nat) (w : World) (h4 : m ≤ 4) (hab : a ≠ b) (ha : a < m) (hb : b < m) :
    Calls Tryd.prog 100 #[.int .i64 m, .int .i64 a, .int .i64 b] w fun e w' => e = .returned (.int .i64 (numN m (min a b) (max a b) : Nat)) ∧ w = w' := by
  rcases Nat.lt_or_ge a b with h | h
  · rw [Nat.min_eq_left (by omega), Nat.max_eq_right (by omega)]
    exact numberU m a b w h4 h hb
  · rw [Nat.min_eq_right h, Nat.max_eq_left h]
    exact numberD m b a w h4 (by omega) ha
end Go.Proofs.YtjddbglbodkihaaDoor
