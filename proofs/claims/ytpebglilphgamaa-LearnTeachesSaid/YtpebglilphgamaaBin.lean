/- Walk of slices.BinarySearch on ints. Condition: the slice reads as a list of numbers. -/
import Derived.Test.YtpebglilphgamaaKey
namespace Go.Proofs.Ytpebglilphgamaa
open Go.RowKit

set_option maxRecDepth 100000 in
set_option maxHeartbeats 1000000 in
theorem binSearch (A : Option Addr) (n c : Nat) (xs : List Int) (x : Int) (hn : n ≤ 1000) (w : World) (hs : Sl w A n c (xs.map (Value.int .i64))) :
    Calls Try.prog 68 #[.slice A n c, .int .i64 x] w fun e w' => ∃ (i : Nat) (r : Bool), e = .returned (.tuple #[.int .i64 i, .bool r]) ∧ (r = true → i < n ∧ at0 xs i = x) ∧ (r = false → (∀ j, j + 1 < n → at0 xs j < at0 xs (j + 1)) → ∀ j, j < n → at0 xs j ≠ x) ∧ Below w.heap.size w w' := by
  have HASC := hid fun (h : ∀ j, j + 1 < n → at0 xs j < at0 xs (j + 1)) i j (hij : i ≤ j) (hj : j < n) => show at0 xs i ≤ at0 xs j from by
    have hl := hs.numlen
    have := asc_le (xs := xs) (by rw [hl]; exact h) (j - i) i (by omega)
    have e : i + (j - i) = j := by omega
    rwa [e] at this
  go_enter Try.func68, Try.ntmps68
  go_wp2
  go_loopg [7, 8] n (fun gk lo hi wr => ∃ i j : Nat, gk = j - i ∧ lo = .int .i64 i ∧ hi = .int .i64 j ∧ i ≤ j ∧ j ≤ n ∧ ((∀ j, j + 1 < n → at0 xs j < at0 xs (j + 1)) → (∀ a, a < i → at0 xs a < x) ∧ (∀ a, j ≤ a → a < n → x ≤ at0 xs a)) ∧ Below w.heap.size w wr)
  case atStart => exact ⟨0, n, rfl, rfl, rfl, Nat.zero_le _, Nat.le_refl _, fun _ => ⟨fun a h => absurd h (by omega), fun a h1 h2 => absurd h2 (by omega)⟩, Below.refl _ _⟩
  case round =>
    obtain ⟨i, j, rfl, rfl, rfl, hij, hjn, hinv, hb⟩ := hrel
    have HV := hid hinv
    clear hinv
    by_cases hlt : i < j
    · obtain ⟨b, o, rfl, lb, hkl, ca⟩ := hs.num (k := (i + j) / 2) (by omega)
      have cc := (hb.cell (p := ⟨b, o + (i + j) / 2, none⟩) lb).trans ca
      have hh : ((i : Int) + (j : Int)) / 2 = (((i + j) / 2 : Nat) : Int) := by omega
      generalize hm : (i + j) / 2 = m at *
      have hm1 : i ≤ m ∧ m < j := by omega
      have hmn : m < n := by omega
      clear ca
      by_cases hx : at0 xs m < x
      · have hd : decide (at0 xs m < x) = true := decide_eq_true hx
        have HX := hid hx
        have HM := hid hm1
        have HJN := hid hjn
        clear hx
        go_wp2
        go_roundg (j - (m + 1))
        case measure => have := HM.out; omega
        case rel => exact ⟨m + 1, j, rfl, by go_num, rfl, by have := HM.out; omega, HJN.out, fun hasc => ⟨fun a ha => by
          have := HASC.out hasc a m (by omega) (by have := HM.out; omega)
          have := HX.out
          omega, (HV.out hasc).2⟩, hb⟩
      · have hd : decide (at0 xs m < x) = false := decide_eq_false hx
        have HX := hid hx
        have HM := hid hm1
        have HJN := hid hjn
        clear hx
        go_wp2
        go_roundg (m - i)
        case measure => have := HM.out; omega
        case rel => exact ⟨i, m, rfl, rfl, rfl, by have := HM.out; omega, by have := HM.out; omega, fun hasc => ⟨(HV.out hasc).1, fun a h1 h2 => by
          have := HASC.out hasc m a h1 h2
          have := HX.out
          omega⟩, hb⟩
    · obtain rfl : i = j := by omega
      by_cases hin : i < n
      · obtain ⟨b, o, rfl, lb, hkl, ca⟩ := hs.num hin
        have cc := (hb.cell (p := ⟨b, o + i, none⟩) lb).trans ca
        have d1 : decide ((i : Int) < (n : Int)) = true := decide_eq_true (by omega)
        have d2 : decide (i < n) = true := decide_eq_true hin
        clear ca
        by_cases he : at0 xs i = x
        · have d3 : (at0 xs i == x) = true := by rw [beq_iff_eq]; exact he
          have HE := hid he
          have HI := hid hin
          clear he
          go_wp2
          go_ret2
          exact ⟨i, true, rfl, fun _ => ⟨HI.out, HE.out⟩, fun h => absurd h (by decide), hb⟩
        · have d3 : (at0 xs i == x) = false := by rw [beq_eq_false_iff_ne]; exact he
          have HE := hid he
          have HI := hid hin
          clear he
          go_wp2
          go_ret2
          refine ⟨i, false, rfl, fun h => absurd h (by decide), fun _ hasc a ha => ?_, hb⟩
          have h1 := (HV.out hasc).1
          have h2 := (HV.out hasc).2
          rcases Nat.lt_trichotomy a i with g | g | g
          · have := h1 a g; omega
          · subst g; exact HE.out
          · have h3 := HASC.out hasc i a (by omega) ha
            have h4 := h2 i (Nat.le_refl _) HI.out
            have h5 := HE.out
            omega
      · have d1 : decide ((i : Int) < (n : Int)) = false := decide_eq_false (by omega)
        have d2 : decide (i < n) = false := decide_eq_false hin
        have HI := hid hin
        go_wp2
        go_ret2
        refine ⟨i, false, rfl, fun h => absurd h (by decide), fun _ hasc a ha => ?_, hb⟩
        have := (HV.out hasc).1 a (by have := HI.out; omega)
        omega
end Go.Proofs.Ytpebglilphgamaa
