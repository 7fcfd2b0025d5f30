/- Walk of MintCopies. Conditions: the library's table of 64 numbers and MaxLen stand in their variables. -/
import Derived.Test.YtkjinamjdjijcaaGreatDoorTouch
import Derived.Test.YtkjinamjdjijcaaGreatDoorAwake
namespace Go.Proofs.YtkjinamjdjijcaaGreatDoor
open Go.RowKit Go.Maps

set_option maxRecDepth 100000 in
set_option maxHeartbeats 8000000 in
theorem mintCopies_walk (w : World) (hT : Tab w) (hm : MaxL w) (five : Bool) (A0 : Option Addr) (n0 c0 : Nat) (ts : List Ac) (hs : Sl5 w A0 n0 c0 ts) :
    Calls Tryz.prog 3 #[.bool five, .slice A0 n0 c0] w fun e w' => e = .returned (.bool true) ∧ Below w.heap.size w w' := by
  obtain ⟨N, HN, HC⟩ : ∃ N, Hid (N = 3 ∨ N = 5) ∧ Hid (Calls Tryz.prog 5 #[.bool five] w fun x w' => ∃ a r, x = .returned (.tuple #[a, r]) ∧ CopAre w' w.heap.size N a r ∧ Below w.heap.size w w') := ⟨if five then 5 else 3, hid (by cases five <;> simp), hid (copiesF five w)⟩
  have HT := hid hT
  have HM := hid hm
  have HA := hid hs
  have hcap := hs.cap
  have hmx : n0 ≤ 9223372036854775807 := by have := hs.cap; have := hs.capm; unfold maxLen at this; omega
  clear hs hT hm
  by_cases h60 : n0 ≤ 60
  · skip
    go_enter Tryz.func3, Tryz.ntmps3
    go_wp2_with fail
    refine (HC.out).mono ?_; rintro e w1 ⟨a, r, rfl, hc, b1⟩
    obtain ⟨A, c, R, d, L, M, rfl, rfl, hb⟩ := hc.both b1
    have HS := hid hb
    clear hc b1 hb HC
    go_wp2_with fail
    go_loopg [20] n0 (fun gk i wr => ∃ (q : Nat) (st : Nat → CSt), gk + q = n0 ∧ i = .int .i64 q ∧ Hid (Both w wr N A c R d L M st st))
    case atStart => exact ⟨0, _, by omega, rfl, HS⟩
    case round =>
      clear HS
      obtain ⟨q, st, hq, rfl, HS⟩ := hrel
      have HQ := hid hq
      by_cases hlt : q < n0
      · have HLT := hid hlt
        obtain ⟨b, o, rfl, lb, a0, a1, a2, a3, a4⟩ := HA.out.at (k := q) (by omega)
        have lb2 : b < wr.heap.size := by have := HS.out.low.size; omega
        have e0 := (HS.out.low.cell (p := ⟨b, o + q * 5, none⟩) lb).trans a0
        have e1 := (HS.out.low.cell (p := ⟨b, o + q * 5 + 1, none⟩) lb).trans a1
        have e2 := (HS.out.low.cell (p := ⟨b, o + q * 5 + 2, none⟩) lb).trans a2
        have e3 := (HS.out.low.cell (p := ⟨b, o + q * 5 + 3, none⟩) lb).trans a3
        have e4 := (HS.out.low.cell (p := ⟨b, o + q * 5 + 4, none⟩) lb).trans a4
        clear a0 a1 a2 a3 a4 lb hq
        have HT0 := hid fun W (h : Both w W N A c R d L M st st) => touchedF (ac ts q) w W N HN.out A c R d L M st h
        generalize ac ts q = u at *
        obtain ⟨kd, un, um, ui, ln⟩ := u
        simp only at e0 e1 e2 e3 e4 HT0
        have HS1 := hid (HS.out.keep ((Below.refl _ wr).alloc (Nat.le_refl _) (.cells #[.int .i64 kd, .int .i64 un, .int .i64 um, .int .i64 ui, .string ln] 28)))
        go_wp2_with fail
        refine (HT0.out _ HS1.out).mono ?_; rintro x w2 ⟨rfl, st2, hb2⟩
        have HS2 := hid hb2
        have HSA := hid (sameF 12 (by omega) w w2 N (by have := HN.out; omega) A c R d L M st2 hb2)
        clear hb2 HT0 HS1 HS e0 e1 e2 e3 e4
        go_wp2_with fail
        refine (HSA.out).mono ?_; rintro x w3 ⟨rfl, hb3⟩
        have HS3 := hid (HS2.out.keep hb3)
        clear hb3 HSA HS2
        go_wp2
        go_roundg (gk - 1)
        case measure => have := HQ.out; have := HLT.out; omega
        case rel => exact ⟨q + 1, st2, by have := HQ.out; have := HLT.out; omega, by go_num, HS3⟩
      · obtain rfl : q = n0 := by have := HQ.out; omega
        clear hq hlt
        have HAW := hid (awakeF wr (HT.out.below HS.out.low) (HM.out.keep HS.out.low))
        go_wp2_with fail
        refine (HAW.out).mono ?_; rintro e w6 ⟨rfl, hb6⟩
        have HB6 := hid hb6
        clear hb6
        go_wp2
        go_ret
        exact ⟨rfl, below_call HS.out.low HB6.out HS.out.low.size⟩
  · skip
    go_enter Tryz.func3, Tryz.ntmps3
    go_wp2_with fail
    refine (HC.out).mono ?_; rintro e w1 ⟨a, r, rfl, hc, b1⟩
    obtain ⟨A, c, R, d, L, M, rfl, rfl, hb⟩ := hc.both b1
    have HS := hid hb
    clear hc b1 hb HC
    go_wp2_with fail
    go_loopg [20] 60 (fun gk i wr => ∃ (q : Nat) (st : Nat → CSt), gk + q = 60 ∧ i = .int .i64 q ∧ Hid (Both w wr N A c R d L M st st))
    case atStart => exact ⟨0, _, by omega, rfl, HS⟩
    case round =>
      clear HS
      obtain ⟨q, st, hq, rfl, HS⟩ := hrel
      have HQ := hid hq
      by_cases hlt : q < 60
      · have HLT := hid hlt
        obtain ⟨b, o, rfl, lb, a0, a1, a2, a3, a4⟩ := HA.out.at (k := q) (by omega)
        have lb2 : b < wr.heap.size := by have := HS.out.low.size; omega
        have e0 := (HS.out.low.cell (p := ⟨b, o + q * 5, none⟩) lb).trans a0
        have e1 := (HS.out.low.cell (p := ⟨b, o + q * 5 + 1, none⟩) lb).trans a1
        have e2 := (HS.out.low.cell (p := ⟨b, o + q * 5 + 2, none⟩) lb).trans a2
        have e3 := (HS.out.low.cell (p := ⟨b, o + q * 5 + 3, none⟩) lb).trans a3
        have e4 := (HS.out.low.cell (p := ⟨b, o + q * 5 + 4, none⟩) lb).trans a4
        clear a0 a1 a2 a3 a4 lb hq
        have HT0 := hid fun W (h : Both w W N A c R d L M st st) => touchedF (ac ts q) w W N HN.out A c R d L M st h
        generalize ac ts q = u at *
        obtain ⟨kd, un, um, ui, ln⟩ := u
        simp only at e0 e1 e2 e3 e4 HT0
        have HS1 := hid (HS.out.keep ((Below.refl _ wr).alloc (Nat.le_refl _) (.cells #[.int .i64 kd, .int .i64 un, .int .i64 um, .int .i64 ui, .string ln] 28)))
        go_wp2_with fail
        refine (HT0.out _ HS1.out).mono ?_; rintro x w2 ⟨rfl, st2, hb2⟩
        have HS2 := hid hb2
        have HSA := hid (sameF 12 (by omega) w w2 N (by have := HN.out; omega) A c R d L M st2 hb2)
        clear hb2 HT0 HS1 HS e0 e1 e2 e3 e4
        go_wp2_with fail
        refine (HSA.out).mono ?_; rintro x w3 ⟨rfl, hb3⟩
        have HS3 := hid (HS2.out.keep hb3)
        clear hb3 HSA HS2
        go_wp2
        go_roundg (gk - 1)
        case measure => have := HQ.out; have := HLT.out; omega
        case rel => exact ⟨q + 1, st2, by have := HQ.out; have := HLT.out; omega, by go_num, HS3⟩
      · obtain rfl : q = 60 := by have := HQ.out; omega
        clear hq hlt
        have HAW := hid (awakeF wr (HT.out.below HS.out.low) (HM.out.keep HS.out.low))
        go_wp2_with fail
        refine (HAW.out).mono ?_; rintro e w6 ⟨rfl, hb6⟩
        have HB6 := hid hb6
        clear hb6
        go_wp2
        go_ret
        exact ⟨rfl, below_call HS.out.low HB6.out HS.out.low.size⟩
end Go.Proofs.YtkjinamjdjijcaaGreatDoor
