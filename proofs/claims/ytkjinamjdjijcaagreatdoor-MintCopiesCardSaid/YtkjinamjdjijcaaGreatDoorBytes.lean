/- Walks of slices.ContainsFunc on bytes with isLine's closure. Condition: the slice reads as bytes. -/
import Derived.Test.YtkjinamjdjijcaaGreatDoorEnter
namespace Go.Proofs.YtkjinamjdjijcaaGreatDoor
open Go.RowKit Go.Maps

/-- Is a byte none of a line's? -/
def odd8 (b : UInt8) : Bool := decide (b.toNat < 32) || decide (126 < b.toNat)
def u8V (l : List UInt8) : List Value := l.map fun b => .int .u8 (b.toNat : Nat)
set_option maxRecDepth 100000 in
theorem line1 (b : UInt8) (w : World) :
    Calls Tryz.prog 83 #[.int .u8 (b.toNat : Nat)] w fun e w' => e = .returned (.bool (odd8 b)) ∧ w = w' := by
  have hb := b.toNat_lt
  unfold odd8
  by_cases h1 : b.toNat < 32
  · have g1 : decide ((b.toNat : Int) < 32) = true := decide_eq_true (by omega)
    have g2 : decide (b.toNat < 32) = true := decide_eq_true h1
    go_enter Tryz.func83, Tryz.ntmps83
    go_wp2
    go_ret
    exact ⟨by simp; omega, rfl⟩
  · have g1 : decide ((b.toNat : Int) < 32) = false := decide_eq_false (by omega)
    have g2 : decide (b.toNat < 32) = false := decide_eq_false h1
    by_cases h2 : 126 < b.toNat
    · have g3 : decide (126 < (b.toNat : Int)) = true := decide_eq_true (by omega)
      have g4 : decide (126 < b.toNat) = true := decide_eq_true h2
      go_enter Tryz.func83, Tryz.ntmps83
      go_wp2
      go_ret
      exact ⟨by simp; omega, rfl⟩
    · have g3 : decide (126 < (b.toNat : Int)) = false := decide_eq_false (by omega)
      have g4 : decide (126 < b.toNat) = false := decide_eq_false h2
      go_enter Tryz.func83, Tryz.ntmps83
      go_wp2
      go_ret
      exact ⟨by simp; omega, rfl⟩
/-- What the closure says of each of some values. -/
def LineS (w : World) (vs : List Value) (f : Nat → Bool) : Prop := ∀ (i : Nat) v, vs[i]? = some v → Calls Tryz.prog 83 #[v] w fun e w' => e = .returned (.bool (f i)) ∧ w = w'
set_option maxRecDepth 100000 in
set_option maxHeartbeats 1000000 in
theorem byteIdx (A : Option Addr) (n c : Nat) (vs : List Value) (f : Nat → Bool) (lb : Array Value) (w : World) (hlb : lb = #[]) (hs : Sl w A n c vs) (hf : LineS w vs f) :
    Calls Tryz.prog 117 #[.slice A n c, .func (.func 83) #[] lb] w fun e w' => (∃ r : Int, e = .returned (.int .i64 r) ∧ (0 ≤ r ↔ ∃ i, i < n ∧ f i = true)) ∧ w = w' := by
  subst hlb
  have hm : n ≤ 9223372036854775807 := by have := hs.cap; have := hs.capm; unfold maxLen at this; omega
  have he : ∀ args W, (callFunc 83 args).run Tryz.prog W = .ok (.enter 83 args) W := fun args W => enters Tryz.func83 (by kernel_rfl) rfl args W
  have HF := hid hf
  have HS := hid hs
  clear hs hf
  go_enter Tryz.func117, Tryz.ntmps117
  go_wp2
  go_loopg [8] n (fun gk i wr => ∃ k : Nat, gk + k = n ∧ i = .int .i64 k ∧ Hid (∀ j, j < k → f j = false) ∧ w = wr)
  case atStart => exact ⟨0, by omega, rfl, hid fun j h => absurd h (by omega), rfl⟩
  case round =>
    obtain ⟨k, hk, rfl, HN, hw⟩ := hrel
    subst hw
    have HK := hid hk
    by_cases hlt : k < n
    · have HLT := hid hlt
      obtain ⟨b, o, u, rfl, lb1, e1, ca⟩ := HS.out.at hlt
      have hc := HF.out k u e1
      have HC := hid hc
      clear e1 hc hk lb1
      cases hfx : f k
      · rw [hfx] at HC
        have HX := hid hfx
        clear hfx
        go_wp2_with (refine (HC.out).mono ?_; rintro e w1 ⟨rfl, rfl⟩)
        go_roundg (gk - 1)
        case measure => have := HK.out; have := HLT.out; omega
        case rel =>
          refine ⟨k + 1, by have := HK.out; have := HLT.out; omega, by go_num, hid fun j hj => ?_, rfl⟩
          by_cases e : j = k
          · subst e; exact HX.out
          · exact HN.out j (by omega)
      · rw [hfx] at HC
        have HX := hid hfx
        clear hfx
        go_wp2_with (refine (HC.out).mono ?_; rintro e w1 ⟨rfl, rfl⟩)
        go_ret
        exact ⟨⟨(k : Int), rfl, ⟨fun _ => ⟨k, HLT.out, HX.out⟩, fun _ => by omega⟩⟩, rfl⟩
    · obtain rfl : k = n := by have := HK.out; omega
      clear hk
      go_wp2
      go_ret
      exact ⟨⟨-1, rfl, ⟨fun h => absurd h (by decide), fun ⟨i, hi, hfi⟩ => by rw [HN.out i hi] at hfi; cases hfi⟩⟩, rfl⟩
set_option maxRecDepth 100000 in
theorem byteAny (A : Option Addr) (n c : Nat) (vs : List Value) (f : Nat → Bool) (b : Bool) (w : World) (hs : Sl w A n c vs) (hf : LineS w vs f) (hb : b = true ↔ ∃ i, i < n ∧ f i = true) :
    Calls Tryz.prog 82 #[.slice A n c, .func (.func 83) #[] #[]] w fun e w' => e = .returned (.bool b) ∧ w = w' := by
  have HI := hid (byteIdx A n c vs f #[] w rfl hs hf)
  have HB := hid hb
  clear hs hf hb
  go_enter Tryz.func82, Tryz.ntmps82
  go_wp2_with fail
  refine (HI.out).mono ?_; rintro e w1 ⟨⟨r, rfl, hr⟩, rfl⟩
  have hd : decide (0 ≤ r) = b := by rw [Bool.eq_iff_iff, decide_eq_true_iff, HB.out]; exact hr
  clear hr
  go_wp2
  go_ret
  exact ⟨rfl, rfl⟩
end Go.Proofs.YtkjinamjdjijcaaGreatDoor
