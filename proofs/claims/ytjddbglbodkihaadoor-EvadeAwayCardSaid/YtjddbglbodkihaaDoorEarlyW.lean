/- Walk of evade.Early. Conditions: the slice reads as numbers; the table of the library stands. -/
import Derived.Test.YtjddbglbodkihaaDoorAskP
namespace Go.Proofs.YtjddbglbodkihaaDoor
open Go.RowKit

def earlyB (n : Nat) (xs : List Int) : Bool := decide (askN n (setF xs).testBit 0 0 < n)
set_option maxRecDepth 100000 in
set_option maxHeartbeats 2000000 in
theorem earlyYes (n : Nat) (A : Option Addr) (m c : Nat) (xs : List Int) (w : World) (hs : Sl w A m c (xs.map (Value.int .i64))) (hT : Tab w) (H : Fam n xs) :
    Calls Tryd.prog 35 #[.int .i64 n, .slice A m c] w fun e w' => e = .returned (.tuple #[.bool (earlyB n xs), .int .i64 0]) ∧ Below w.heap.size w w' := by
  have HA := hid (askYes n A m c xs w hs hT H)
  have hb : earlyB n xs = decide (askN n (setF xs).testBit 0 0 < n) := rfl
  rw [hb]
  generalize askN n (setF xs).testBit 0 0 = a at *
  clear hs hT H hb
  by_cases h : a < n
  · have g : decide (a < n) = true := decide_eq_true h
    have g1 : decide ((a : Int) < n) = true := decide_eq_true (by omega)
    rw [g]
    go_enter Tryd.func35, Tryd.ntmps35
    go_wp2_with fail
    refine (HA.out).mono ?_; rintro e w1 ⟨rfl, b1⟩
    have HB := hid b1
    clear b1
    go_wp2
    go_ret2
    exact ⟨rfl, HB.out⟩
  · have g : decide (a < n) = false := decide_eq_false h
    have g1 : decide ((a : Int) < n) = false := decide_eq_false (by omega)
    rw [g]
    go_enter Tryd.func35, Tryd.ntmps35
    go_wp2_with fail
    refine (HA.out).mono ?_; rintro e w1 ⟨rfl, b1⟩
    have HB := hid b1
    clear b1
    go_wp2
    go_ret2
    exact ⟨rfl, HB.out⟩
set_option maxRecDepth 100000 in
set_option maxHeartbeats 2000000 in
theorem earlyNo (n : Int) (A : Option Addr) (m c : Nat) (xs : List Int) (w : World) (hs : Sl w A m c (xs.map (Value.int .i64))) (hT : Tab w) (H : ¬ Fam n xs) :
    Calls Tryd.prog 35 #[.int .i64 n, .slice A m c] w fun e w' => e = .returned (.tuple #[.bool false, .int .i64 2]) ∧ Below w.heap.size w w' := by
  have HA := hid (askNo n A m c xs w hs hT H)
  clear hs hT H
  go_enter Tryd.func35, Tryd.ntmps35
  go_wp2_with fail
  refine (HA.out).mono ?_; rintro e w1 ⟨rfl, b1⟩
  have HB := hid b1
  clear b1
  go_wp2
  go_ret2
  exact ⟨rfl, HB.out⟩
end Go.Proofs.YtjddbglbodkihaaDoor
