/- Walk of enter: a name is added to a list of the call's own. Condition: the list is a row of the call's own. -/
import Derived.Test.YtkjinamjdjijcaaGreatDoorStrs
namespace Go.Proofs.YtkjinamjdjijcaaGreatDoor
open Go.RowKit Go.Maps

set_option maxRecDepth 100000 in
set_option maxHeartbeats 1000000 in
theorem enterYes (B : Nat) (A : Option Addr) (n c : Nat) (names : List ByteArray) (s : ByteArray) (most : Nat) (w : World) (hB : B ≤ w.heap.size) (ho : w.ownsRow B 9 1 (.slice A n c) n (strV names)) (hno : s ∉ names) (hn : n < most) (hm : most ≤ 1000) :
    Calls Tryz.prog 84 #[.slice A n c, .string s, .int .i64 (most : Nat)] w fun x w' => (∃ A' c', x = .returned (.tuple #[.slice A' (n + 1) c', .int .i64 0]) ∧ w'.ownsRow B 9 1 (.slice A' (n + 1) c') (n + 1) (strV (names ++ [s]))) ∧ (w.alloc (.cells #[.string s] 9)).grownBy w' (Value.slice A n c).ownBlock := by
  have HH := hid (strHas A n c names s false w (Sl.of_own ho) (by simp [hno]))
  have HO := hid ho
  have q1 : ((n : Int) == (most : Int)) = false := by rw [beq_eq_false_iff_ne]; omega
  have q2 : (n == most) = false := by rw [beq_eq_false_iff_ne]; omega
  have q3 : decide (n = most) = false := decide_eq_false (by omega)
  clear ho hno
  go_enter Tryz.func84, Tryz.ntmps84
  go_wp2_with fail
  refine (HH.out).mono ?_; rintro x w' ⟨rfl, rfl⟩
  go_wp2_with (at_builtin; refine push1P TS22 w #[.string s] B _ _ _ HO.out _ _ w.heap.size rfl rfl rfl rfl rfl rfl (by simp [Value.oneCell']) (by omega) (by omega) hB ?_; intro v1 w8 hown1 hgr)
  have HO8 := hid hown1
  have HG := hid hgr
  obtain ⟨A8, c8, rfl⟩ := own_form hown1
  clear hown1 hgr
  go_wp2
  go_ret2
  exact ⟨⟨A8, c8, rfl, by unfold strV at *; rw [List.map_append]; exact HO8.out⟩, HG.out⟩
end Go.Proofs.YtkjinamjdjijcaaGreatDoor
