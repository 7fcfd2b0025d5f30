/- Walk of named: a word and the names with some indices. Condition: the indices are in the list. -/
import Derived.Test.YtkjinamjdjijcaaGreatDoorRules
namespace Go.Proofs.YtkjinamjdjijcaaGreatDoor
open Go.RowKit Go.Maps

def strV (l : List ByteArray) : List Value := l.map Value.string
/-- A word and names behind it, each behind a blank. -/
def nmd (word : ByteArray) (names : List ByteArray) (l : List Nat) : ByteArray := l.foldl (fun o i => o ++ (⟨#[32]⟩ ++ names.getD i ByteArray.empty)) word
theorem nmd_snoc (word : ByteArray) (names : List ByteArray) (l : List Nat) (i : Nat) : nmd word names (l ++ [i]) = nmd word names l ++ (⟨#[32]⟩ ++ names.getD i ByteArray.empty) := by simp [nmd, List.foldl_append]
set_option maxRecDepth 100000 in
set_option maxHeartbeats 2000000 in
theorem namedF (word : ByteArray) (A : Option Addr) (n c : Nat) (names : List ByteArray) (A2 : Option Addr) (m d : Nat) (l : List Nat) (w : World) (hs : Sl w A n c (strV names)) (ht : Sl w A2 m d (l.map fun i : Nat => Value.int .i64 i)) (hl : ∀ i ∈ l, i < n) (hw : word.size ≤ 1000) (hz : ∀ s ∈ names, s.size ≤ 100) (hm2 : m ≤ 1000) :
    Calls Tryz.prog 97 #[.string word, .slice A n c, .slice A2 m d] w fun x w' => x = .returned (.string (nmd word names l)) ∧ w = w' := by
  have HS := hid hs
  have HT := hid ht
  have HLL := hid (show l.length = m by have := ht.len; simpa using this)
  have HI := hid hl
  have HZ := hid hz
  have HW := hid hw
  have hm : m ≤ 9223372036854775807 := by have := ht.cap; have := ht.capm; unfold maxLen at this; omega
  have hn : n ≤ 9223372036854775807 := by have := hs.cap; have := hs.capm; unfold maxLen at this; omega
  clear hs ht hl hz hw
  go_enter Tryz.func97, Tryz.ntmps97
  go_wp2
  go_loopg [0, 11] m (fun gk v i wr => ∃ k : Nat, gk + k = m ∧ i = .int .i64 k ∧ v = .string (nmd word names (l.take k)) ∧ (nmd word names (l.take k)).size ≤ 1000 + 101 * k ∧ w = wr)
  case atStart => exact ⟨0, by omega, rfl, rfl, HW.out, rfl⟩
  case round =>
    obtain ⟨k, hk, rfl, rfl, hsz, hw⟩ := hrel
    subst hw
    have HK := hid hk
    by_cases hlt : k < m
    · have HLT := hid hlt
      obtain ⟨b, o, u, rfl, lb, e1, ca⟩ := HT.out.at hlt
      rw [List.getElem?_map] at e1
      obtain ⟨i, hi, rfl⟩ := Option.map_eq_some_iff.1 e1
      have hin := HI.out i (List.mem_of_getElem? hi)
      obtain ⟨b2, o2, u2, rfl, lb2, e2, ca2⟩ := HS.out.at hin
      unfold strV at e2
      rw [List.getElem?_map] at e2
      obtain ⟨s, hs, rfl⟩ := Option.map_eq_some_iff.1 e2
      have HST := hid (show nmd word names (l.take (k + 1)) = nmd word names (l.take k) ++ (⟨#[32]⟩ ++ s) by
        rw [List.take_add_one, hi, Option.toList_some, nmd_snoc, List.getD, hs]; rfl)
      have hz := HZ.out s (List.mem_of_getElem? hs)
      generalize nmd word names (l.take k) = v at *
      have h1s : (⟨#[32]⟩ ++ s : ByteArray).size = 1 + s.size := by rw [ByteArray.size_append]; rfl
      have cat1 : ∀ W : World, (Op.stringOp .add ⟨#[32]⟩ s).run Tryz.prog W = .ok (.string (⟨#[32]⟩ ++ s)) W := fun W => run_string_add_sum W _ _ (by have : (ByteArray.mk #[32]).size = 1 := rfl; omega)
      have cat2 : ∀ W : World, (Op.stringOp .add v (⟨#[32]⟩ ++ s)).run Tryz.prog W = .ok (.string (v ++ (⟨#[32]⟩ ++ s))) W := fun W => run_string_add_sum W _ _ (by omega)
      have HSZ := hid (show (v ++ (⟨#[32]⟩ ++ s)).size ≤ 1000 + 101 * (k + 1) by rw [ByteArray.size_append]; omega)
      clear hk e1 hi lb e2 hs lb2
      go_wp2
      go_roundg (gk - 1)
      case measure => have := HK.out; have := HLT.out; omega
      case rel => exact ⟨k + 1, by have := HK.out; have := HLT.out; omega, by go_num, by rw [HST.out], by rw [HST.out]; exact HSZ.out, rfl⟩
    · obtain rfl : k = m := by have := HK.out; omega
      have e : l.take k = l := List.take_of_length_le (by have := HLL.out; omega)
      rw [e]
      clear hk e
      go_wp2
      go_ret
      exact ⟨rfl, rfl⟩
end Go.Proofs.YtkjinamjdjijcaaGreatDoor
