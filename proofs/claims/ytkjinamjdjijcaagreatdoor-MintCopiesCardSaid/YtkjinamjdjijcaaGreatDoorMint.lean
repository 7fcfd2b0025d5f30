/- Walks of none, Out and Journal at a mint that Open made. Condition: the journal reads as strings. -/
import Derived.Test.YtkjinamjdjijcaaGreatDoorBytes
namespace Go.Proofs.YtkjinamjdjijcaaGreatDoor
open Go.RowKit Go.Maps

theorem strV_one (l : List ByteArray) : ∀ u ∈ strV l, u.oneCell' = true := by
  intro u hu
  obtain ⟨b, _, rfl⟩ := List.mem_map.1 hu
  rfl
/-- A mint: its copies, mark, state, journal, and whether it is out. -/
abbrev MintB (w : World) (m : Nat) (a : Value) (k : Int) (sb : Nat) (d : Value) (out : Bool) : Prop := Blk w m 55 #[a, .int .i64 k, .pointer (some ⟨sb, 0, none⟩), d, .bool out]
set_option maxRecDepth 100000 in
theorem mintNone (m : Nat) (a : Value) (k : Int) (sb : Nat) (d : Value) (out : Bool) (w : World) (h : MintB w m a k sb d out) :
    Calls Tryz.prog 34 #[.pointer (some ⟨m, 0, none⟩)] w fun x w' => x = .returned (.bool false) ∧ w = w' := by
  have c2 := h.cell 2
  simp only [List.getElem?_toArray, List.getElem?_cons_zero, List.getElem?_cons_succ] at c2
  clear h
  go_enter Tryz.func34, Tryz.ntmps34
  go_wp2
  go_ret
  exact ⟨rfl, rfl⟩
set_option maxRecDepth 100000 in
theorem mintOut (m : Nat) (a : Value) (k : Int) (sb : Nat) (d : Value) (out : Bool) (w : World) (h : MintB w m a k sb d out) :
    Calls Tryz.prog 20 #[.pointer (some ⟨m, 0, none⟩)] w fun x w' => x = .returned (.bool out) ∧ w = w' := by
  have HN := hid (mintNone m a k sb d out w h)
  have c4 := h.cell 4
  simp only [List.getElem?_toArray, List.getElem?_cons_zero, List.getElem?_cons_succ] at c4
  clear h
  cases out
  · go_enter Tryz.func20, Tryz.ntmps20
    go_wp2_with fail
    refine (HN.out).mono ?_; rintro x w' ⟨rfl, rfl⟩
    go_wp2
    go_ret
    exact ⟨rfl, rfl⟩
  · go_enter Tryz.func20, Tryz.ntmps20
    go_wp2_with fail
    refine (HN.out).mono ?_; rintro x w' ⟨rfl, rfl⟩
    go_wp2
    go_ret
    exact ⟨rfl, rfl⟩
set_option maxRecDepth 100000 in
theorem mintJournal (m : Nat) (a : Value) (k : Int) (sb : Nat) (A : Option Addr) (n c : Nat) (l : List ByteArray) (out : Bool) (w : World) (hn : n ≤ 1000000) (h : MintB w m a k sb (.slice A n c) out) (hs : Sl w A n c (strV l)) :
    Calls Tryz.prog 18 #[.pointer (some ⟨m, 0, none⟩)] w fun x w' => ∃ A' c', x = .returned (.slice A' n c') ∧ w'.ownsRow w.heap.size 9 1 (.slice A' n c') n (strV l) ∧ Below w.heap.size w w' := by
  have HN := hid (mintNone m a k sb _ out w h)
  have HC := hid (cloneS A n c _ (strV_one l) hn w hs)
  have c3 := h.cell 3
  simp only [List.getElem?_toArray, List.getElem?_cons_zero, List.getElem?_cons_succ] at c3
  clear h hs
  go_enter Tryz.func18, Tryz.ntmps18
  go_wp2_with fail
  refine (HN.out).mono ?_; rintro x w' ⟨rfl, rfl⟩
  go_wp2_with fail
  refine (HC.out).mono ?_; rintro x w1 ⟨A', c', rfl, ho, hb⟩
  have HO := hid ho
  have HB := hid hb
  clear ho hb
  go_wp2
  go_ret
  exact ⟨A', c', rfl, HO.out, HB.out⟩
end Go.Proofs.YtkjinamjdjijcaaGreatDoor
