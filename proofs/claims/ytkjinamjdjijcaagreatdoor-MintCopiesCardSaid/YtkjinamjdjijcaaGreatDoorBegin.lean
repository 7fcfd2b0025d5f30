/- Walks of begin, and of reading copies that hold nothing yet. Conditions: copies that NewCopy made. -/
import Derived.Test.YtkjinamjdjijcaaGreatDoorCloneM
namespace Go.Proofs.YtkjinamjdjijcaaGreatDoor
open Go.RowKit Go.Maps

/-- The cells of the first state. -/
def begC : Array Value := #[.slice none 0 0, .slice none 0 0, .slice none 0 0, .slice none 0 0, .int .i64 0, .int .i64 0, .int .i64 0, .int .i64 1, .bool true, .slice none 0 0]
set_option maxRecDepth 100000 in
theorem beginF (w : World) :
    Calls Tryz.prog 30 #[] w fun e w' => ∃ b, e = .returned (.pointer (some ⟨b, 0, none⟩)) ∧ Blk w' b 101 begC ∧ w.heap.size ≤ b ∧ Below w.heap.size w w' := by
  go_enter Tryz.func30, Tryz.ntmps30
  go_wp2
  go_ret
  exact ⟨_, rfl, Blk.new _ _ _, Nat.le_refl _, (Below.refl _ w).alloc (Nat.le_refl _) _⟩
/-- Copies that hold nothing at number i. -/
def NoEnt (w : World) (i : Nat) (l : List Nat) : Prop := ∀ b ∈ l, ∃ mb mark away e, CpM w b mb mark away e ∧ e i = none
theorem NoEnt.keep {w w' : World} {i : Nat} {l : List Nat} (h : NoEnt w i l) (hb : Below w.heap.size w w') : NoEnt w' i l := fun b hm => by
  obtain ⟨mb, mark, away, e, k, h0⟩ := h b hm
  exact ⟨mb, mark, away, e, k.keep hb, h0⟩
set_option maxRecDepth 100000 in
set_option maxHeartbeats 2000000 in
theorem entryNone (A : Option Addr) (n c i : Nat) (l : List Nat) (w : World) (hn : n ≤ 1000) (hi : i < 1000) (hs : Sl w A n c (ptrs l)) (hl : NoEnt w i l) :
    Calls Tryz.prog 43 #[.slice A n c, .int .i64 (i : Nat)] w fun x w' => x = .returned (.tuple #[.agg #[.int .i64 0, .string ByteArray.empty], .bool false]) ∧ Below w.heap.size w w' := by
  have HS := hid hs
  have HN := hid hl
  have HL := hid (show l.length = n by have := hs.len; simpa [ptrs] using this)
  clear hs hl
  go_enter Tryz.func43, Tryz.ntmps43
  go_wp2
  go_loopg [7, 14] n (fun gk v t wr => ∃ d : Nat, gk + d = n ∧ t = .int .i64 d ∧ v = .bool false ∧ Hid (Blk wr w.heap.size 72 #[.int .i64 0, .string ByteArray.empty]) ∧ Hid (Blk wr (w.heap.size + 1) 72 #[.int .i64 0, .string ByteArray.empty]) ∧ Hid (Below w.heap.size w wr))
  case atStart => exact ⟨0, by omega, rfl, rfl, hid ((Blk.new w _ _).alloc _), hid (Blk.new_at _ _ _ (by simp)), hid (((Below.refl _ w).alloc (Nat.le_refl _) _).alloc (by simp) _)⟩
  case round =>
    obtain ⟨d, hd, rfl, rfl, HB4, HB6, HB⟩ := hrel
    have HD := hid hd
    by_cases hlt : d < n
    · have HLT := hid hlt
      obtain ⟨b, o, u, rfl, lb, e1, ca⟩ := (HS.out.below HB.out).at hlt
      obtain ⟨y, hy, rfl⟩ := Option.map_eq_some_iff.1 (show (l[d]?).map (fun b => Value.pointer (some ⟨b, 0, none⟩)) = some u by rw [← List.getElem?_map]; exact e1)
      obtain ⟨mb, mark, away, e, hcp, he0⟩ := HN.out.keep HB.out y (List.mem_of_getElem? hy)
      have c0 := hcp.blk.cell 0
      simp only [List.getElem?_toArray, List.getElem?_cons_zero] at c0
      have HLK : (Instr.lookup 34 (.map (some mb)) (.int .i64 (i : Int)) true).run Tryz.prog wr = .ok (.tuple #[.agg #[.int .i64 0, .string ByteArray.empty], .bool false]) wr := hcp.map.look_out (int_keyed Tryz.underlying3) Tryz.underlying34 (z := .agg #[.int .i64 0, .string ByteArray.empty]) (fun W => by kernel_rfl) (keyOf_int_mk Tryz.underlying3 (WalkArith.wf_i64 (by omega))) (show fX e (.int .i64 (i : Int)) = none by rw [fX_nat, he0]; rfl) 0 true
      have H4 := hid (HB4.out.alloc (.cells #[.int .i64 0, .string ByteArray.empty] 72))
      have H6 := hid (HB6.out.alloc (.cells #[.int .i64 0, .string ByteArray.empty] 72))
      have HBB := hid (HB.out.alloc HB.out.size (.cells #[.int .i64 0, .string ByteArray.empty] 72))
      clear hd e1 hy lb hcp he0
      go_wp2
      go_roundg (gk - 1)
      case measure => have := HD.out; have := HLT.out; omega
      case rel => exact ⟨d + 1, by have := HD.out; have := HLT.out; omega, by go_num, rfl, H4, H6, HBB⟩
    · obtain rfl : d = n := by have := HD.out; omega
      have c60 := HB6.out.cell 0
      have c61 := HB6.out.cell 1
      have c40 := HB4.out.cell 0
      have c41 := HB4.out.cell 1
      simp only [List.getElem?_toArray, List.getElem?_cons_zero, List.getElem?_cons_succ] at c60 c61 c40 c41
      have z40 := HB4.out.free 0
      have z41 := HB4.out.free 1
      have HB4E := hid ((HB4.out.set 0 (.int .i64 0)).set 1 (.string ByteArray.empty))
      have HBE := hid ((HB.out.setCell (p := ⟨w.heap.size, 0, none⟩) (by simp) (.int .i64 0)).setCell (p := ⟨w.heap.size, 1, none⟩) (by simp) (.string ByteArray.empty))
      clear hd hlt
      go_wp2
      exact bodyPost_ret (results_row_tmp rfl _ _ w.heap.size 72 #[.int .i64 0, .string ByteArray.empty] (0, 0) _ rfl HB4E.out Tryz.underlying72 rfl (by kernel_rfl)) rfl ⟨rfl, HBE.out⟩
set_option maxRecDepth 100000 in
set_option maxHeartbeats 2000000 in
theorem readNone (mp : Addr) (A : Option Addr) (n c : Nat) (l : List Nat) (w : World) (hn : n ≤ 1000) (hs : Sl w A n c (ptrs l)) (hl : NoEnt w 0 l) :
    Calls Tryz.prog 33 #[.pointer (some mp), .slice A n c] w fun x w' => x = .returned (.tuple #[]) ∧ Below w.heap.size w w' := by
  have HE := hid (entryNone A n c 0 l w hn (by omega) hs hl)
  clear hs hl
  go_enter Tryz.func33, Tryz.ntmps33
  go_wp2
  go_loopg [10] 1 (fun gk i wr => gk = 1 ∧ i = .int .i64 0 ∧ w = wr)
  case atStart => exact ⟨rfl, rfl, rfl⟩
  case round =>
    obtain ⟨hg, rfl, hw⟩ := hrel
    subst hw
    go_wp2_with fail
    refine (HE.out).mono ?_; rintro x w1 ⟨rfl, b1⟩
    have HB := hid ((b1.alloc b1.size (.cells #[.int .i64 0, .string ByteArray.empty] 72)))
    clear b1
    go_wp2
    refine bodyPost_ret (results_none rfl _ _ _) rfl ?_
    exact ⟨rfl, HB.out⟩
end Go.Proofs.YtkjinamjdjijcaaGreatDoor
