/- Walks of order's elements and of its closure. Condition: the library's table of 64 numbers stands in its variable; the set's box is known. -/
import Derived.Test.YtkjinamjdjijcaaGreatDoorRange
import Derived.Test.YtkjinamjdjijcaaGreatDoorBits
namespace Go.Proofs.YtkjinamjdjijcaaGreatDoor
open Go.RowKit Go.Shelf
attribute [local go_sem] Oper.semAt_some

set_option maxRecDepth 100000 in
/-- The maker: the set is boxed, and the function value holds the box. -/
theorem elementsF (s : Int) (w : World) :
    Calls Tryz.prog 171 #[.int .i64 s] w fun e w' => e = .returned (.func (.func 225) #[] #[.pointer (some ⟨w.heap.size, 0, none⟩)]) ∧ w.alloc (.cells #[.int .i64 s] 3) = w' := by
  go_enter Tryz.func171, Tryz.ntmps171
  go_wp2
  go_ret
  exact ⟨rfl, rfl⟩
/-- The number in a box. -/
def boxN (w : World) (c : Nat) : Nat := match w.cell? ⟨c, 0, none⟩ with
  | some (.int _ x) => x.toNat
  | _ => 0
theorem boxN_of {w : World} {c : Nat} {t : TypeId} {s : Nat} (h : Blk w c t #[.int .i64 s]) : boxN w c = s := by
  have := h.cell 0
  unfold boxN
  rw [this]
  simp
theorem and_pred_lt {s : Nat} (h : s ≠ 0) : s &&& (s - 1) < s := by
  have : s &&& (s - 1) ≤ s - 1 := Nat.and_le_right
  omega
set_option maxRecDepth 100000 in
set_option maxHeartbeats 2000000 in
theorem elems_iter (n c s : Nat) (xs : List Nat) (W : World) (hx : Elems s xs) (hc : Blk W c 3 #[.int .i64 s]) :
    IterC Tryz.prog n 225 c 3 xs W := fun l J Jx hS hT hY W1 hW1 h0 => by
  have hc1 : Blk W1 c 3 #[.int .i64 s] := hW1.trans hc
  refine callsIn_of_wp Tryz.func225 rfl trivial ?_ rfl
  simp only [Tryz.ntmps225, List.size_toArray, List.length_cons, List.length_nil, Nat.reduceAdd, Nat.reduceSub, Array.replicate_succ, Array.replicate_zero, List.push_toArray, List.append_toArray, List.nil_append, List.cons_append]
  gi_wp2
  gi_loopw [3] (fun _ wr => ∃ (k s' : Nat), k ≤ xs.length ∧ Elems s' (xs.drop k) ∧ Blk wr c 3 #[.int .i64 s'] ∧ J k wr) (fun _ wr => boxN wr c)
  case atStart => exact ⟨0, s, Nat.zero_le _, hx, hc1, h0⟩
  case round =>
    obtain ⟨k, s', hk, he, hb, hj⟩ := hrel
    have HB := hid hb
    have HJ := hid hj
    have HK := hid hk
    have c0 := hb.cell 0
    simp only [List.getElem?_toArray, List.getElem?_cons_zero] at c0
    have f0 := hb.free 0
    cases hd : xs.drop k with
    | nil =>
      rw [hd] at he
      obtain rfl : s' = 0 := he
      have hkl : k = xs.length := by have := List.drop_eq_nil_iff.1 hd; omega
      subst hkl
      clear hd hb hj hk
      gi_wp2
      go_end0
      exact ⟨⟨_, rfl⟩, .inl HJ.out⟩
    | cons x rest =>
      rw [hd] at he
      obtain ⟨hne, hlt, rfl, hr⟩ := he
      have hxk : xs[k]? = some (Lib.ctz 64 s') := by
        have : (xs.drop k)[0]? = some (Lib.ctz 64 s') := by rw [hd]; rfl
        simpa using this
      have hkl : k < xs.length := (List.getElem?_eq_some_iff.1 hxk).1
      have hdr : xs.drop (k + 1) = rest := by rw [← List.drop_drop, hd]; rfl
      have HR := hid hr
      have HD := hid hdr
      have HL := hid hkl
      have HNE := hid hne
      obtain ⟨fn, tmps, assign, body, hy, hR⟩ := hY k _ wr hj hxk ⟨_, hb⟩
      have HTZ := hid (tzU s' (by omega) wr (hT k wr hj))
      clear hd hb hj hk hr hdr hxk hkl
      generalize Lib.ctz 64 s' = z at *
      have q1 : ((s' : Int) != 0) = true := by rw [bne_iff_ne]; omega
      have q2 : (s' != 0) = true := by rw [bne_iff_ne]; exact hne
      gi_wp2
      refine ⟨trivial, (fun h => by cases h), (callsIn_wide.2 HTZ.out).mono ?_⟩
      rintro e w' ⟨rfl, rfl⟩
      gi_wp2
      refine ⟨(fun h => by cases h), hR.mono ?_⟩
      rintro e W3 (⟨rfl, hj3, hc3⟩ | ⟨rfl, hx3⟩)
      · have hb3 : Blk W3 c 3 #[.int .i64 s'] := hc3.trans HB.out
        have d0 := hb3.cell 0
        simp only [List.getElem?_toArray, List.getElem?_cons_zero] at d0
        have f3 := hb3.free 0
        have HB3 := hid (hb3.set 0 (.int .i64 (s' &&& (s' - 1) : Nat)))
        have HJ3 := hid (hS _ _ (.int .i64 (s' &&& (s' - 1) : Nat)) hj3)
        have hand : bits .and .i64 (s' : Int) ((s' : Int) - 1) = ((s' &&& (s' - 1) : Nat) : Int) := by
          have := i64_and s' (s' - 1) (by omega) (by omega)
          rwa [show ((s' - 1 : Nat) : Int) = (s' : Int) - 1 by omega] at this
        have HM := hid (and_pred_lt hne)
        have HBN := hid (boxN_of HB.out)
        clear hj3 hc3 hb3
        generalize s' &&& (s' - 1) = s2 at *
        gi_wp2
        go_roundw
        case rel => exact ⟨k + 1, s2, HL.out, by rw [HD.out]; exact HR.out, HB3.out, HJ3.out⟩
        case measure => rw [boxN_of HB3.out, HBN.out]; exact HM.out
      · gi_wp2
        refine bodyPost_ret (results_none rfl _ _ _) rfl ?_
        exact ⟨⟨_, rfl⟩, .inr hx3⟩
end Go.Proofs.YtkjinamjdjijcaaGreatDoor
