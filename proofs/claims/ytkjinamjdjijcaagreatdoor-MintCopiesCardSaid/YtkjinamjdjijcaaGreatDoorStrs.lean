/- Walks of slices.Index and Contains on strings. Condition: the slice reads as strings. -/
import Derived.Test.YtkjinamjdjijcaaGreatDoorNamed
namespace Go.Proofs.YtkjinamjdjijcaaGreatDoor
open Go.RowKit Go.Maps

theorem toList_inj {a b : ByteArray} (h : a.toList = b.toList) : a = b := by
  rw [ByteArray.toList_eq, ByteArray.toList_eq] at h
  have h1 : a.data = b.data := Array.toList_inj.1 h
  cases a; cases b; simp_all
set_option maxRecDepth 100000 in
set_option maxHeartbeats 1000000 in
theorem strIdx (A : Option Addr) (n c : Nat) (l : List ByteArray) (b : ByteArray) (w : World) (hs : Sl w A n c (strV l)) :
    Calls Tryz.prog 116 #[.slice A n c, .string b] w fun e w' => (∃ r : Int, e = .returned (.int .i64 r) ∧ (0 ≤ r ↔ b ∈ l)) ∧ w = w' := by
  have hm : n ≤ 9223372036854775807 := by have := hs.cap; have := hs.capm; unfold maxLen at this; omega
  have HS := hid hs
  have HL := hid (show l.length = n by have := hs.len; simpa [strV] using this)
  clear hs
  go_enter Tryz.func116, Tryz.ntmps116
  go_wp2
  go_loopg [8] n (fun gk i wr => ∃ k : Nat, gk + k = n ∧ i = .int .i64 k ∧ Hid (∀ j, j < k → l[j]? ≠ some b) ∧ w = wr)
  case atStart => exact ⟨0, by omega, rfl, hid fun j h => absurd h (by omega), rfl⟩
  case round =>
    obtain ⟨k, hk, rfl, HN, hw⟩ := hrel
    subst hw
    have HK := hid hk
    by_cases hlt : k < n
    · have HLT := hid hlt
      obtain ⟨b1, o, u, rfl, lb1, e1, ca⟩ := HS.out.at hlt
      obtain ⟨y, hy, rfl⟩ := Option.map_eq_some_iff.1 (show (l[k]?).map (fun b => Value.string b) = some u by rw [← List.getElem?_map]; exact e1)
      have HY := hid hy
      clear e1 hy hk lb1
      by_cases hq : b = y
      · subst hq
        have hqe : (b.data.toList == b.data.toList) = true := by simp
        have hqe2 : (b.toList == b.toList) = true := by simp
        go_wp2
        go_ret
        exact ⟨⟨(k : Int), rfl, ⟨fun _ => List.mem_of_getElem? HY.out, fun _ => by omega⟩⟩, rfl⟩
      · have hq2 : ¬ y = b := fun e => hq e.symm
        have HQ := hid hq
        have hqe2 : (b.toList == y.toList) = false := by rw [beq_eq_false_iff_ne]; exact fun e => hq (toList_inj e)
        go_wp2
        go_roundg (gk - 1)
        case measure => have := HK.out; have := HLT.out; omega
        case rel =>
          refine ⟨k + 1, by have := HK.out; have := HLT.out; omega, by go_num, hid fun j hj => ?_, rfl⟩
          by_cases e : j = k
          · subst e
            rw [HY.out]
            exact fun e => HQ.out (Option.some.inj e).symm
          · exact HN.out j (by omega)
    · obtain rfl : k = n := by have := HK.out; omega
      clear hk
      go_wp2
      go_ret
      exact ⟨⟨-1, rfl, ⟨fun h => absurd h (by decide), fun hm => by
        obtain ⟨i, hi⟩ := List.getElem?_of_mem hm
        have := (List.getElem?_eq_some_iff.1 hi).1
        exact absurd hi (HN.out i (by have := HL.out; omega))⟩⟩, rfl⟩
set_option maxRecDepth 100000 in
theorem strHas (A : Option Addr) (n c : Nat) (l : List ByteArray) (b : ByteArray) (q : Bool) (w : World) (hs : Sl w A n c (strV l)) (hq : q = true ↔ b ∈ l) :
    Calls Tryz.prog 81 #[.slice A n c, .string b] w fun e w' => e = .returned (.bool q) ∧ w = w' := by
  have HI := hid (strIdx A n c l b w hs)
  have HQ := hid hq
  clear hs hq
  go_enter Tryz.func81, Tryz.ntmps81
  go_wp2_with fail
  refine (HI.out).mono ?_; rintro e w1 ⟨⟨r, rfl, hr⟩, rfl⟩
  have hd : decide (0 ≤ r) = q := by rw [Bool.eq_iff_iff, decide_eq_true_iff, HQ.out]; exact hr
  clear hr
  go_wp2
  go_ret
  exact ⟨rfl, rfl⟩
end Go.Proofs.YtkjinamjdjijcaaGreatDoor
