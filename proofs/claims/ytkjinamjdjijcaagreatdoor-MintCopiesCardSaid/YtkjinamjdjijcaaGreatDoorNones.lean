/- Walks of slices.ContainsFunc with the copies' none, and of slices.Contains on copies. Condition: the slice reads as pointers. -/
import Derived.Test.YtkjinamjdjijcaaGreatDoorCopies
import Derived.LaidEqlPtr
namespace Go.Proofs.YtkjinamjdjijcaaGreatDoor
open Go.RowKit Go.Maps

/-- What none says of each of some values. -/
def NoneS (w : World) (vs : List Value) (f : Nat → Bool) : Prop := ∀ (i : Nat) v, vs[i]? = some v → Calls Tryz.prog 26 #[v] w fun e w' => e = .returned (.bool (f i)) ∧ w = w'
set_option maxRecDepth 100000 in
set_option maxHeartbeats 1000000 in
theorem noneIdx (A : Option Addr) (n c : Nat) (vs : List Value) (f : Nat → Bool) (lb : Array Value) (w : World) (hlb : lb = #[]) (hs : Sl w A n c vs) (hf : NoneS w vs f) :
    Calls Tryz.prog 41 #[.slice A n c, .func (.func 26) #[] lb] w fun e w' => (∃ r : Int, e = .returned (.int .i64 r) ∧ (0 ≤ r ↔ ∃ i, i < n ∧ f i = true)) ∧ w = w' := by
  subst hlb
  have hm : n ≤ 9223372036854775807 := by have := hs.cap; have := hs.capm; unfold maxLen at this; omega
  have he : ∀ args W, (callFunc 26 args).run Tryz.prog W = .ok (.enter 26 args) W := fun args W => enters Tryz.func26 (by kernel_rfl) rfl args W
  have HF := hid hf
  have HS := hid hs
  clear hs hf
  go_enter Tryz.func41, Tryz.ntmps41
  go_wp2
  go_loopg [8] n (fun gk i wr => ∃ k : Nat, gk + k = n ∧ i = .int .i64 k ∧ Hid (∀ j, j < k → f j = false) ∧ w = wr)
  case atStart => exact ⟨0, by omega, rfl, hid fun j h => absurd h (by omega), rfl⟩
  case round =>
    obtain ⟨k, hk, rfl, HN, hw⟩ := hrel
    subst hw
    have HK := hid hk
    by_cases hlt : k < n
    · have HLT := hid hlt
      obtain ⟨b, o, u, rfl, lb1, e1, ca⟩ := HS.out.at hlt
      have hc := HF.out k u e1
      have HC := hid hc
      clear e1 hc hk lb1
      cases hfx : f k
      · rw [hfx] at HC
        have HX := hid hfx
        clear hfx
        go_wp2_with (refine (HC.out).mono ?_; rintro e w1 ⟨rfl, rfl⟩)
        go_roundg (gk - 1)
        case measure => have := HK.out; have := HLT.out; omega
        case rel =>
          refine ⟨k + 1, by have := HK.out; have := HLT.out; omega, by go_num, hid fun j hj => ?_, rfl⟩
          by_cases e : j = k
          · subst e; exact HX.out
          · exact HN.out j (by omega)
      · rw [hfx] at HC
        have HX := hid hfx
        clear hfx
        go_wp2_with (refine (HC.out).mono ?_; rintro e w1 ⟨rfl, rfl⟩)
        go_ret
        exact ⟨⟨(k : Int), rfl, ⟨fun _ => ⟨k, HLT.out, HX.out⟩, fun _ => by omega⟩⟩, rfl⟩
    · obtain rfl : k = n := by have := HK.out; omega
      clear hk
      go_wp2
      go_ret
      exact ⟨⟨-1, rfl, ⟨fun h => absurd h (by decide), fun ⟨i, hi, hfi⟩ => by rw [HN.out i hi] at hfi; cases hfi⟩⟩, rfl⟩
set_option maxRecDepth 100000 in
theorem noneAny (A : Option Addr) (n c : Nat) (vs : List Value) (f : Nat → Bool) (b : Bool) (w : World) (hs : Sl w A n c vs) (hf : NoneS w vs f) (hb : b = true ↔ ∃ i, i < n ∧ f i = true) :
    Calls Tryz.prog 28 #[.slice A n c, .func (.func 26) #[] #[]] w fun e w' => e = .returned (.bool b) ∧ w = w' := by
  have HI := hid (noneIdx A n c vs f #[] w rfl hs hf)
  have HB := hid hb
  clear hs hf hb
  go_enter Tryz.func28, Tryz.ntmps28
  go_wp2_with fail
  refine (HI.out).mono ?_; rintro e w1 ⟨⟨r, rfl, hr⟩, rfl⟩
  have hd : decide (0 ≤ r) = b := by rw [Bool.eq_iff_iff, decide_eq_true_iff, HB.out]; exact hr
  clear hr
  go_wp2
  go_ret
  exact ⟨rfl, rfl⟩
/-- A block of cells lies there. -/
def IsBlk (w : World) (b : Nat) : Prop := ∃ t cs, Blk w b t cs
theorem ptrEq {w : World} {b y : Nat} (hb : IsBlk w b) (hy : IsBlk w y) : (binOp .eql 33 (.pointer (some ⟨b, 0, none⟩)) (.pointer (some ⟨y, 0, none⟩))).run Tryz.prog w = .ok (.bool (decide (b = y))) w := by
  obtain ⟨j, hj, hs⟩ : ∃ j, Tryz.prog.info? 36 = some j ∧ j.size = 3 := by
    have h : (Tryz.prog.info? 36).map (·.size) = some 3 := by kernel_rfl
    obtain ⟨j, h1, h2⟩ := Option.map_eq_some_iff.1 h
    exact ⟨j, h1, h2⟩
  by_cases e : b = y
  · subst e
    rw [decide_eq_true rfl]
    exact run_eql_ptr_same w _ Tryz.underlying33 hj
  · rw [decide_eq_false e]
    obtain ⟨t1, c1, h1⟩ := hb
    obtain ⟨t2, c2, h2⟩ := hy
    exact run_eql_ptr_other w Tryz.underlying33 hj (by omega) (fun k => e (by injection k)) h1 h2
set_option maxRecDepth 100000 in
set_option maxHeartbeats 1000000 in
theorem ptrIdx (A : Option Addr) (n c : Nat) (l : List Nat) (b : Nat) (w : World) (hs : Sl w A n c (ptrs l)) (hb : IsBlk w b) (hl : ∀ y ∈ l, IsBlk w y) :
    Calls Tryz.prog 42 #[.slice A n c, .pointer (some ⟨b, 0, none⟩)] w fun e w' => (∃ r : Int, e = .returned (.int .i64 r) ∧ (0 ≤ r ↔ b ∈ l)) ∧ w = w' := by
  have hm : n ≤ 9223372036854775807 := by have := hs.cap; have := hs.capm; unfold maxLen at this; omega
  have HS := hid hs
  have HL := hid (show l.length = n by have := hs.len; simpa [ptrs] using this)
  have HE := hid fun y hy => ptrEq hb (hl y hy)
  clear hs hb hl
  go_enter Tryz.func42, Tryz.ntmps42
  go_wp2
  go_loopg [8] n (fun gk i wr => ∃ k : Nat, gk + k = n ∧ i = .int .i64 k ∧ Hid (∀ j, j < k → l[j]? ≠ some b) ∧ w = wr)
  case atStart => exact ⟨0, by omega, rfl, hid fun j h => absurd h (by omega), rfl⟩
  case round =>
    obtain ⟨k, hk, rfl, HN, hw⟩ := hrel
    subst hw
    have HK := hid hk
    by_cases hlt : k < n
    · have HLT := hid hlt
      obtain ⟨b1, o, u, rfl, lb1, e1, ca⟩ := HS.out.at hlt
      obtain ⟨y, hy, rfl⟩ := Option.map_eq_some_iff.1 (show (l[k]?).map (fun b => Value.pointer (some ⟨b, 0, none⟩)) = some u by rw [← List.getElem?_map]; exact e1)
      have HY := hid hy
      have hqe := HE.out y (List.mem_of_getElem? hy)
      clear e1 hy hk lb1
      by_cases hq : b = y
      · subst hq
        rw [decide_eq_true rfl] at hqe
        go_wp2
        go_ret
        exact ⟨⟨(k : Int), rfl, ⟨fun _ => List.mem_of_getElem? HY.out, fun _ => by omega⟩⟩, rfl⟩
      · have hq2 : ¬ y = b := fun e => hq e.symm
        have HQ := hid hq
        rw [decide_eq_false hq] at hqe
        go_wp2
        go_roundg (gk - 1)
        case measure => have := HK.out; have := HLT.out; omega
        case rel =>
          refine ⟨k + 1, by have := HK.out; have := HLT.out; omega, by go_num, hid fun j hj => ?_, rfl⟩
          by_cases e : j = k
          · subst e
            rw [HY.out]
            exact fun e => HQ.out (Option.some.inj e).symm
          · exact HN.out j (by omega)
    · obtain rfl : k = n := by have := HK.out; omega
      clear hk
      go_wp2
      go_ret
      exact ⟨⟨-1, rfl, ⟨fun h => absurd h (by decide), fun hm => by
        obtain ⟨i, hi⟩ := List.getElem?_of_mem hm
        have := (List.getElem?_eq_some_iff.1 hi).1
        exact absurd hi (HN.out i (by have := HL.out; omega))⟩⟩, rfl⟩
set_option maxRecDepth 100000 in
theorem ptrHas (A : Option Addr) (n c : Nat) (l : List Nat) (b : Nat) (w : World) (hs : Sl w A n c (ptrs l)) (hb : IsBlk w b) (hl : ∀ y ∈ l, IsBlk w y) :
    Calls Tryz.prog 29 #[.slice A n c, .pointer (some ⟨b, 0, none⟩)] w fun e w' => e = .returned (.bool (decide (b ∈ l))) ∧ w = w' := by
  have HI := hid (ptrIdx A n c l b w hs hb hl)
  clear hs hb hl
  go_enter Tryz.func29, Tryz.ntmps29
  go_wp2_with fail
  refine (HI.out).mono ?_; rintro e w1 ⟨⟨r, rfl, hr⟩, rfl⟩
  have hd : decide (0 ≤ r) = decide (b ∈ l) := by rw [Bool.eq_iff_iff, decide_eq_true_iff, decide_eq_true_iff]; exact hr
  clear hr
  go_wp2
  go_ret
  exact ⟨rfl, rfl⟩
end Go.Proofs.YtkjinamjdjijcaaGreatDoor
