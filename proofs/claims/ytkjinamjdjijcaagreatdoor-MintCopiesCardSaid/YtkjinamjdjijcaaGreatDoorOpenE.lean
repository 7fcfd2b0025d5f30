/- Walks of Open where it refuses: a copy that nobody made, another number of copies, a copy twice. -/
import Derived.Test.YtkjinamjdjijcaaGreatDoorOpenN
namespace Go.Proofs.YtkjinamjdjijcaaGreatDoor
open Go.RowKit Go.Maps

set_option maxRecDepth 100000 in
set_option maxHeartbeats 1000000 in
theorem openNil (A : Option Addr) (n c : Nat) (vs : List Value) (f : Nat → Bool) (w : World) (hs : Sl w A n c vs) (hf : NoneS w vs f) (hx : ∃ i, i < n ∧ f i = true) :
    Calls Tryz.prog 15 #[.slice A n c] w fun x w' => x = .returned (.tuple #[.pointer none, .int .i64 1]) ∧ w = w' := by
  have HNA := hid (noneAny A n c vs f true w hs hf (by simp [hx]))
  clear hs hf hx
  go_enter Tryz.func15, Tryz.ntmps15
  go_wp2_with fail
  refine (HNA.out).mono ?_; rintro x w' ⟨rfl, rfl⟩
  go_wp2
  go_ret2
  exact ⟨rfl, rfl⟩
set_option maxRecDepth 100000 in
set_option maxHeartbeats 1000000 in
theorem openLen (A : Option Addr) (n c : Nat) (vs : List Value) (w : World) (hs : Sl w A n c vs) (hf : NoneS w vs fun _ => false) (hn : n ≠ 3 ∧ n ≠ 5) :
    Calls Tryz.prog 15 #[.slice A n c] w fun x w' => x = .returned (.tuple #[.pointer none, .int .i64 2]) ∧ w = w' := by
  have HNA := hid (noneAny A n c vs (fun _ => false) false w hs hf (by simp))
  have hm : n ≤ 9223372036854775807 := by have := hs.cap; have := hs.capm; unfold maxLen at this; omega
  have q1 : ((n : Int) != 3) = true := by rw [bne_iff_ne]; omega
  have q2 : (n != 3) = true := by rw [bne_iff_ne]; omega
  have q3 : ((n : Int) != 5) = true := by rw [bne_iff_ne]; omega
  have q4 : (n != 5) = true := by rw [bne_iff_ne]; omega
  clear hs hf hn
  go_enter Tryz.func15, Tryz.ntmps15
  go_wp2_with fail
  refine (HNA.out).mono ?_; rintro x w' ⟨rfl, rfl⟩
  go_wp2
  go_ret2
  exact ⟨rfl, rfl⟩
set_option maxRecDepth 100000 in
set_option maxHeartbeats 2000000 in
theorem openDup (A : Option Addr) (n c : Nat) (l : List Nat) (w : World) (h35 : n = 3 ∨ n = 5) (hs : Sl w A n c (ptrs l)) (hf : NoneS w (ptrs l) fun _ => false) (hl : ∀ y ∈ l, IsBlk w y) (hdup : ∃ i b, l[i]? = some b ∧ b ∈ l.take i) :
    Calls Tryz.prog 15 #[.slice A n c] w fun x w' => x = .returned (.tuple #[.pointer none, .int .i64 2]) ∧ w = w' := by
  have HNA := hid (noneAny A n c _ (fun _ => false) false w hs hf (by simp))
  have HLEN := hid (show l.length = n by have := hs.len; simpa [ptrs] using this)
  have HPH := hid fun (i b : Nat) (hi : i ≤ n) (hb : l[i]? = some b) => ptrHas A i c (l.take i) b w (by rw [ptrs_take]; exact hs.take i hi) (hl b (List.mem_of_getElem? hb)) (fun y hy => hl y (List.mem_of_mem_take hy))
  have HS := hid hs
  have HDU := hid hdup
  have h3n : 3 ≤ n ∧ n ≤ 5 := by omega
  clear hs hf hl hdup
  go_enter Tryz.func15, Tryz.ntmps15
  go_wp2_with fail
  refine (HNA.out).mono ?_; rintro x w' ⟨rfl, rfl⟩
  rcases h35 with h | h
  · have q1 : ((n : Int) != 3) = false := by rw [bne_eq_false_iff_eq]; omega
    have q2 : (n != 3) = false := by rw [bne_eq_false_iff_eq]; omega
    clear h
    go_wp2
    go_loopg [28] n (fun gk i wr => ∃ d : Nat, gk + d = n ∧ i = .int .i64 d ∧ Hid (∀ j, j < d → ∀ b, l[j]? = some b → b ∉ l.take j) ∧ w = wr)
    case atStart => exact ⟨0, by omega, rfl, hid fun j hj => absurd hj (by omega), rfl⟩
    case round =>
      obtain ⟨d, hd, rfl, HN, hw⟩ := hrel
      subst hw
      have HD := hid hd
      by_cases hlt : d < n
      · have HLT := hid hlt
        obtain ⟨b, o, u, rfl, lb, e1, ca⟩ := HS.out.at hlt
        obtain ⟨y, hy, rfl⟩ := Option.map_eq_some_iff.1 (show (l[d]?).map (fun b => Value.pointer (some ⟨b, 0, none⟩)) = some u by rw [← List.getElem?_map]; exact e1)
        have HH := hid (HPH.out d y (by omega) hy)
        have hcap := HS.out.cap
        have HY := hid hy
        clear hd e1 hy lb
        by_cases hin : y ∈ l.take d
        · rw [decide_eq_true hin] at HH
          clear hin
          go_wp2_with fail
          refine (HH.out).mono ?_; rintro x w' ⟨rfl, rfl⟩
          go_wp2
          go_ret2
          exact ⟨rfl, rfl⟩
        · rw [decide_eq_false hin] at HH
          have HNI := hid hin
          clear hin
          go_wp2_with fail
          refine (HH.out).mono ?_; rintro x w' ⟨rfl, rfl⟩
          go_wp2
          go_roundg (gk - 1)
          case measure => have := HD.out; have := HLT.out; omega
          case rel =>
            refine ⟨d + 1, by have := HD.out; have := HLT.out; omega, by go_num, hid fun j hj b hb => ?_, rfl⟩
            by_cases e : j = d
            · subst e
              rw [HY.out] at hb
              cases hb
              exact HNI.out
            · exact HN.out j (by omega) b hb
      · exfalso
        obtain ⟨i, b, hb, hin⟩ := HDU.out
        have hi := (List.getElem?_eq_some_iff.1 hb).1
        exact HN.out i (by have := HLEN.out; omega) b hb hin
  · have q1 : ((n : Int) != 3) = true := by rw [bne_iff_ne]; omega
    have q2 : (n != 3) = true := by rw [bne_iff_ne]; omega
    have q3 : ((n : Int) != 5) = false := by rw [bne_eq_false_iff_eq]; omega
    have q4 : (n != 5) = false := by rw [bne_eq_false_iff_eq]; omega
    clear h
    go_wp2
    go_loopg [28] n (fun gk i wr => ∃ d : Nat, gk + d = n ∧ i = .int .i64 d ∧ Hid (∀ j, j < d → ∀ b, l[j]? = some b → b ∉ l.take j) ∧ w = wr)
    case atStart => exact ⟨0, by omega, rfl, hid fun j hj => absurd hj (by omega), rfl⟩
    case round =>
      obtain ⟨d, hd, rfl, HN, hw⟩ := hrel
      subst hw
      have HD := hid hd
      by_cases hlt : d < n
      · have HLT := hid hlt
        obtain ⟨b, o, u, rfl, lb, e1, ca⟩ := HS.out.at hlt
        obtain ⟨y, hy, rfl⟩ := Option.map_eq_some_iff.1 (show (l[d]?).map (fun b => Value.pointer (some ⟨b, 0, none⟩)) = some u by rw [← List.getElem?_map]; exact e1)
        have HH := hid (HPH.out d y (by omega) hy)
        have hcap := HS.out.cap
        have HY := hid hy
        clear hd e1 hy lb
        by_cases hin : y ∈ l.take d
        · rw [decide_eq_true hin] at HH
          clear hin
          go_wp2_with fail
          refine (HH.out).mono ?_; rintro x w' ⟨rfl, rfl⟩
          go_wp2
          go_ret2
          exact ⟨rfl, rfl⟩
        · rw [decide_eq_false hin] at HH
          have HNI := hid hin
          clear hin
          go_wp2_with fail
          refine (HH.out).mono ?_; rintro x w' ⟨rfl, rfl⟩
          go_wp2
          go_roundg (gk - 1)
          case measure => have := HD.out; have := HLT.out; omega
          case rel =>
            refine ⟨d + 1, by have := HD.out; have := HLT.out; omega, by go_num, hid fun j hj b hb => ?_, rfl⟩
            by_cases e : j = d
            · subst e
              rw [HY.out] at hb
              cases hb
              exact HNI.out
            · exact HN.out j (by omega) b hb
      · exfalso
        obtain ⟨i, b, hb, hin⟩ := HDU.out
        have hi := (List.getElem?_eq_some_iff.1 hb).1
        exact HN.out i (by have := HLEN.out; omega) b hb hin
end Go.Proofs.YtkjinamjdjijcaaGreatDoor
