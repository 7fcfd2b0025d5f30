/- Walks of guess.Lie, After, Weight and of the reference's Lie. Conditions: slices read as lists of numbers. -/
import Derived.Test.YtdclmhmdkhpekaaAfter
import Derived.Test.YtdclmhmdkhpekaaWeights
import Derived.Test.YtdclmhmdkhpekaaClone
namespace Go.Proofs.Ytdclmhmdkhpekaa
open Go.RowKit

theorem after_length (yes : Bool) (xs q : List Int) : (after yes xs q).length = xs.length := by simp [after]
theorem after_bd {yes : Bool} {xs q : List Int} {m : Int} (_hm : 0 ≤ m) (hx : ∀ x ∈ xs, 0 ≤ x ∧ x ≤ m) (hq : askOk xs q = true) : ∀ y ∈ after yes xs q, 0 ≤ y ∧ y ≤ 2 * m := by
  intro y hy
  unfold after at hy
  obtain ⟨j, hj, rfl⟩ := List.mem_map.1 hy
  simp only [List.mem_range] at hj
  have h1 := inA_bd (yes := yes) hx hq hj
  unfold aft
  by_cases e : j = 0
  · rw [if_pos e]; omega
  · rw [if_neg e]
    have h2 := inA_bd (yes := !yes) hx hq (show j - 1 < xs.length by omega)
    omega

/-- Whether the weight after yes, with one question less, is at least that after no. -/
def lieYes (xs q : List Int) (k : Int) : Bool := decide (weight (after false xs q) (k - 1) ≤ weight (after true xs q) (k - 1))

set_option maxRecDepth 100000 in
set_option maxHeartbeats 1000000 in
theorem progLie_ok (A B : Option Addr) (n c n' d : Nat) (xs q : List Int) (k : Int) (w : World) (hs : Sl w A n c (xs.map (Value.int .i64))) (hq : Sl w B n' d (q.map (Value.int .i64))) (h1 : stateOk 200 xs = true) (h2 : askOk xs q = true) (h3 : 1 ≤ k) (h4 : k ≤ 30) :
    Calls Try.prog 27 #[.slice A n c, .slice B n' d, .int .i64 k] w fun e w' => e = .returned (.tuple #[.bool (lieYes xs q k), .int .i64 0]) ∧ Below w.heap.size w w' := by
  have hln := hs.numlen
  obtain rfl : n' = n := by have := hq.numlen; have := (askOk_iff.1 h2).1; omega
  have hi := stateOk_iff.1 h1
  have hx := hi.2.2.1
  have hx2 := fun y => after_bd (yes := y) (show (0 : Int) ≤ 200 by omega) hx h2
  have hV := hid (progValid A n' c xs 200 (by omega) w hs)
  have hA := hid (progAsks A B n' c n' d xs q w hs hq)
  rw [h1] at hV
  rw [h2] at hA
  have F1 := fun (y : Bool) (W : World) (hW : Below w.heap.size w W) => hid (progAfter A B n' c d xs q y 200 (by omega) (by omega) (by omega) (by omega) hx h2 W (hs.below hW) (hq.below hW))
  have F2 := fun (y : Bool) (A' : Option Addr) (c' : Nat) (W : World) (h : Sl W A' n' c' ((after y xs q).map (Value.int .i64))) => hid (progWeight A' n' c' (after y xs q) (k - 1) (by omega) (by omega) (by omega) (fun x hx => by have := hx2 y x hx; omega) W h)
  have HF1 := hid F1; have HF2 := hid F2
  clear F1 F2 hx hx2 hi h1 h2 hln
  unfold lieYes
  go_enter Try.func27, Try.ntmps27
  go_wp2_with (first | (go_at_call 61; refine (hV.out).mono ?_; rintro e w' ⟨rfl, rfl⟩) | (go_at_call 62; refine (hA.out).mono ?_; rintro e w' ⟨rfl, rfl⟩))
  refine ((HF1.out true _ (Below.refl _ _)).out).mono ?_
  rintro e w1 ⟨A1, c1, rfl, ho1, hb1⟩
  have hz1 := hb1.size
  have s1 := Sl.of_own ho1
  clear ho1
  go_wp2_with fail
  refine ((HF2.out true _ _ _ s1).out).mono ?_
  rintro e w1' ⟨rfl, rfl⟩
  clear s1
  go_wp2_with fail
  refine ((HF1.out false _ hb1).out).mono ?_
  rintro e w2 ⟨A2, c2, rfl, ho2, hb2⟩
  have s2 := Sl.of_own ho2
  clear ho2
  go_wp2_with fail
  refine ((HF2.out false _ _ _ s2).out).mono ?_
  rintro e w2' ⟨rfl, rfl⟩
  clear s2
  go_wp2_with fail
  go_ret2
  exact ⟨rfl, below_call hb1 hb2 hz1⟩

set_option maxRecDepth 100000 in
set_option maxHeartbeats 1000000 in
theorem progLie_bad (A B : Option Addr) (n c n' d : Nat) (xs q : List Int) (k : Int) (w : World) (hs : Sl w A n c (xs.map (Value.int .i64))) (hq : Sl w B n' d (q.map (Value.int .i64))) (h : ¬ (stateOk 200 xs = true ∧ askOk xs q = true ∧ 1 ≤ k ∧ k ≤ 30)) :
    Calls Try.prog 27 #[.slice A n c, .slice B n' d, .int .i64 k] w fun e w' => e = .returned (.tuple #[.bool false, .int .i64 2]) ∧ w = w' := by
  have hV := hid (progValid A n c xs 200 (by omega) w hs)
  have hA := hid (progAsks A B n c n' d xs q w hs hq)
  clear hs hq
  cases h1 : stateOk 200 xs
  · rw [h1] at hV
    clear h h1
    go_enter Try.func27, Try.ntmps27
    go_wp2_with (first | (go_at_call 61; refine (hV.out).mono ?_; rintro e w' ⟨rfl, rfl⟩) | (go_at_call 62; refine (hA.out).mono ?_; rintro e w' ⟨rfl, rfl⟩))
    go_ret2
    exact ⟨rfl, rfl⟩
  cases h2 : askOk xs q
  · rw [h1] at hV
    rw [h2] at hA
    clear h h1 h2
    go_enter Try.func27, Try.ntmps27
    go_wp2_with (first | (go_at_call 61; refine (hV.out).mono ?_; rintro e w' ⟨rfl, rfl⟩) | (go_at_call 62; refine (hA.out).mono ?_; rintro e w' ⟨rfl, rfl⟩))
    go_ret2
    exact ⟨rfl, rfl⟩
  have h3 : k < 1 ∨ (¬ k < 1 ∧ 30 < k) := by
    by_cases e : k < 1
    · exact .inl e
    · exact .inr ⟨e, by by_cases e2 : 30 < k; exact e2; exact absurd ⟨h1, h2, by omega, by omega⟩ h⟩
  rw [h1] at hV
  rw [h2] at hA
  clear h h1 h2
  rcases h3 with h3 | ⟨h3, h4⟩
  · go_enter Try.func27, Try.ntmps27
    go_wp2_with (first | (go_at_call 61; refine (hV.out).mono ?_; rintro e w' ⟨rfl, rfl⟩) | (go_at_call 62; refine (hA.out).mono ?_; rintro e w' ⟨rfl, rfl⟩))
    go_ret2
    exact ⟨rfl, rfl⟩
  · have h3' : decide (k < 1) = false := by simpa using h3
    go_enter Try.func27, Try.ntmps27
    go_wp2_with (first | (go_at_call 61; refine (hV.out).mono ?_; rintro e w' ⟨rfl, rfl⟩) | (go_at_call 62; refine (hA.out).mono ?_; rintro e w' ⟨rfl, rfl⟩))
    go_ret2
    exact ⟨rfl, rfl⟩

set_option maxRecDepth 100000 in
set_option maxHeartbeats 1000000 in
theorem refLie (A B : Option Addr) (n c n' d : Nat) (xs q : List Int) (k : Int) (w : World) (hs : Sl w A n c (xs.map (Value.int .i64))) (hq : Sl w B n' d (q.map (Value.int .i64))) (h1 : stateOk 200 xs = true) (h2 : askOk xs q = true) (h3 : 1 ≤ k) (h4 : k ≤ 30) :
    Calls Try.prog 31 #[.slice A n c, .slice B n' d, .int .i64 k] w fun e w' => e = .returned (.bool (lieYes xs q k)) ∧ Below w.heap.size w w' := by
  have hln := hs.numlen
  obtain rfl : n' = n := by have := hq.numlen; have := (askOk_iff.1 h2).1; omega
  have hi := stateOk_iff.1 h1
  have hx := hi.2.2.1
  have hx2 := fun y => after_bd (yes := y) (show (0 : Int) ≤ 200 by omega) hx h2
  have F1 := fun (y : Bool) (W : World) (hW : Below w.heap.size w W) => hid (refAfter A B n' c d xs q y 200 (by omega) (by omega) (by omega) (by omega) hx h2 W (hs.below hW) (hq.below hW))
  have F2 := fun (y : Bool) (A' : Option Addr) (c' : Nat) (W : World) (h : Sl W A' n' c' ((after y xs q).map (Value.int .i64))) => hid (refWeight A' n' c' (after y xs q) (k - 1) (by omega) (by omega) (by omega) (fun x hx => by have := hx2 y x hx; omega) W h)
  have HF1 := hid F1; have HF2 := hid F2
  clear F1 F2 hx hx2 hi h1 h2 hln
  unfold lieYes
  go_enter Try.func31, Try.ntmps31
  go_wp2_with fail
  refine ((HF1.out true _ (Below.refl _ _)).out).mono ?_
  rintro e w1 ⟨A1, c1, rfl, ho1, hb1⟩
  have hz1 := hb1.size
  have s1 := Sl.of_own ho1
  clear ho1
  go_wp2_with fail
  refine ((HF2.out true _ _ _ s1).out).mono ?_
  rintro e w1' ⟨rfl, rfl⟩
  clear s1
  go_wp2_with fail
  refine ((HF1.out false _ hb1).out).mono ?_
  rintro e w2 ⟨A2, c2, rfl, ho2, hb2⟩
  have s2 := Sl.of_own ho2
  clear ho2
  go_wp2_with fail
  refine ((HF2.out false _ _ _ s2).out).mono ?_
  rintro e w2' ⟨rfl, rfl⟩
  clear s2
  go_wp2_with fail
  go_ret
  exact ⟨rfl, below_call hb1 hb2 hz1⟩

set_option maxRecDepth 100000 in
set_option maxHeartbeats 1000000 in
theorem progAfterPub_ok (A B : Option Addr) (n c n' d : Nat) (xs q : List Int) (yes : Bool) (w : World) (hs : Sl w A n c (xs.map (Value.int .i64))) (hq : Sl w B n' d (q.map (Value.int .i64))) (h1 : stateOk 200 xs = true) (h2 : askOk xs q = true) :
    Calls Try.prog 32 #[.slice A n c, .slice B n' d, .bool yes] w fun e w' => ∃ A' c', e = .returned (.tuple #[.slice A' n c', .int .i64 0]) ∧ w'.ownsRow w.heap.size 3 1 (.slice A' n c') n ((after yes xs q).map (Value.int .i64)) ∧ Below w.heap.size w w' := by
  have hln := hs.numlen
  obtain rfl : n' = n := by have := hq.numlen; have := (askOk_iff.1 h2).1; omega
  have hi := stateOk_iff.1 h1
  have hx := hi.2.2.1
  have hV := hid (progValid A n' c xs 200 (by omega) w hs)
  have hA := hid (progAsks A B n' c n' d xs q w hs hq)
  have F1 := hid (progAfter A B n' c d xs q yes 200 (by omega) (by omega) (by omega) (by omega) hx h2 w hs hq)
  rw [h1] at hV
  rw [h2] at hA
  clear hx hi h1 h2 hln
  go_enter Try.func32, Try.ntmps32
  go_wp2_with (first | (go_at_call 61; refine (hV.out).mono ?_; rintro e w' ⟨rfl, rfl⟩) | (go_at_call 62; refine (hA.out).mono ?_; rintro e w' ⟨rfl, rfl⟩) | (go_at_call 63; refine (F1.out).mono ?_; rintro e w1 ⟨A1, c1, rfl, ho1, hb1⟩))
  go_ret2
  exact ⟨A1, c1, rfl, ho1, hb1⟩

set_option maxRecDepth 100000 in
set_option maxHeartbeats 1000000 in
theorem progAfterPub_bad (A B : Option Addr) (n c n' d : Nat) (xs q : List Int) (yes : Bool) (w : World) (hs : Sl w A n c (xs.map (Value.int .i64))) (hq : Sl w B n' d (q.map (Value.int .i64))) (h : ¬ (stateOk 200 xs = true ∧ askOk xs q = true)) :
    Calls Try.prog 32 #[.slice A n c, .slice B n' d, .bool yes] w fun e w' => e = .returned (.tuple #[.slice none 0 0, .int .i64 2]) ∧ w = w' := by
  have hV := hid (progValid A n c xs 200 (by omega) w hs)
  have hA := hid (progAsks A B n c n' d xs q w hs hq)
  clear hs hq
  cases h1 : stateOk 200 xs
  · rw [h1] at hV
    clear h h1
    go_enter Try.func32, Try.ntmps32
    go_wp2_with (first | (go_at_call 61; refine (hV.out).mono ?_; rintro e w' ⟨rfl, rfl⟩) | (go_at_call 62; refine (hA.out).mono ?_; rintro e w' ⟨rfl, rfl⟩))
    go_ret2
    exact ⟨rfl, rfl⟩
  have h2 : askOk xs q = false := by
    cases h2 : askOk xs q
    · rfl
    · exact absurd ⟨h1, h2⟩ h
  rw [h1] at hV
  rw [h2] at hA
  clear h h1 h2
  go_enter Try.func32, Try.ntmps32
  go_wp2_with (first | (go_at_call 61; refine (hV.out).mono ?_; rintro e w' ⟨rfl, rfl⟩) | (go_at_call 62; refine (hA.out).mono ?_; rintro e w' ⟨rfl, rfl⟩))
  go_ret2
  exact ⟨rfl, rfl⟩

set_option maxRecDepth 100000 in
set_option maxHeartbeats 1000000 in
theorem progWeightPub_ok (A : Option Addr) (n c : Nat) (xs : List Int) (k : Int) (w : World) (hs : Sl w A n c (xs.map (Value.int .i64))) (h1 : stateOk 200 xs = true) (h3 : 0 ≤ k) (h4 : k ≤ 30) :
    Calls Try.prog 34 #[.slice A n c, .int .i64 k] w fun e w' => e = .returned (.tuple #[.int .i64 (weight xs k), .int .i64 0]) ∧ w = w' := by
  have hln := hs.numlen
  have hi := stateOk_iff.1 h1
  have hV := hid (progValid A n c xs 200 (by omega) w hs)
  have F := hid (progWeight A n c xs k h3 (by omega) (by omega) (fun x hx => by have := hi.2.2.1 x hx; omega) w hs)
  rw [h1] at hV
  clear hi h1 hln
  go_enter Try.func34, Try.ntmps34
  go_wp2_with (first | (go_at_call 61; refine (hV.out).mono ?_; rintro e w' ⟨rfl, rfl⟩) | (go_at_call 64; refine (F.out).mono ?_; rintro e w' ⟨rfl, rfl⟩))
  go_ret2
  exact ⟨rfl, rfl⟩

set_option maxRecDepth 100000 in
set_option maxHeartbeats 1000000 in
theorem progWeightPub_bad (A : Option Addr) (n c : Nat) (xs : List Int) (k : Int) (w : World) (hs : Sl w A n c (xs.map (Value.int .i64))) (h : ¬ (stateOk 200 xs = true ∧ 0 ≤ k ∧ k ≤ 30)) :
    Calls Try.prog 34 #[.slice A n c, .int .i64 k] w fun e w' => e = .returned (.tuple #[.int .i64 0, .int .i64 2]) ∧ w = w' := by
  have hV := hid (progValid A n c xs 200 (by omega) w hs)
  clear hs
  cases h1 : stateOk 200 xs
  · rw [h1] at hV
    clear h h1
    go_enter Try.func34, Try.ntmps34
    go_wp2_with (go_at_call 61; refine (hV.out).mono ?_; rintro e w' ⟨rfl, rfl⟩)
    go_ret2
    exact ⟨rfl, rfl⟩
  have h3 : k < 0 ∨ (¬ k < 0 ∧ 30 < k) := by
    by_cases e : k < 0
    · exact .inl e
    · exact .inr ⟨e, by by_cases e2 : 30 < k; exact e2; exact absurd ⟨h1, by omega, by omega⟩ h⟩
  rw [h1] at hV
  clear h h1
  rcases h3 with h3 | ⟨h3, h4⟩
  · go_enter Try.func34, Try.ntmps34
    go_wp2_with (go_at_call 61; refine (hV.out).mono ?_; rintro e w' ⟨rfl, rfl⟩)
    go_ret2
    exact ⟨rfl, rfl⟩
  · have h3' : decide (k < 0) = false := by simpa using h3
    go_enter Try.func34, Try.ntmps34
    go_wp2_with (go_at_call 61; refine (hV.out).mono ?_; rintro e w' ⟨rfl, rfl⟩)
    go_ret2
    exact ⟨rfl, rfl⟩
end Go.Proofs.Ytdclmhmdkhpekaa
