/- Walks of the liar's small functions, of the program and of the reference: sums, states, questions. Conditions: a slice reads as a list of small numbers. -/
import Derived.Test.YtdclmhmdkhpekaaLib
import Derived.Test.YtdclmhmdkhpekaaLiar
namespace Go.Proofs.Ytdclmhmdkhpekaa
open Go.RowKit

theorem Sl.len_le {w : World} {A : Option Addr} {n c : Nat} {xs : List Value} (h : Sl w A n c xs) : n ≤ 9223372036854775807 := by have := h.cap; have := h.capm; unfold maxLen at this; omega
/-- The k-th number of a slice that reads as a list of numbers. -/
theorem Sl.num {w : World} {A : Option Addr} {n c : Nat} {xs : List Int} (h : Sl w A n c (xs.map (Value.int .i64))) {k : Nat} (hk : k < n) : ∃ b o, A = some ⟨b, o, none⟩ ∧ b < w.heap.size ∧ k < xs.length ∧ w.cell? ⟨b, o + k, none⟩ = some (.int .i64 (at0 xs k)) := by
  obtain ⟨b, o, u, e, hl, hx, hc⟩ := h.at hk
  rw [List.getElem?_map] at hx
  obtain ⟨x, hy, rfl⟩ := Option.map_eq_some_iff.1 hx
  exact ⟨b, o, e, hl, (List.getElem?_eq_some_iff.1 hy).1, by rw [at0_get hy]; exact hc⟩
theorem Sl.numlen {w : World} {A : Option Addr} {n c : Nat} {xs : List Int} (h : Sl w A n c (xs.map (Value.int .i64))) : xs.length = n := by simpa using h.len

set_option maxRecDepth 100000 in
set_option maxHeartbeats 400000 in
theorem progSum (A : Option Addr) (n c : Nat) (xs : List Int) (m : Int) (hm : m ≤ 1000000) (hn : n ≤ 1000) (hx : ∀ x ∈ xs, 0 ≤ x ∧ x ≤ m) (w : World) (hs : Sl w A n c (xs.map (Value.int .i64))) :
    Calls Try.prog 74 #[.slice A n c] w fun e w' => e = .returned (.int .i64 (total xs)) ∧ w = w' := by
  have hl := hs.numlen
  have HB := hid (psum_bd hx)
  have HT := hid (show total xs = psum xs n by unfold total; rw [hl])
  rw [HT.out]
  have HL := hid hl
  have HX := hid hx
  clear hl hx
  go_enter Try.func74, Try.ntmps74
  go_wp2
  go_loop [3, 8] (fun x i => ∃ k : Nat, k ≤ n ∧ i = .int .i64 k ∧ x = .int .i64 (psum xs k)) (fun _ i => n - (intOf i).toNat)
  case atStart => exact ⟨0, Nat.zero_le _, rfl, rfl⟩
  case round =>
    obtain ⟨k, hk, rfl, rfl⟩ := hrel
    by_cases hlt : k < n
    · obtain ⟨b, o, rfl, lb, hkl, hc⟩ := hs.num hlt
      have d := HB.out k (by omega)
      have d2 := HX.out _ (at0_mem hkl)
      have hmul : (k : Int) * m ≤ 1000000000 := by
        have h0 : 0 ≤ m := by omega
        have := Int.mul_le_mul (show (k : Int) ≤ 1000 by omega) hm h0 (by omega)
        omega
      have d3 : psum xs k ≤ 1000000000 := Int.le_trans d.2 hmul
      have d4 := d.1
      clear d hmul hkl
      go_wp2
      go_round
      case rel => exact ⟨k + 1, by omega, by go_num, rfl⟩
      case measure => simp [intOf]; omega
    · obtain rfl : k = n := by omega
      go_wp2
      go_ret
      exact ⟨rfl, rfl⟩

set_option maxRecDepth 100000 in
set_option maxHeartbeats 400000 in
theorem refTotal (A : Option Addr) (n c : Nat) (xs : List Int) (m : Int) (hm : m ≤ 1000000) (hn : n ≤ 1000) (hx : ∀ x ∈ xs, 0 ≤ x ∧ x ≤ m) (w : World) (hs : Sl w A n c (xs.map (Value.int .i64))) :
    Calls Try.prog 65 #[.slice A n c] w fun e w' => e = .returned (.int .i64 (total xs)) ∧ w = w' := by
  have hl := hs.numlen
  have HB := hid (psum_bd hx)
  have HT := hid (show total xs = psum xs n by unfold total; rw [hl])
  rw [HT.out]
  have HL := hid hl
  have HX := hid hx
  clear hl hx
  go_enter Try.func65, Try.ntmps65
  go_wp2
  go_loop [3, 8] (fun x i => ∃ k : Nat, k ≤ n ∧ i = .int .i64 k ∧ x = .int .i64 (psum xs k)) (fun _ i => n - (intOf i).toNat)
  case atStart => exact ⟨0, Nat.zero_le _, rfl, rfl⟩
  case round =>
    obtain ⟨k, hk, rfl, rfl⟩ := hrel
    by_cases hlt : k < n
    · obtain ⟨b, o, rfl, lb, hkl, hc⟩ := hs.num hlt
      have d := HB.out k (by omega)
      have d2 := HX.out _ (at0_mem hkl)
      have hmul : (k : Int) * m ≤ 1000000000 := by
        have h0 : 0 ≤ m := by omega
        have := Int.mul_le_mul (show (k : Int) ≤ 1000 by omega) hm h0 (by omega)
        omega
      have d3 : psum xs k ≤ 1000000000 := Int.le_trans d.2 hmul
      have d4 := d.1
      clear d hmul hkl
      go_wp2
      go_round
      case rel => exact ⟨k + 1, by omega, by go_num, rfl⟩
      case measure => simp [intOf]; omega
    · obtain rfl : k = n := by omega
      go_wp2
      go_ret
      exact ⟨rfl, rfl⟩

set_option maxRecDepth 100000 in
set_option maxHeartbeats 400000 in
theorem lawSum (A : Option Addr) (n c : Nat) (xs : List Int) (m : Int) (hm : m ≤ 1000000) (hn : n ≤ 1000) (hx : ∀ x ∈ xs, 0 ≤ x ∧ x ≤ m) (w : World) (hs : Sl w A n c (xs.map (Value.int .i64))) :
    Calls Try.prog 33 #[.slice A n c] w fun e w' => e = .returned (.int .i64 (total xs)) ∧ w = w' := by
  have hl := hs.numlen
  have HB := hid (psum_bd hx)
  have HT := hid (show total xs = psum xs n by unfold total; rw [hl])
  rw [HT.out]
  have HL := hid hl
  have HX := hid hx
  clear hl hx
  go_enter Try.func33, Try.ntmps33
  go_wp2
  go_loop [3, 8] (fun x i => ∃ k : Nat, k ≤ n ∧ i = .int .i64 k ∧ x = .int .i64 (psum xs k)) (fun _ i => n - (intOf i).toNat)
  case atStart => exact ⟨0, Nat.zero_le _, rfl, rfl⟩
  case round =>
    obtain ⟨k, hk, rfl, rfl⟩ := hrel
    by_cases hlt : k < n
    · obtain ⟨b, o, rfl, lb, hkl, hc⟩ := hs.num hlt
      have d := HB.out k (by omega)
      have d2 := HX.out _ (at0_mem hkl)
      have hmul : (k : Int) * m ≤ 1000000000 := by
        have h0 : 0 ≤ m := by omega
        have := Int.mul_le_mul (show (k : Int) ≤ 1000 by omega) hm h0 (by omega)
        omega
      have d3 : psum xs k ≤ 1000000000 := Int.le_trans d.2 hmul
      have d4 := d.1
      clear d hmul hkl
      go_wp2
      go_round
      case rel => exact ⟨k + 1, by omega, by go_num, rfl⟩
      case measure => simp [intOf]; omega
    · obtain rfl : k = n := by omega
      go_wp2
      go_ret
      exact ⟨rfl, rfl⟩

set_option maxRecDepth 100000 in
set_option maxHeartbeats 400000 in
theorem sliceMin (A : Option Addr) (n c : Nat) (xs : List Int) (h0 : 1 ≤ n) (w : World) (hs : Sl w A n c (xs.map (Value.int .i64))) :
    Calls Try.prog 89 #[.slice A n c] w fun e w' => (∃ v : Int, e = .returned (.int .i64 v) ∧ (decide (0 ≤ v) = xs.all fun x => decide (0 ≤ x))) ∧ w = w' := by
  have hm := hs.len_le
  have hl := hs.numlen
  have HL := hid hl
  clear hl
  obtain ⟨b0, o0, rfl, lb0, hk0, hc0⟩ := hs.num h0
  rw [Nat.add_zero] at hc0
  go_enter Try.func89, Try.ntmps89
  go_wp2
  go_loop [3, 4] (fun x i => ∃ (k : Nat) (v : Int), 1 ≤ k ∧ k ≤ n ∧ i = .int .i64 k ∧ x = .int .i64 v ∧ (0 ≤ v ↔ ∀ j, j < k → 0 ≤ at0 xs j)) (fun _ i => n - (intOf i).toNat)
  case atStart => exact ⟨1, _, Nat.le_refl _, h0, rfl, rfl, ⟨fun h j hj => (show j = 0 by omega) ▸ h, fun h => h 0 (by omega)⟩⟩
  case round =>
    obtain ⟨k, v, hk1, hk, rfl, rfl, hv⟩ := hrel
    have HV := hid hv
    clear hv
    by_cases hlt : k < n
    · obtain ⟨b, o, e, lb, hkl, hc⟩ := hs.num hlt
      cases e
      clear hkl
      go_wp2
      all_goals
        go_round
        case rel =>
          refine ⟨k + 1, _, by omega, by omega, by go_num, rfl, ?_⟩
          constructor
          · intro h j hj
            by_cases e : j = k
            · subst e; omega
            · exact HV.out.1 (by omega) j (by omega)
          · intro h
            have := h k (by omega)
            have := HV.out.2 fun j hj => h j (by omega)
            omega
        case measure => simp [intOf]; omega
    · obtain rfl : k = n := by omega
      go_wp2
      go_ret
      refine ⟨⟨v, rfl, ?_⟩, rfl⟩
      rw [Bool.eq_iff_iff]
      simp only [decide_eq_true_eq, List.all_eq_true]
      rw [HV.out]
      constructor
      · intro h x hx
        obtain ⟨j, hj⟩ := List.getElem?_of_mem hx
        have := h j (by have := (List.getElem?_eq_some_iff.1 hj).1; have := HL.out; omega)
        rwa [at0_get hj] at this
      · intro h j hj
        exact h _ (at0_mem (by have := HL.out; omega))

set_option maxRecDepth 100000 in
set_option maxHeartbeats 400000 in
theorem sliceMax (A : Option Addr) (n c : Nat) (xs : List Int) (m : Int) (h0 : 1 ≤ n) (w : World) (hs : Sl w A n c (xs.map (Value.int .i64))) :
    Calls Try.prog 90 #[.slice A n c] w fun e w' => (∃ v : Int, e = .returned (.int .i64 v) ∧ (decide (v ≤ m) = xs.all fun x => decide (x ≤ m))) ∧ w = w' := by
  have hm := hs.len_le
  have hl := hs.numlen
  have HL := hid hl
  clear hl
  obtain ⟨b0, o0, rfl, lb0, hk0, hc0⟩ := hs.num h0
  rw [Nat.add_zero] at hc0
  go_enter Try.func90, Try.ntmps90
  go_wp2
  go_loop [3, 4] (fun x i => ∃ (k : Nat) (v : Int), 1 ≤ k ∧ k ≤ n ∧ i = .int .i64 k ∧ x = .int .i64 v ∧ (v ≤ m ↔ ∀ j, j < k → at0 xs j ≤ m)) (fun _ i => n - (intOf i).toNat)
  case atStart => exact ⟨1, _, Nat.le_refl _, h0, rfl, rfl, ⟨fun h j hj => (show j = 0 by omega) ▸ h, fun h => h 0 (by omega)⟩⟩
  case round =>
    obtain ⟨k, v, hk1, hk, rfl, rfl, hv⟩ := hrel
    have HV := hid hv
    clear hv
    by_cases hlt : k < n
    · obtain ⟨b, o, e, lb, hkl, hc⟩ := hs.num hlt
      cases e
      clear hkl
      go_wp2
      all_goals
        go_round
        case rel =>
          refine ⟨k + 1, _, by omega, by omega, by go_num, rfl, ?_⟩
          constructor
          · intro h j hj
            by_cases e : j = k
            · subst e; omega
            · exact HV.out.1 (by omega) j (by omega)
          · intro h
            have := h k (by omega)
            have := HV.out.2 fun j hj => h j (by omega)
            omega
        case measure => simp [intOf]; omega
    · obtain rfl : k = n := by omega
      go_wp2
      go_ret
      refine ⟨⟨v, rfl, ?_⟩, rfl⟩
      rw [Bool.eq_iff_iff]
      simp only [decide_eq_true_eq, List.all_eq_true]
      rw [HV.out]
      constructor
      · intro h x hx
        obtain ⟨j, hj⟩ := List.getElem?_of_mem hx
        have := h j (by have := (List.getElem?_eq_some_iff.1 hj).1; have := HL.out; omega)
        rwa [at0_get hj] at this
      · intro h j hj
        exact h _ (at0_mem (by have := HL.out; omega))
end Go.Proofs.Ytdclmhmdkhpekaa
