/- Walks of the liar's checks: valid and State, asks and Question. Conditions: slices read as lists of numbers. -/
import Derived.Test.YtdclmhmdkhpekaaLiar1
namespace Go.Proofs.Ytdclmhmdkhpekaa
open Go.RowKit

theorem ret_b {x y : Bool} (h : y = x) : Ending.returned (.bool x) = .returned (.bool y) := by rw [h]
theorem of_dec_true {p : Prop} [Decidable p] (h : decide p = true) : p := by simpa using h
theorem of_dec_false {p : Prop} [Decidable p] (h : decide p = false) : ¬ p := by simpa using h

set_option maxRecDepth 100000 in
set_option maxHeartbeats 1000000 in
theorem progValid (A : Option Addr) (n c : Nat) (xs : List Int) (m : Int) (hm : m ≤ 1000) (w : World) (hs : Sl w A n c (xs.map (Value.int .i64))) :
    Calls Try.prog 61 #[.slice A n c, .int .i64 m] w fun e w' => e = .returned (.bool (stateOk m xs)) ∧ w = w' := by
  have hln := hs.numlen
  have hlm := hs.len_le
  by_cases h1 : n < 1
  · have hf := hid (show stateOk m xs = false by unfold stateOk; rw [decide_eq_false (by omega)]; simp)
    rw [hf.out]
    clear hf hln
    go_enter Try.func61, Try.ntmps61
    go_wp2
    go_ret
    exact ⟨rfl, rfl⟩
  by_cases h2 : 4 < n
  · have hf := hid (show stateOk m xs = false by unfold stateOk; rw [decide_eq_false (show ¬ xs.length ≤ 4 by omega)]; simp)
    rw [hf.out]
    clear hf hln
    go_enter Try.func61, Try.ntmps61
    go_wp2
    go_ret
    exact ⟨rfl, rfl⟩
  have HI := hid (sliceMin A n c xs (by omega) w hs)
  have HA := hid (sliceMax A n c xs m (by omega) w hs)
  cases h3 : xs.all fun x => decide (0 ≤ x)
  · have hf := hid (show stateOk m xs = false by
      cases hst : stateOk m xs
      · rfl
      · have := (stateOk_iff.1 hst).2.2.1
        have : (xs.all fun x => decide (0 ≤ x)) = true := List.all_eq_true.2 fun x hx => by simpa using (this x hx).1
        rw [h3] at this; cases this)
    rw [hf.out]
    rw [h3] at HI
    clear hf hln h3
    go_enter Try.func61, Try.ntmps61
    go_wp2_with (go_at_call 89; refine (HI.out).mono ?_; rintro e w1 ⟨⟨v, rfl, hv⟩, rfl⟩; have hv' := of_dec_false hv; clear hv)
    go_ret
    exact ⟨rfl, rfl⟩
  rw [h3] at HI
  cases h4 : xs.all fun x => decide (x ≤ m)
  · have hf := hid (show stateOk m xs = false by
      cases hst : stateOk m xs
      · rfl
      · have := (stateOk_iff.1 hst).2.2.1
        have : (xs.all fun x => decide (x ≤ m)) = true := List.all_eq_true.2 fun x hx => by simpa using (this x hx).2
        rw [h4] at this; cases this)
    rw [hf.out]
    rw [h4] at HA
    clear hf hln h3 h4
    go_enter Try.func61, Try.ntmps61
    go_wp2_with (first | (go_at_call 89; refine (HI.out).mono ?_; rintro e w1 ⟨⟨v, rfl, hv⟩, rfl⟩; have hv' := of_dec_true hv; clear hv) | (go_at_call 90; refine (HA.out).mono ?_; rintro e w1 ⟨⟨v, rfl, hv⟩, rfl⟩; have hv' := of_dec_false hv; clear hv))
    go_ret
    exact ⟨rfl, rfl⟩
  rw [h4] at HA
  have hall : ∀ x ∈ xs, 0 ≤ x ∧ x ≤ m := fun x hx => ⟨by simpa using List.all_eq_true.1 h3 x hx, by simpa using List.all_eq_true.1 h4 x hx⟩
  have HS := hid (progSum A n c xs m (by omega) (by omega) hall w hs)
  have hf := hid (show stateOk m xs = decide (total xs ≤ m) by
    rw [Bool.eq_iff_iff, stateOk_iff]
    simp only [decide_eq_true_eq]
    exact ⟨fun h => h.2.2.2, fun h => ⟨by omega, by omega, hall, h⟩⟩)
  rw [hf.out]
  clear hf hln h3 h4 hall
  go_enter Try.func61, Try.ntmps61
  go_wp2_with (first | (go_at_call 89; refine (HI.out).mono ?_; rintro e w1 ⟨⟨v, rfl, hv⟩, rfl⟩; have hv' := of_dec_true hv; clear hv) | (go_at_call 90; refine (HA.out).mono ?_; rintro e w1 ⟨⟨v, rfl, hv⟩, rfl⟩; have hv' := of_dec_true hv; clear hv) | (go_at_call 74; refine (HS.out).mono ?_; rintro e w1 ⟨rfl, rfl⟩))
  go_ret
  exact ⟨rfl, rfl⟩

set_option maxRecDepth 100000 in
set_option maxHeartbeats 1000000 in
theorem refState (A : Option Addr) (n c : Nat) (xs : List Int) (m : Int) (hm : m ≤ 1000) (w : World) (hs : Sl w A n c (xs.map (Value.int .i64))) :
    Calls Try.prog 29 #[.slice A n c, .int .i64 m] w fun e w' => e = .returned (.bool (stateOk m xs)) ∧ w = w' := by
  have hln := hs.numlen
  have hlm := hs.len_le
  by_cases h1 : n < 1
  · have hf := hid (show stateOk m xs = false by unfold stateOk; rw [decide_eq_false (by omega)]; simp)
    rw [hf.out]
    clear hf hln
    go_enter Try.func29, Try.ntmps29
    go_wp2
    go_ret
    exact ⟨rfl, rfl⟩
  by_cases h2 : 4 < n
  · have hf := hid (show stateOk m xs = false by unfold stateOk; rw [decide_eq_false (show ¬ xs.length ≤ 4 by omega)]; simp)
    rw [hf.out]
    clear hf hln
    go_enter Try.func29, Try.ntmps29
    go_wp2
    go_ret
    exact ⟨rfl, rfl⟩
  have HL := hid hln
  clear hln
  go_enter Try.func29, Try.ntmps29
  go_wp2
  go_loopg [17] n (fun gk i wr => ∃ k : Nat, gk + k = n ∧ i = .int .i64 k ∧ (∀ j, j < k → 0 ≤ at0 xs j ∧ at0 xs j ≤ m) ∧ w = wr)
  case atStart => exact ⟨0, by omega, rfl, fun j h => absurd h (by omega), rfl⟩
  case round =>
    obtain ⟨k, hk, rfl, hno, rfl⟩ := hrel
    have HO := hid hno; have HK := hid hk; clear hno hk
    by_cases hlt : k < n
    · obtain ⟨b, o, rfl, lb1, hkl, ca⟩ := hs.num hlt
      have hbad := fun (h : ¬ (0 ≤ at0 xs k ∧ at0 xs k ≤ m)) => show stateOk m xs = false by
        cases hst : stateOk m xs
        · rfl
        · exact absurd ((stateOk_iff.1 hst).2.2.1 _ (at0_mem hkl)) h
      have HB := hid hbad
      clear hbad hkl
      by_cases h3 : at0 xs k < 0
      · go_wp2
        go_ret
        exact ⟨ret_b (HB.out (by omega)), rfl⟩
      · have h3' : decide (at0 xs k < 0) = false := by simpa using h3
        by_cases h4 : m < at0 xs k
        · go_wp2
          go_ret
          exact ⟨ret_b (HB.out (by omega)), rfl⟩
        · have h4' : decide (m < at0 xs k) = false := by simpa using h4
          go_wp2
          go_roundg (gk - 1)
          case measure => have := HK.out; omega
          case rel =>
            refine ⟨k + 1, by have := HK.out; omega, by go_num, fun j hj => ?_, rfl⟩
            by_cases e : j = k
            · subst e; omega
            · exact HO.out j (by omega)
    · have hall : ∀ x ∈ xs, 0 ≤ x ∧ x ≤ m := fun x hx => by
        obtain ⟨j, hj⟩ := List.getElem?_of_mem hx
        have := HO.out j (by have := (List.getElem?_eq_some_iff.1 hj).1; have := HL.out; omega)
        rwa [at0_get hj] at this
      have HS := hid (refTotal A n c xs m (by omega) (by omega) hall w hs)
      have hf := hid (show stateOk m xs = decide (total xs ≤ m) by
        have := HL.out
        rw [Bool.eq_iff_iff, stateOk_iff]
        simp only [decide_eq_true_eq]
        exact ⟨fun h => h.2.2.2, fun h => ⟨by omega, by omega, hall, h⟩⟩)
      clear hall
      go_wp2_with (go_at_call 65; refine (HS.out).mono ?_; rintro e w1 ⟨rfl, rfl⟩)
      go_ret
      exact ⟨ret_b hf.out, rfl⟩

set_option maxRecDepth 100000 in
set_option maxHeartbeats 1000000 in
theorem progAsks (A B : Option Addr) (n c m d : Nat) (xs q : List Int) (w : World) (hs : Sl w A n c (xs.map (Value.int .i64))) (hq : Sl w B m d (q.map (Value.int .i64))) :
    Calls Try.prog 62 #[.slice A n c, .slice B m d] w fun e w' => e = .returned (.bool (askOk xs q)) ∧ w = w' := by
  have hln := hs.numlen
  have hlm := hs.len_le
  have hqn := hq.numlen
  have hqm := hq.len_le
  by_cases h1 : m = n
  · subst h1
    have HL := hid hln
    have HQ := hid hqn
    clear hln hqn
    go_enter Try.func62, Try.ntmps62
    go_wp2
    go_loopg [14] m (fun gk i wr => ∃ k : Nat, gk + k = m ∧ i = .int .i64 k ∧ (∀ j, j < k → 0 ≤ at0 q j ∧ at0 q j ≤ at0 xs j) ∧ w = wr)
    case atStart => exact ⟨0, by omega, rfl, fun j h => absurd h (by omega), rfl⟩
    case round =>
      obtain ⟨k, hk, rfl, hno, rfl⟩ := hrel
      have HO := hid hno; have HK := hid hk; clear hno hk
      by_cases hlt : k < m
      · obtain ⟨b, o, rfl, lb1, hkl, ca⟩ := hs.num hlt
        obtain ⟨b', o', rfl, lb1', hkl', ca'⟩ := hq.num hlt
        have hbad := fun (h : ¬ (0 ≤ at0 q k ∧ at0 q k ≤ at0 xs k)) => show askOk xs q = false by
          cases hst : askOk xs q
          · rfl
          · exact absurd ((askOk_iff.1 hst).2 _ hkl') h
        have HB := hid hbad
        clear hbad hkl hkl'
        by_cases h3 : at0 q k < 0
        · go_wp2
          go_ret
          exact ⟨ret_b (HB.out (by omega)), rfl⟩
        · have h3' : decide (at0 q k < 0) = false := by simpa using h3
          by_cases h4 : at0 xs k < at0 q k
          · go_wp2
            go_ret
            exact ⟨ret_b (HB.out (by omega)), rfl⟩
          · have h4' : decide (at0 xs k < at0 q k) = false := by simpa using h4
            go_wp2
            go_roundg (gk - 1)
            case measure => have := HK.out; omega
            case rel =>
              refine ⟨k + 1, by have := HK.out; omega, by go_num, fun j hj => ?_, rfl⟩
              by_cases e : j = k
              · subst e; omega
              · exact HO.out j (by omega)
      · have hf := hid (show askOk xs q = true from askOk_iff.2 ⟨by have := HL.out; have := HQ.out; omega, fun j hj => HO.out j (by have := HQ.out; omega)⟩)
        go_wp2
        go_ret
        exact ⟨ret_b hf.out, rfl⟩
  · have hf := hid (show askOk xs q = false by unfold askOk; rw [decide_eq_false (by omega)]; simp)
    have h1' : ((m : Int) != (n : Int)) = true := by rw [bne_iff_ne]; omega
    have h1'' : (m != n) = true := by rw [bne_iff_ne]; omega
    clear hln hqn
    go_enter Try.func62, Try.ntmps62
    go_wp2
    go_ret
    exact ⟨ret_b hf.out, rfl⟩
end Go.Proofs.Ytdclmhmdkhpekaa
