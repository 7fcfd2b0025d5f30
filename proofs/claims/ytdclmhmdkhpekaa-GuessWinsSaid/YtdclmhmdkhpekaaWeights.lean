/- Walks of choose, the weights, the reference's Question. Conditions: small states, q to 1000. -/
import Derived.Test.YtdclmhmdkhpekaaLiar2
import Derived.Test.YtdclmhmdkhpekaaMem2
namespace Go.Proofs.Ytdclmhmdkhpekaa
open Go.RowKit

set_option maxRecDepth 100000 in
set_option maxHeartbeats 400000 in
theorem choose (q : Int) (j : Nat) (h0 : 0 ≤ q) (h1 : q ≤ 1000) (hj : j ≤ 3) (w : World) :
    Calls Try.prog 91 #[.int .i64 q, .int .i64 j] w fun e w' => e = .returned (.int .i64 (ch q j)) ∧ w = w' := by
  go_enter Try.func91, Try.ntmps91
  go_wp2
  go_loop [5, 8] (fun x i => ∃ k : Nat, k ≤ j ∧ i = .int .i64 k ∧ x = .int .i64 (ch q k)) (fun _ i => j - (intOf i).toNat)
  case atStart => exact ⟨0, Nat.zero_le _, rfl, rfl⟩
  case round =>
    obtain ⟨k, hk, rfl, rfl⟩ := hrel
    by_cases hlt : k < j
    · have d1 := ch_nonneg h0 k (by omega)
      have d2 := ch_le h0 h1 k (by omega)
      go_wp2
      go_round
      case rel => exact ⟨k + 1, by omega, by go_num, by rw [ch]⟩
      case measure => simp [intOf]; omega
    · obtain rfl : k = j := by omega
      go_wp2
      go_ret
      exact ⟨rfl, rfl⟩

set_option maxRecDepth 100000 in
set_option maxHeartbeats 1000000 in
theorem progWeight (A : Option Addr) (n c : Nat) (xs : List Int) (q : Int) (h0 : 0 ≤ q) (h1 : q ≤ 1000) (hn4 : n ≤ 4) (hx : ∀ x ∈ xs, 0 ≤ x ∧ x ≤ 1000) (w : World) (hs : Sl w A n c (xs.map (Value.int .i64))) :
    Calls Try.prog 64 #[.slice A n c, .int .i64 q] w fun e w' => e = .returned (.int .i64 (weight xs q)) ∧ w = w' := by
  have hln := hs.numlen
  have HX := hid hx; have HL := hid hln
  have HW := hid (show weight xs q = pwt xs q n by unfold weight; rw [hln])
  rw [HW.out]
  clear hx hln
  go_enter Try.func64, Try.ntmps64
  go_wp2
  go_loop [5, 11] (fun x i => ∃ k : Nat, k ≤ n ∧ i = .int .i64 k ∧ x = .int .i64 (pwt xs q k)) (fun _ i => n - (intOf i).toNat)
  case atStart => exact ⟨0, Nat.zero_le _, rfl, rfl⟩
  case round =>
    obtain ⟨k, hk, rfl, rfl⟩ := hrel
    by_cases hlt : k < n
    · obtain ⟨b, o, rfl, lb, hkl, ca⟩ := hs.num hlt
      have p1 := pwt_bd h0 h1 HX.out (by have := HL.out; omega) k (by have := HL.out; omega)
      have x1 := HX.out _ (at0_mem hkl)
      have p2 : pwt xs q k ≤ 16000000000000 := by omega
      have p3 := p1.1
      have HP := hid (show pwt xs q (k + 1) = pwt xs q k + at0 xs k * cs q (n - k) by rw [pwt, HL.out])
      have hsub : ((n : Int) - (k : Int)) = ((n - k : Nat) : Int) := by omega
      obtain ⟨r, hr⟩ : ∃ r, r = n - k := ⟨_, rfl⟩
      have hr4 : r ≤ 4 := by omega
      rw [← hr] at HP hsub
      clear p1 hkl hr
      have HS := hid hsub; clear hsub
      go_wp2
      rw [HS.out]
      go_loop [5, 20] (fun x i => ∃ l : Nat, l ≤ r ∧ i = .int .i64 l ∧ x = .int .i64 (pwt xs q k + at0 xs k * cs q l)) (fun _ i => r - (intOf i).toNat)
      case atStart => exact ⟨0, Nat.zero_le _, rfl, by simp [cs]⟩
      case round =>
        obtain ⟨l, hl, rfl, rfl⟩ := hrel
        by_cases hll : l < r
        · have d1 := (ch_nonneg h0 l (by omega)).1
          have d2 := (ch_le h0 h1 l (by omega)).1
          have d3 := cs_bd h0 h1 l (by omega)
          have d4 := mul_bd x1.1 x1.2 d1 d2
          have d5 := mul_bd x1.1 x1.2 d3.1 (show cs q l ≤ 4000000000 by omega)
          have HC := hid (choose q l h0 h1 (by omega))
          have HM := hid (show at0 xs k * cs q (l + 1) = at0 xs k * cs q l + at0 xs k * ch q l by rw [cs, Int.mul_add])
          go_wp2_with (go_at_call 91; refine (HC.out _).mono ?_; rintro e w1 ⟨rfl, rfl⟩)
          go_round
          case rel => exact ⟨l + 1, by omega, by go_num, by rw [HM.out]; go_num⟩
          case measure => simp [intOf]; omega
        · obtain rfl : l = r := by omega
          go_wp2
          go_round
          case rel => exact ⟨k + 1, by omega, by go_num, by rw [HP.out]⟩
          case measure => simp [intOf]; omega
    · obtain rfl : k = n := by omega
      go_wp2
      go_ret
      exact ⟨rfl, rfl⟩

set_option maxRecDepth 100000 in
set_option maxHeartbeats 1000000 in
theorem refWeight (A : Option Addr) (n c : Nat) (xs : List Int) (q : Int) (h0 : 0 ≤ q) (h1 : q ≤ 1000) (hn4 : n ≤ 4) (hx : ∀ x ∈ xs, 0 ≤ x ∧ x ≤ 1000) (w : World) (hs : Sl w A n c (xs.map (Value.int .i64))) :
    Calls Try.prog 36 #[.slice A n c, .int .i64 q] w fun e w' => e = .returned (.int .i64 (weight xs q)) ∧ w = w' := by
  have hln := hs.numlen
  have HX := hid hx; have HL := hid hln
  have HW := hid (show weight xs q = pwt xs q n by unfold weight; rw [hln])
  rw [HW.out]
  clear hx hln
  go_enter Try.func36, Try.ntmps36
  go_wp2
  go_loop [5, 13] (fun x i => ∃ k : Nat, k ≤ n ∧ i = .int .i64 k ∧ x = .int .i64 (pwt xs q k)) (fun _ i => n - (intOf i).toNat)
  case atStart => exact ⟨0, Nat.zero_le _, rfl, rfl⟩
  case round =>
    obtain ⟨k, hk, rfl, rfl⟩ := hrel
    by_cases hlt : k < n
    · obtain ⟨b, o, rfl, lb, hkl, ca⟩ := hs.num hlt
      have p1 := pwt_bd h0 h1 HX.out (by have := HL.out; omega) k (by have := HL.out; omega)
      have x1 := HX.out _ (at0_mem hkl)
      have p2 : pwt xs q k ≤ 16000000000000 := by omega
      have p3 := p1.1
      have HP := hid (show pwt xs q (k + 1) = pwt xs q k + at0 xs k * cs q (n - k) by rw [pwt, HL.out])
      clear p1 hkl
      go_wp2
      go_loop [8, 9, 10] (fun x y i => ∃ l : Nat, l ≤ n - k ∧ i = .int .i64 l ∧ x = .int .i64 (ch q l) ∧ y = .int .i64 (cs q l)) (fun _ _ i => n - k - (intOf i).toNat)
      case atStart => exact ⟨0, Nat.zero_le _, rfl, rfl, rfl⟩
      case round =>
        obtain ⟨l, hl, rfl, rfl, rfl⟩ := hrel
        have d3 := cs_bd h0 h1 l (by omega)
        by_cases hll : l < n - k
        · have d1 := ch_nonneg h0 l (by omega)
          have d2 := ch_le h0 h1 l (by omega)
          go_wp2
          go_round
          case rel => exact ⟨l + 1, by omega, by go_num, by rw [ch], by rw [cs]⟩
          case measure => simp [intOf]; omega
        · obtain rfl : l = n - k := by omega
          have d5 := mul_bd x1.1 x1.2 d3.1 (show cs q (n - k) ≤ 4000000000 by omega)
          go_wp2
          go_round
          case rel => exact ⟨k + 1, by omega, by go_num, by rw [HP.out]⟩
          case measure => simp [intOf]; omega
    · obtain rfl : k = n := by omega
      go_wp2
      go_ret
      exact ⟨rfl, rfl⟩

set_option maxRecDepth 100000 in
set_option maxHeartbeats 1000000 in
theorem refQuestion (A B : Option Addr) (n c m d : Nat) (xs q : List Int) (w : World) (hs : Sl w A n c (xs.map (Value.int .i64))) (hq : Sl w B m d (q.map (Value.int .i64))) :
    Calls Try.prog 30 #[.slice A n c, .slice B m d] w fun e w' => e = .returned (.bool (askOk xs q)) ∧ w = w' := by
  have hlm := hs.len_le
  have hqm := hq.len_le
  have HL := hid hs.numlen
  have HQ := hid hq.numlen
  go_enter Try.func30, Try.ntmps30
  go_wp2
  go_loopg [9] m (fun gk i wr => ∃ k : Nat, gk + k = m ∧ i = .int .i64 k ∧ (∀ j, j < k → 0 ≤ at0 q j ∧ at0 q j ≤ at0 xs j) ∧ w = wr)
  case atStart => exact ⟨0, by omega, rfl, fun j h => absurd h (by omega), rfl⟩
  case round =>
    obtain ⟨k, hk, rfl, hno, rfl⟩ := hrel
    have HO := hid hno; have HK := hid hk; clear hno hk
    by_cases hlt : k < m
    · obtain ⟨b', o', rfl, lb1', hkl', ca'⟩ := hq.num hlt
      by_cases hkn : n ≤ k
      · have hf := hid (show askOk xs q = false by unfold askOk; rw [decide_eq_false (by have := HL.out; have := HQ.out; omega)]; simp)
        clear hkl'
        go_wp2
        go_ret
        exact ⟨ret_b hf.out, rfl⟩
      · have hkn' : decide (n ≤ k) = false := by simpa using hkn
        have hkn'' : decide ((n : Int) ≤ (k : Int)) = false := by simp; omega
        obtain ⟨b, o, rfl, lb1, hkl, ca⟩ := hs.num (show k < n by omega)
        have hbad := fun (h : ¬ (0 ≤ at0 q k ∧ at0 q k ≤ at0 xs k)) => show askOk xs q = false by
          cases hst : askOk xs q
          · rfl
          · exact absurd ((askOk_iff.1 hst).2 _ hkl') h
        have HB := hid hbad
        clear hbad hkl hkl'
        by_cases h3 : at0 q k < 0
        · go_wp2
          go_ret
          exact ⟨ret_b (HB.out (by omega)), rfl⟩
        · have h3' : decide (at0 q k < 0) = false := by simpa using h3
          by_cases h4 : at0 xs k < at0 q k
          · go_wp2
            go_ret
            exact ⟨ret_b (HB.out (by omega)), rfl⟩
          · have h4' : decide (at0 xs k < at0 q k) = false := by simpa using h4
            go_wp2
            go_roundg (gk - 1)
            case measure => have := HK.out; omega
            case rel =>
              refine ⟨k + 1, by have := HK.out; omega, by go_num, fun j hj => ?_, rfl⟩
              by_cases e : j = k
              · subst e; omega
              · exact HO.out j (by omega)
    · have hkm : k = m := by have := HK.out; omega
      have hf := hid (show askOk xs q = decide (m = n) by
        have h1 := HL.out; have h2 := HQ.out
        rw [Bool.eq_iff_iff, askOk_iff]
        simp only [decide_eq_true_eq]
        exact ⟨fun h => by omega, fun h => ⟨by omega, fun j hj => HO.out j (by omega)⟩⟩)
      by_cases e : m = n
      · have e1 : ((m : Int) == (n : Int)) = true := by rw [beq_iff_eq]; omega
        have e2 : (m == n) = true := by rw [beq_iff_eq]; omega
        have hf' := hid (hf.out.trans (decide_eq_true e))
        clear e hf hkm
        go_wp2
        go_ret
        exact ⟨ret_b hf'.out, rfl⟩
      · have e1 : ((m : Int) == (n : Int)) = false := by rw [beq_eq_false_iff_ne]; omega
        have e2 : (m == n) = false := by rw [beq_eq_false_iff_ne]; omega
        have hf' := hid (hf.out.trans (decide_eq_false e))
        clear e hf hkm
        go_wp2
        go_ret
        exact ⟨ret_b hf'.out, rfl⟩
end Go.Proofs.Ytdclmhmdkhpekaa
