/- Walk of LearnAll. No condition. -/
import Derived.Test.YtpebglilphgamaaWalkAsks
import Derived.Test.YtpebglilphgamaaWorst2
import Derived.Test.YtpebglilphgamaaAllM
namespace Go.Proofs.Ytpebglilphgamaa
open Go.RowKit

theorem cube_at {p j : Nat} (h : j < 2 ^ p) : at0 (cube p) j = j := by
  simp [at0, cube, List.getD, h]
theorem cube_len (p : Nat) : (cube p).length = 2 ^ p := by simp [cube]
theorem cube_take (k : Nat) : (List.range (k + 1)).map (fun (c : Nat) => (c : Int)) = (List.range k).map (fun (c : Nat) => (c : Int)) ++ [(k : Int)] := by
  rw [List.range_succ, List.map_append]; rfl
theorem cube_cls {p : Nat} (h1 : 1 ≤ p) (h4 : p ≤ 4) : Cls p (cube p) := by
  have hl := cube_len p
  have hle := Nat.pow_le_pow_right (show 0 < 2 by decide) h4
  have hpos := Nat.two_pow_pos p
  refine ⟨by omega, by omega, by omega, by omega, fun j hj => ?_, fun j hj => ?_⟩
  · rw [cube_at (by omega), p2_nat]; omega
  · rw [cube_at (by omega), cube_at (by omega)]; omega
theorem four (p : Int) : ∃ q : Nat, wrap64 (1 + wrap64 ((IntKind.u64.wrap p).tmod 4)) = (q : Int) ∧ 1 ≤ q ∧ q ≤ 4 := by
  have h0 : 0 ≤ IntKind.u64.wrap p := by rw [IntKind.wrap_u64]; omega
  rw [Int.tmod_eq_emod_of_nonneg h0]
  refine ⟨(1 + IntKind.u64.wrap p % 4).toNat, ?_, by omega, by omega⟩
  unfold wrap64
  omega

attribute [local go_sem ↓] shl_p2
set_option maxRecDepth 100000 in
set_option maxHeartbeats 2000000 in
theorem learnAll_walk (w : World) (p : Int) (_ : (Lit.int .i64 p).wf = true) :
    Calls Try.prog 12 #[.int .i64 p] w fun e w' => e = .returned (.bool true) ∧ Below w.heap.size w w' := by
  obtain ⟨q, hq, q1, q4⟩ := four p
  have hf : Fits (q : Int) := ⟨by omega, by omega⟩
  have hp2 : p2 (q : Int) = ((2 ^ q : Nat) : Int) := p2_nat q
  have hN16 : 2 ^ q ≤ 16 := Nat.pow_le_pow_right (show 0 < 2 by decide) q4
  have C := cube_cls q1 q4
  have hcl := cube_len q
  have hne : cube q ≠ [] := fun e => by rw [e] at hcl; have := Nat.two_pow_pos q; simp at hcl; omega
  have h1 := take_min20 hcl (by omega)
  have h3 : min (2 ^ q) 20 = 2 ^ q := Nat.min_eq_left (by omega)
  have HL := hid fun A c W (hW : Sl W A (2 ^ q) c ((cube q).map (Value.int .i64))) => lawList A (2 ^ q) c (cube q) W hW
  rw [h1, h3] at HL
  have HD := hid fun A c W (hW : Sl W A (2 ^ q) c ((cube q).map (Value.int .i64))) => dimPub q A _ c _ W hW C
  have HT := hid fun A c W (hW : Sl W A (2 ^ q) c ((cube q).map (Value.int .i64))) => teachPub q A _ c _ W hW C
  have HA := hid fun A c W (hW : Sl W A (2 ^ q) c ((cube q).map (Value.int .i64))) => askPub q A _ c _ W hW C
  have HP := hid fun A c W (hW : Sl W A (2 ^ q) c ((cube q).map (Value.int .i64))) => peelPub q A _ c _ W hW C
  have HW := hid fun A c W (hW : Sl W A (2 ^ q) c ((cube q).map (Value.int .i64))) => worstCPub q A _ c _ W hW C
  have HH := hid fun A c W (hW : Sl W A (2 ^ q) c ((cube q).map (Value.int .i64))) => worstHPub q A _ c _ W hW C
  rw [careful_dim hne] at HW
  rw [cube_dim q (by omega)] at HD HW
  rw [cube_teach q (by omega)] at HT
  rw [cube_ask q (by omega)] at HA
  rw [cube_peel q (by omega)] at HP
  rw [cube_halving q (by omega)] at HH
  have HCU := hid (show cube q = (List.range (2 ^ q)).map fun (c : Nat) => (c : Int) from rfl)
  have HR := hid cube_take
  generalize (2 : Nat) ^ q = N at *
  clear C hcl hne h1 h3
  go_enter Try.func12, Try.ntmps12
  go_wp2
  simp only [hq]
  clear hq
  go_loopg [3, 24] N (fun gk o i wr => ∃ k : Nat, gk + k = N ∧ i = .int .i64 k ∧ (∃ A' m c', o = .slice A' m c' ∧ wr.ownsRow w.heap.size 3 1 (.slice A' m c') m (((List.range k).map fun (c : Nat) => (c : Int)).map (Value.int .i64))) ∧ Below w.heap.size w wr)
  case atStart => exact ⟨0, by omega, rfl, ⟨none, 0, 0, rfl, by simpa using World.ownsRow_nil _ _ _ _⟩, Below.refl _ _⟩
  case round =>
    obtain ⟨k, hk, rfl, ⟨A', m, c', rfl, ho⟩, hb⟩ := hrel
    have HK := hid hk
    have HO := hid ho
    have hmk : m = k := by have := ho.1; simp at this; omega
    subst hmk
    have hz := hid hb.size
    have HB := hid hb
    clear hk ho hb
    by_cases hlt : m < N
    · have hR := hid (HR.out m)
      go_wp2_with (at_builtin; refine push1 TI wr #[.int .i64 m] _ m _ _ HO.out _ _ rfl rfl rfl rfl rfl (by simp [Value.oneCell']) (by omega) (by omega) hz.out ?_; intro v1 w1 hown1 hgr; have hb1 : Below w.heap.size w w1 := below_push HB.out HO.out hgr hz.out (Nat.le_refl _))
      obtain ⟨A1, c1, rfl⟩ := own_form hown1
      clear hgr
      go_wp2
      go_roundg (N - m - 1)
      case measure => have := HK.out; omega
      case rel => exact ⟨m + 1, by omega, by go_num, ⟨A1, m + 1, c1, rfl, by rw [hR.out, List.map_append]; simpa using hown1⟩, hb1⟩
    · obtain rfl : m = N := by have := HK.out; omega
      have s0 := Sl.of_own HO.out
      rw [← HCU.out] at s0
      have S0 := hid s0
      clear s0 hlt
      go_wp2_with fail
      refine (HL.out _ _ _ S0.out).mono ?_; rintro e w1 ⟨A1, c1, rfl, o1, b1⟩
      go_wp2_with fail
      refine (HD.out _ _ _ (Sl.of_own o1)).mono ?_; rintro e w2 ⟨rfl, b2⟩
      have S2 := hid ((S0.out.below b1).below b2)
      have B2 := hid (below_call (below_call HB.out b1 HB.out.size) b2 (Nat.le_trans HB.out.size b1.size))
      clear o1 b1 b2
      go_wp2_with fail
      refine (HL.out _ _ _ S2.out).mono ?_; rintro e w3 ⟨A3, c3, rfl, o3, b3⟩
      go_wp2_with fail
      refine (HT.out _ _ _ (Sl.of_own o3)).mono ?_; rintro e w4 ⟨rfl, b4⟩
      have S4 := hid ((S2.out.below b3).below b4)
      have B4 := hid (below_call (below_call B2.out b3 B2.out.size) b4 (Nat.le_trans B2.out.size b3.size))
      clear o3 b3 b4
      go_wp2_with fail
      refine (HL.out _ _ _ S4.out).mono ?_; rintro e w5 ⟨A5, c5, rfl, o5, b5⟩
      go_wp2_with fail
      refine (HA.out _ _ _ (Sl.of_own o5)).mono ?_; rintro e w6 ⟨rfl, b6⟩
      have S6 := hid ((S4.out.below b5).below b6)
      have B6 := hid (below_call (below_call B4.out b5 B4.out.size) b6 (Nat.le_trans B4.out.size b5.size))
      clear o5 b5 b6
      go_wp2_with fail
      refine (HL.out _ _ _ S6.out).mono ?_; rintro e w7 ⟨A7, c7, rfl, o7, b7⟩
      go_wp2_with fail
      refine (HP.out _ _ _ (Sl.of_own o7)).mono ?_; rintro e w8 ⟨rfl, b8⟩
      have S8 := hid ((S6.out.below b7).below b8)
      have B8 := hid (below_call (below_call B6.out b7 B6.out.size) b8 (Nat.le_trans B6.out.size b7.size))
      clear o7 b7 b8
      go_wp2_with fail
      refine (HL.out _ _ _ S8.out).mono ?_; rintro e w9 ⟨A9, c9, rfl, o9, b9⟩
      go_wp2_with fail
      refine (HW.out _ _ _ (Sl.of_own o9)).mono ?_; rintro e w10 ⟨rfl, b10⟩
      have S10 := hid ((S8.out.below b9).below b10)
      have B10 := hid (below_call (below_call B8.out b9 B8.out.size) b10 (Nat.le_trans B8.out.size b9.size))
      clear o9 b9 b10
      go_wp2_with fail
      refine (HH.out _ _ _ S10.out).mono ?_; rintro e w11 ⟨rfl, b11⟩
      have B11 := hid (below_call B10.out b11 B10.out.size)
      clear b11
      go_wp2_with (go_at_call 21; refine (awake _).mono ?_; rintro e w12 ⟨rfl, b12⟩)
      go_ret
      exact ⟨rfl, below_call B11.out b12 B11.out.size⟩
end Go.Proofs.Ytpebglilphgamaa
