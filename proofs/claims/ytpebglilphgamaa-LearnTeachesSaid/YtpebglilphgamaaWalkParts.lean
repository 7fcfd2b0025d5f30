/- Walk of LearnParts. No condition. -/
import Derived.Test.YtpebglilphgamaaWalkAsks
namespace Go.Proofs.Ytpebglilphgamaa
open Go.RowKit

theorem sel_sub (f : Nat → Bool) (xs : List Int) : (sel xs.length f xs).Sublist xs := by
  have h := ((List.filter_sublist (p := f) (l := List.range xs.length)).map (at0 xs))
  have e : (List.range xs.length).map (at0 xs) = xs := by
    have := sel_all xs
    unfold sel at this
    rwa [List.filter_eq_self.2 (by simp)] at this
  rw [e] at h
  exact h
theorem Cls.pw {p : Int} {xs : List Int} (h : Cls p xs) : xs.Pairwise (· < ·) := by
  rw [List.pairwise_iff_getElem]
  intro i j hi hj hij
  have := asc_lt h.asc hij hj
  simpa [at0, List.getD, hi, hj] using this
theorem cls_pw {p : Nat} {xs : List Int} (h1 : 1 ≤ p) (h5 : p ≤ 5) (hne : xs ≠ []) (h16 : xs.length ≤ 16) (hi : InP p xs) (hp : xs.Pairwise (· < ·)) : Cls p xs := by
  have hl := ne_len hne
  refine ⟨by omega, by omega, by omega, h16, fun j hj => ?_, fun j hj => ?_⟩
  · have := hi _ (at0_mem' hj)
    rw [p2_nat]
    have h2 : ((2 ^ p : Nat) : Int) = (2 : Int) ^ p := by simp
    omega
  · rw [List.pairwise_iff_getElem] at hp
    have := hp j (j + 1) (by omega) hj (by omega)
    simpa [at0, List.getD, hj, show j < xs.length by omega] using this
theorem Cls.part {p : Nat} {xs ys : List Int} (h : Cls p xs) (hs : ys.Sublist xs) (hne : ys ≠ []) : Cls p ys :=
  cls_pw (by have := h.p1; omega) (by have := h.p5; omega) hne (by have := hs.length_le; have := h.n16; omega) (h.inP.sub hs) (h.pw.sublist hs)
theorem Cls.ne {p : Int} {xs : List Int} (h : Cls p xs) : xs ≠ [] := by rintro rfl; have := h.n1; simp at this
/-- The three numbers of a class. -/
def nums (p : Nat) (xs : List Int) (i : Nat) : Int := if i = 0 then dimL p xs else if i = 1 then askL p xs else peelL p xs
def numX (p : Nat) (xs ys : List Int) (k i : Nat) : Int := if k = 0 then 0 else if k = 1 then nums p xs i else nums p ys i
def numY (p : Nat) (xs : List Int) (k i : Nat) : Int := if k ≤ 1 then 0 else nums p xs i
theorem dim_bits {p : Nat} {xs : List Int} (h : Cls p xs) : 0 ≤ dimL p xs ∧ dimL p xs ≤ 4 ∧ p2 (dimL p xs) ≤ xs.length := by
  have h0 := dimL_nonneg (p := p) h.ne
  have h1 := two_pow_dim p _ xs rfl h.ne
  have h16 := h.n16
  obtain ⟨d, hd⟩ := Int.eq_ofNat_of_zero_le h0
  rw [hd] at h1 ⊢
  rw [Int.toNat_natCast] at h1
  rw [p2_nat]
  have h4 : d ≤ 4 := by
    rcases Nat.lt_or_ge 4 d with g | g
    · have := Nat.pow_le_pow_right (show 0 < 2 by decide) (show 5 ≤ d by omega)
      omega
    · exact g
  omega
theorem bit_sel (keep : Int) (j : Nat) : (bitV keep j == 1) = bitB keep j := rfl

attribute [local go_sem ↓] shl_p2 shr_v and_shr

set_option maxRecDepth 100000 in
set_option maxHeartbeats 1000000 in
theorem learnParts_bad (w : World) (p : Int) (A : Option Addr) (n c : Nat) (xs : List Int) (hs : Sl w A n c (xs.map (Value.int .i64))) (keep : Int) (h : ¬ Cls p xs) :
    Calls Try.prog 10 #[.int .i64 p, .slice A n c, .int .i64 keep] w fun e w' => e = .returned (.bool true) ∧ Below w.heap.size w w' := by
  have HC := hid (refClassBad p A n c xs w hs h)
  clear hs h
  go_enter Try.func10, Try.ntmps10
  go_wp2_with fail
  refine (HC.out).mono ?_; rintro e w1 ⟨rfl, rfl⟩
  go_wp2_with (go_at_call 21; refine (awake _).mono ?_; rintro e w6 ⟨rfl, b6⟩)
  go_ret
  exact ⟨rfl, b6⟩

set_option maxRecDepth 100000 in
set_option maxHeartbeats 4000000 in
theorem learnParts_good (w : World) (p : Nat) (A : Option Addr) (n c : Nat) (xs : List Int) (hs : Sl w A n c (xs.map (Value.int .i64))) (keep : Int) (h : Cls p xs) :
    Calls Try.prog 10 #[.int .i64 p, .slice A n c, .int .i64 keep] w fun e w' => e = .returned (.bool true) ∧ Below w.heap.size w w' := by
  have hn := hs.numlen
  subst hn
  have hn16 := h.n16
  have HC := hid (refClassOk p A xs.length c xs w hs h)
  have HT := hid fun k => sel_succ k (fun i => bitB keep i) xs
  have HS := hid hs
  have HCL := hid h
  have HLEN := hid fun k => sel_len k (fun i => bitB keep i) xs
  clear hs h
  go_enter Try.func10, Try.ntmps10
  go_wp2_with fail
  refine (HC.out).mono ?_; rintro e w1 ⟨rfl, rfl⟩
  go_wp2
  go_loopg [7, 27] xs.length (fun gk o i wr => ∃ k : Nat, gk + k = xs.length ∧ i = .int .i64 k ∧ (∃ A' m c', o = .slice A' m c' ∧ wr.ownsRow w.heap.size 3 1 (.slice A' m c') m ((sel k (fun i => bitB keep i) xs).map (Value.int .i64))) ∧ Below w.heap.size w wr)
  case atStart => exact ⟨0, by omega, rfl, ⟨none, 0, 0, rfl, by simpa [sel] using World.ownsRow_nil _ _ _ _⟩, Below.refl _ _⟩
  case round =>
    obtain ⟨k, hk, rfl, ⟨A', m, c', rfl, ho⟩, hb⟩ := hrel
    have HK := hid hk; clear hk
    have hz := hid hb.size
    have HO := hid ho
    have hm : m ≤ 16 := by
      have h1 := HLEN.out k
      have h2 : (sel k (fun i => bitB keep i) xs).length = m := by simpa using ho.1
      have := HK.out; omega
    have HB := hid hb
    clear ho hb
    by_cases hlt : k < xs.length
    · obtain ⟨b, o, rfl, lb, _, ca⟩ := HS.out.num hlt
      have cc := (HB.out.cell (p := ⟨b, o + k, none⟩) lb).trans ca
      have hf : Fits (k : Int) := ⟨by omega, by omega⟩
      have hT := hid (HT.out k)
      have hbs := bit_sel keep k
      have h16 : k < 16 := by omega
      clear ca
      cases hv : bitB keep k with
      | true =>
        rw [hv] at hbs
        have hT2 := hid (show sel (k + 1) (fun i => bitB keep i) xs = sel k (fun i => bitB keep i) xs ++ [at0 xs k] by rw [hT.out, if_pos hv])
        clear hv
        go_wp2_with (at_builtin; refine push1 TI wr #[.int .i64 (at0 xs k)] _ m _ _ HO.out _ _ rfl rfl rfl rfl rfl (by simp [Value.oneCell']) (by omega) (by omega) hz.out ?_; intro v1 w1 hown1 hgr; have hb1 : Below w.heap.size w w1 := below_push HB.out HO.out hgr hz.out (Nat.le_refl _))
        obtain ⟨A1, c1, rfl⟩ := own_form hown1
        clear hgr
        go_wp2
        go_roundg (gk - 1)
        case measure => have := HK.out; omega
        case rel => exact ⟨k + 1, by have := HK.out; omega, by go_num, ⟨A1, m + 1, c1, rfl, by rw [hT2.out, List.map_append]; simpa using hown1⟩, hb1⟩
      | false =>
        rw [hv] at hbs
        have hT2 := hid (show sel (k + 1) (fun i => bitB keep i) xs = sel k (fun i => bitB keep i) xs by rw [hT.out, if_neg (by rw [hv]; decide), List.append_nil])
        clear hv
        go_wp2
        go_roundg (gk - 1)
        case measure => have := HK.out; omega
        case rel => exact ⟨k + 1, by have := HK.out; omega, by go_num, ⟨A', m, c', rfl, by rw [hT2.out]; exact HO.out⟩, HB.out⟩
    · obtain rfl : k = xs.length := by have := HK.out; omega
      have hsub := sel_sub (fun i => bitB keep i) xs
      have hsy := Sl.of_own HO.out
      generalize sel xs.length (fun i => bitB keep i) xs = ys at *
      have hyl := hsy.numlen
      by_cases hm0 : m = 0
      · have d1 : ((m : Int) == 0) = true := by rw [beq_iff_eq]; omega
        have d2 : (m == 0) = true := by rw [beq_iff_eq]; omega
        clear hm0 hsy hyl hsub
        go_wp2_with (go_at_call 21; refine (awake _).mono ?_; rintro e w6 ⟨rfl, b6⟩)
        go_ret
        exact ⟨rfl, below_call HB.out b6 HB.out.size⟩
      have d1 : ((m : Int) == 0) = false := by rw [beq_eq_false_iff_ne]; omega
      have d2 : (m == 0) = false := by rw [beq_eq_false_iff_ne]; omega
      have hne : ys ≠ [] := fun e => hm0 (by rw [← hyl, e]; rfl)
      have CY := hid (HCL.out.part hsub hne)
      have M1 := hid (dimL_sub (p := p) hsub)
      have M2 := hid (askL_mono p _ xs ys rfl hsub hne)
      have M3 := hid (peel_mono HCL.out.p6 HCL.out.inP hsub)
      have HSX := hid (HS.out.below HB.out)
      have HSY := hid hsy
      subst hyl
      have HX := hid fun W (hb : Below wr.heap.size wr W) => lawList A xs.length c xs W (HSX.out.below hb)
      have HY := hid fun W (hb : Below wr.heap.size wr W) => lawList A' ys.length c' ys W (HSY.out.below hb)
      rw [take_min20 rfl (by omega), show min xs.length 20 = xs.length from Nat.min_eq_left (by omega)] at HX
      rw [take_min20 rfl (by omega), show min ys.length 20 = ys.length from Nat.min_eq_left (by omega)] at HY
      have HDX := hid fun A1 c1 W (s : Sl W A1 xs.length c1 (xs.map (Value.int .i64))) => dimPub p A1 xs.length c1 xs W s HCL.out
      have HAX := hid fun A1 c1 W (s : Sl W A1 xs.length c1 (xs.map (Value.int .i64))) => askPub p A1 xs.length c1 xs W s HCL.out
      have HPX := hid fun A1 c1 W (s : Sl W A1 xs.length c1 (xs.map (Value.int .i64))) => peelPub p A1 xs.length c1 xs W s HCL.out
      have HDY := hid fun A1 c1 W (s : Sl W A1 ys.length c1 (ys.map (Value.int .i64))) => dimPub p A1 ys.length c1 ys W s CY.out
      have HAY := hid fun A1 c1 W (s : Sl W A1 ys.length c1 (ys.map (Value.int .i64))) => askPub p A1 ys.length c1 ys W s CY.out
      have HPY := hid fun A1 c1 W (s : Sl W A1 ys.length c1 (ys.map (Value.int .i64))) => peelPub p A1 ys.length c1 ys W s CY.out
      have BX := hid (dim_bits HCL.out)
      have BY := hid (dim_bits CY.out)
      obtain ⟨W0, hW0⟩ : ∃ W0, W0 = wr := ⟨_, rfl⟩
      subst hW0
      clear hm0 hsy hsub hne HSX HSY HO hz HC
      go_wp2
      clear d1 d2
      go_loopg [50] 2 (fun gk i wr => ∃ k : Nat, gk + k = 2 ∧ i = .int .i64 k ∧ Blk wr W0.heap.size 64 (arr 3 (numX p xs ys k)) ∧ Blk wr (W0.heap.size + 1) 64 (arr 3 (numY p xs k)) ∧ Blk wr (W0.heap.size + 2) 22 #[.slice A xs.length c, .slice A' ys.length c'] ∧ Below W0.heap.size W0 wr)
      case atStart =>
        refine ⟨0, rfl, rfl, ((Blk.new_at _ _ _ rfl).alloc _).alloc _, (Blk.new_at _ _ _ (by simp)).alloc _, ?_, ?_⟩
        · exact Blk.new_at _ _ _ (by simp)
        · exact (((Below.refl _ _).alloc (Nat.le_refl _) _).alloc (by simp) _).alloc (by simp; omega) _
      case round =>
        obtain ⟨k, hk, rfl, b0, b1, b2, hb⟩ := hrel
        have hj3 : k = 0 ∨ k = 1 ∨ k = 2 := by omega
        rcases hj3 with rfl | rfl | rfl
        · have y0 := b0.cell 0; have y1 := b0.cell 1; have y2 := b0.cell 2
          rw [arr_get (by decide)] at y0 y1 y2
          have s0 := b2.cell 0
          simp at s0
          have HB0 := hid b0; have HB1 := hid b1; have HB2 := hid b2; have HBW := hid hb
          have lk := hid hk
          have q0 : 0 ≤ dimL p xs := (BX.out).1
          have q1 : dimL p xs ≤ 4 := (BX.out).2.1
          have q2 : p2 (dimL p xs) ≤ xs.length := (BX.out).2.2
          have d0 : decide (dimL p xs < 0) = false := decide_eq_false (by omega)
          have d1 : decide (5 < dimL p xs) = false := decide_eq_false (by omega)
          have d2 : decide ((xs.length : Int) < p2 (dimL p xs)) = false := decide_eq_false (by omega)
          have df : Fits (dimL p xs) := ⟨q0, by omega⟩
          clear b0 b1 b2 hb hk q0 q1 q2 y0 y1 y2
          go_wp2_with fail
          refine (HX.out _ HBW.out).mono ?_; rintro e w2 ⟨A2, c2, rfl, o2, p2x⟩
          go_wp2_with fail
          refine (HDX.out _ _ _ (Sl.of_own o2)).mono ?_; rintro e w3 ⟨rfl, p3⟩
          have B3 := hid ((p2x.trans (p3.mono p2x.size)))
          have W3 := hid (below_call HBW.out B3.out HBW.out.size)
          clear o2 p2x p3
          go_wp2_with fail
          refine (HX.out _ W3.out).mono ?_; rintro e w4 ⟨A4, c4, rfl, o4, p4⟩
          go_wp2_with fail
          refine (HAX.out _ _ _ (Sl.of_own o4)).mono ?_; rintro e w5 ⟨rfl, p5⟩
          have B5 := hid (B3.out.trans ((p4.trans (p5.mono p4.size)).mono B3.out.size))
          have W5 := hid (below_call HBW.out B5.out HBW.out.size)
          clear o4 p4 p5
          go_wp2_with fail
          refine (HX.out _ W5.out).mono ?_; rintro e w6 ⟨A6, c6, rfl, o6, p6⟩
          go_wp2_with fail
          refine (HPX.out _ _ _ (Sl.of_own o6)).mono ?_; rintro e w7 ⟨rfl, p7⟩
          have B7 := hid (B5.out.trans ((p6.trans (p7.mono p6.size)).mono B5.out.size))
          have W7 := hid (below_call HBW.out B7.out HBW.out.size)
          clear o6 p6 p7 B3 W3 B5 W5
          have b0 := HB0.out.keep B7.out
          have b1 := HB1.out.keep B7.out
          have b2 := HB2.out.keep B7.out
          have y0 := b0.cell 0; have y1 := b0.cell 1; have y2 := b0.cell 2
          have z0 := b1.cell 0; have z1 := b1.cell 1; have z2 := b1.cell 2
          rw [arr_get (by decide)] at y0 y1 y2 z0 z1 z2
          have g0 := b0.free 0; have g1 := b0.free 1; have g2 := b0.free 2
          have h0 := b1.free 0; have h1 := b1.free 1; have h2 := b1.free 2
          have k0 := hid b0; have k1 := hid b1; have k2 := hid b2
          clear b0 b1 b2
          go_wp2
          go_roundg 1
          case measure => have := lk.out; omega
          case rel =>
            refine ⟨1, rfl, rfl, ?_, ?_, ?_, ?_⟩
            · have hb := ((((((k0.out.far (p := ⟨W0.heap.size + 1, 0, none⟩) (by simp) (.int .i64 (numX p xs ys 0 0))).far (p := ⟨W0.heap.size + 1, 1, none⟩) (by simp) (.int .i64 (numX p xs ys 0 1))).far (p := ⟨W0.heap.size + 1, 2, none⟩) (by simp) (.int .i64 (numX p xs ys 0 2))).set 0 (.int .i64 (dimL p xs))).set 1 (.int .i64 (askL p xs))).set 2 (.int .i64 (peelL p xs)))
              have e : (((arr 3 (numX p xs ys 0)).setIfInBounds 0 (.int .i64 (dimL p xs))).setIfInBounds 1 (.int .i64 (askL p xs))).setIfInBounds 2 (.int .i64 (peelL p xs)) = arr 3 (numX p xs ys 1) := rfl
              rw [e] at hb
              exact hb
            · have hb := ((((((k1.out.set 0 (.int .i64 (numX p xs ys 0 0))).set 1 (.int .i64 (numX p xs ys 0 1))).set 2 (.int .i64 (numX p xs ys 0 2))).far (p := ⟨W0.heap.size, 0, none⟩) (by simp) (.int .i64 (dimL p xs))).far (p := ⟨W0.heap.size, 1, none⟩) (by simp) (.int .i64 (askL p xs))).far (p := ⟨W0.heap.size, 2, none⟩) (by simp) (.int .i64 (peelL p xs)))
              have e : (((arr 3 (numY p xs 0)).setIfInBounds 0 (.int .i64 (numX p xs ys 0 0))).setIfInBounds 1 (.int .i64 (numX p xs ys 0 1))).setIfInBounds 2 (.int .i64 (numX p xs ys 0 2)) = arr 3 (numY p xs 1) := rfl
              rw [e] at hb
              exact hb
            · exact (((((k2.out.far (p := ⟨W0.heap.size + 1, 0, none⟩) (by simp) _).far (p := ⟨W0.heap.size + 1, 1, none⟩) (by simp) _).far (p := ⟨W0.heap.size + 1, 2, none⟩) (by simp) _).far (p := ⟨W0.heap.size, 0, none⟩) (by simp) _).far (p := ⟨W0.heap.size, 1, none⟩) (by simp) _).far (p := ⟨W0.heap.size, 2, none⟩) (by simp) _
            · exact (((((W7.out.setCell (p := ⟨W0.heap.size + 1, 0, none⟩) (by simp) _).setCell (p := ⟨W0.heap.size + 1, 1, none⟩) (by simp) _).setCell (p := ⟨W0.heap.size + 1, 2, none⟩) (by simp) _).setCell (p := ⟨W0.heap.size, 0, none⟩) (by simp) _).setCell (p := ⟨W0.heap.size, 1, none⟩) (by simp) _).setCell (p := ⟨W0.heap.size, 2, none⟩) (by simp) _
        · have y0 := b0.cell 0; have y1 := b0.cell 1; have y2 := b0.cell 2
          rw [arr_get (by decide)] at y0 y1 y2
          have s1 := b2.cell 1
          simp at s1
          have HB0 := hid b0; have HB1 := hid b1; have HB2 := hid b2; have HBW := hid hb
          have lk := hid hk
          have q0 : 0 ≤ dimL p ys := (BY.out).1
          have q1 : dimL p ys ≤ 4 := (BY.out).2.1
          have q2 : p2 (dimL p ys) ≤ ys.length := (BY.out).2.2
          have d0 : decide (dimL p ys < 0) = false := decide_eq_false (by omega)
          have d1 : decide (5 < dimL p ys) = false := decide_eq_false (by omega)
          have d2 : decide ((ys.length : Int) < p2 (dimL p ys)) = false := decide_eq_false (by omega)
          have df : Fits (dimL p ys) := ⟨q0, by omega⟩
          clear b0 b1 b2 hb hk q0 q1 q2 y0 y1 y2
          go_wp2_with fail
          refine (HY.out _ HBW.out).mono ?_; rintro e w2 ⟨A2, c2, rfl, o2, p2x⟩
          go_wp2_with fail
          refine (HDY.out _ _ _ (Sl.of_own o2)).mono ?_; rintro e w3 ⟨rfl, p3⟩
          have B3 := hid ((p2x.trans (p3.mono p2x.size)))
          have W3 := hid (below_call HBW.out B3.out HBW.out.size)
          clear o2 p2x p3
          go_wp2_with fail
          refine (HY.out _ W3.out).mono ?_; rintro e w4 ⟨A4, c4, rfl, o4, p4⟩
          go_wp2_with fail
          refine (HAY.out _ _ _ (Sl.of_own o4)).mono ?_; rintro e w5 ⟨rfl, p5⟩
          have B5 := hid (B3.out.trans ((p4.trans (p5.mono p4.size)).mono B3.out.size))
          have W5 := hid (below_call HBW.out B5.out HBW.out.size)
          clear o4 p4 p5
          go_wp2_with fail
          refine (HY.out _ W5.out).mono ?_; rintro e w6 ⟨A6, c6, rfl, o6, p6⟩
          go_wp2_with fail
          refine (HPY.out _ _ _ (Sl.of_own o6)).mono ?_; rintro e w7 ⟨rfl, p7⟩
          have B7 := hid (B5.out.trans ((p6.trans (p7.mono p6.size)).mono B5.out.size))
          have W7 := hid (below_call HBW.out B7.out HBW.out.size)
          clear o6 p6 p7 B3 W3 B5 W5
          have b0 := HB0.out.keep B7.out
          have b1 := HB1.out.keep B7.out
          have b2 := HB2.out.keep B7.out
          have y0 := b0.cell 0; have y1 := b0.cell 1; have y2 := b0.cell 2
          have z0 := b1.cell 0; have z1 := b1.cell 1; have z2 := b1.cell 2
          rw [arr_get (by decide)] at y0 y1 y2 z0 z1 z2
          have g0 := b0.free 0; have g1 := b0.free 1; have g2 := b0.free 2
          have h0 := b1.free 0; have h1 := b1.free 1; have h2 := b1.free 2
          have k0 := hid b0; have k1 := hid b1; have k2 := hid b2
          clear b0 b1 b2
          go_wp2
          go_roundg 0
          case measure => have := lk.out; omega
          case rel =>
            refine ⟨2, rfl, rfl, ?_, ?_, ?_, ?_⟩
            · have hb := ((((((k0.out.far (p := ⟨W0.heap.size + 1, 0, none⟩) (by simp) (.int .i64 (numX p xs ys 1 0))).far (p := ⟨W0.heap.size + 1, 1, none⟩) (by simp) (.int .i64 (numX p xs ys 1 1))).far (p := ⟨W0.heap.size + 1, 2, none⟩) (by simp) (.int .i64 (numX p xs ys 1 2))).set 0 (.int .i64 (dimL p ys))).set 1 (.int .i64 (askL p ys))).set 2 (.int .i64 (peelL p ys)))
              have e : (((arr 3 (numX p xs ys 1)).setIfInBounds 0 (.int .i64 (dimL p ys))).setIfInBounds 1 (.int .i64 (askL p ys))).setIfInBounds 2 (.int .i64 (peelL p ys)) = arr 3 (numX p xs ys 2) := rfl
              rw [e] at hb
              exact hb
            · have hb := ((((((k1.out.set 0 (.int .i64 (numX p xs ys 1 0))).set 1 (.int .i64 (numX p xs ys 1 1))).set 2 (.int .i64 (numX p xs ys 1 2))).far (p := ⟨W0.heap.size, 0, none⟩) (by simp) (.int .i64 (dimL p ys))).far (p := ⟨W0.heap.size, 1, none⟩) (by simp) (.int .i64 (askL p ys))).far (p := ⟨W0.heap.size, 2, none⟩) (by simp) (.int .i64 (peelL p ys)))
              have e : (((arr 3 (numY p xs 1)).setIfInBounds 0 (.int .i64 (numX p xs ys 1 0))).setIfInBounds 1 (.int .i64 (numX p xs ys 1 1))).setIfInBounds 2 (.int .i64 (numX p xs ys 1 2)) = arr 3 (numY p xs 2) := rfl
              rw [e] at hb
              exact hb
            · exact (((((k2.out.far (p := ⟨W0.heap.size + 1, 0, none⟩) (by simp) _).far (p := ⟨W0.heap.size + 1, 1, none⟩) (by simp) _).far (p := ⟨W0.heap.size + 1, 2, none⟩) (by simp) _).far (p := ⟨W0.heap.size, 0, none⟩) (by simp) _).far (p := ⟨W0.heap.size, 1, none⟩) (by simp) _).far (p := ⟨W0.heap.size, 2, none⟩) (by simp) _
            · exact (((((W7.out.setCell (p := ⟨W0.heap.size + 1, 0, none⟩) (by simp) _).setCell (p := ⟨W0.heap.size + 1, 1, none⟩) (by simp) _).setCell (p := ⟨W0.heap.size + 1, 2, none⟩) (by simp) _).setCell (p := ⟨W0.heap.size, 0, none⟩) (by simp) _).setCell (p := ⟨W0.heap.size, 1, none⟩) (by simp) _).setCell (p := ⟨W0.heap.size, 2, none⟩) (by simp) _
        · have y0 := b0.cell 0; have y1 := b0.cell 1; have y2 := b0.cell 2
          have z0 := b1.cell 0; have z1 := b1.cell 1; have z2 := b1.cell 2
          rw [arr_get (by decide)] at y0 y1 y2 z0 z1 z2
          have e0 : numX p xs ys 2 0 = dimL p ys := rfl
          have e1 : numX p xs ys 2 1 = askL p ys := rfl
          have e2 : numX p xs ys 2 2 = peelL p ys := rfl
          have f0 : numY p xs 2 0 = dimL p xs := rfl
          have f1 : numY p xs 2 1 = askL p xs := rfl
          have f2 : numY p xs 2 2 = peelL p xs := rfl
          rw [e0] at y0; rw [e1] at y1; rw [e2] at y2
          rw [f0] at z0; rw [f1] at z1; rw [f2] at z2
          have m1 : decide (dimL p ys ≤ dimL p xs) = true := decide_eq_true M1.out
          have m2 : decide (askL p ys ≤ askL p xs) = true := decide_eq_true M2.out
          have m3 : decide ((peelL p ys : Int) ≤ (peelL p xs : Int)) = true := decide_eq_true (by have := M3.out; omega)
          have m4 : decide (peelL p ys ≤ peelL p xs) = true := decide_eq_true M3.out
          clear b0 b1 b2 e0 e1 e2 f0 f1 f2 hk
          have HBB := hid (below_call HB.out hb HB.out.size)
          clear hb
          go_wp2_with (go_at_call 21; refine (awake _).mono ?_; rintro e w6 ⟨rfl, b6⟩)
          go_ret
          exact ⟨rfl, below_call HBB.out b6 HBB.out.size⟩

theorem learnParts_walk (w : World) (p : Int) (_ : (Lit.int .i64 p).wf = true) (A : Option Addr) (n c : Nat) (xs : List Int) (hs : Sl w A n c (xs.map (Value.int .i64))) (_ : ∀ x ∈ xs, -9223372036854775808 ≤ x ∧ x ≤ 9223372036854775807) (x : Int) (_ : (Lit.int .i64 x).wf = true) :
    Calls Try.prog 10 #[.int .i64 p, .slice A n c, .int .i64 x] w fun e w' => e = .returned (.bool true) ∧ Below w.heap.size w w' := by
  by_cases h : Cls p xs
  · obtain ⟨q, rfl⟩ := Int.eq_ofNat_of_zero_le (show 0 ≤ p by have := h.p1; omega)
    exact learnParts_good w q A n c xs hs x h
  · exact learnParts_bad w p A n c xs hs x h
end Go.Proofs.Ytpebglilphgamaa

