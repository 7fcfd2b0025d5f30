/- Walk of LearnTurned. No condition. -/
import Derived.Test.YtpebglilphgamaaWalkTurns
import Derived.Test.YtpebglilphgamaaWalkParts
import Derived.Test.YtpebglilphgamaaWalkFools
import Derived.Test.YtpebglilphgamaaWorst2
import Derived.Laws.StructEq
namespace Go.Proofs.Ytpebglilphgamaa
open Go.RowKit

theorem turnL_cls {p s : Nat} {xs : List Int} (h : Cls p xs) (hs : s < 2 ^ p) : Cls p (turnL s xs) := by
  have T := turnL_turned s xs
  exact cls_pw (by have := h.p1; omega) (by have := h.p5; omega) (fun e => h.ne (T.nil.1 e)) (by have := T.len; have := h.n16; omega) (T.inP hs h.inP) (turnL_lt (fun c hc => (h.inP c hc).1) h.pair)
theorem turn_back {p s : Nat} {xs : List Int} (h : Cls p xs) (hs : s < 2 ^ p) : turnL s (turnL s xs) = xs := by
  have T := turnL_turned s xs
  have hy := turnL_cls h hs
  apply rising_eq _ _ (turnL_lt (fun c hc => (hy.inP c hc).1) hy.pair) h.pair
  intro d
  rw [(turnL_turned s (turnL s xs)).mem, (T.back h.inP).mem]
/-- Six numbers. -/
def six (v0 v1 v2 v3 v4 v5 : Int) (i : Nat) : Int := if i = 0 then v0 else if i = 1 then v1 else if i = 2 then v2 else if i = 3 then v3 else if i = 4 then v4 else v5
def onX (f : Nat → Int) (k i : Nat) : Int := if k = 0 then 0 else f i
def onY (f : Nat → Int) (k i : Nat) : Int := if k ≤ 1 then 0 else f i
theorem eq70 (a b c d e f : Int) (w : World) : (Op.equalIn 10000 70 (.agg #[.int .i64 a, .int .i64 b, .int .i64 c, .int .i64 d, .int .i64 e, .int .i64 f]) (.agg #[.int .i64 a, .int .i64 b, .int .i64 c, .int .i64 d, .int .i64 e, .int .i64 f])).run Try.prog w = .ok true w := by
  have u3 := Try.underlying3
  have a3 := Try.isAgg3
  have z3 := Try.sizeOf3
  rw [show (10000 : Nat) = 9999 + 1 from rfl, Op.equalIn]
  simp only [Sem.run_bind, run_underlying Try.underlying70, Result.andThen_ok]
  simp only [Std.Legacy.Range.forIn_eq_forIn_range', Std.Legacy.Range.size, Nat.sub_zero, Nat.add_sub_cancel, Nat.div_one, List.range'_succ, List.range'_zero, List.forIn_cons, List.forIn_nil]
  go_simp
theorem xor_0 {c : Int} (h : NN c 0) : Op.intBits .xor .i64 c 0 = pure (.int .i64 c) := by
  have := xor_v h
  have e : xorI 0 c = c := by unfold xorI; rw [Nat.xor_zero]; have := h.1; omega
  rw [e] at this
  exact this

attribute [local go_sem ↓] shl_p2 xor_v xor_0

set_option maxRecDepth 100000 in
set_option maxHeartbeats 1000000 in
theorem learnTurned_bad (w : World) (p : Int) (A : Option Addr) (n c : Nat) (xs : List Int) (s : Int) (hs : Sl w A n c (xs.map (Value.int .i64))) (con : Int) (h : ¬ (Cls p xs ∧ 0 ≤ s ∧ s < p2 p)) :
    Calls Try.prog 15 #[.int .i64 p, .slice A n c, .int .i64 s, .int .i64 con] w fun e w' => e = .returned (.bool true) ∧ Below w.heap.size w w' := by
  have hn := hs.numlen
  have HL := hid fun W (hb : Below w.heap.size w W) => lawList A n c xs W (hs.below hb)
  have hB : ¬ (Cls p (xs.take (min n 20)) ∧ 0 ≤ s ∧ s < p2 p) := fun H => h ⟨(cls_take hn).1 H.1, H.2⟩
  have HG := hid fun A' c' W (s1 : Sl W A' (min n 20) c' ((xs.take (min n 20)).map (Value.int .i64))) => turnBad p A' (min n 20) c' _ s W s1 hB
  clear hs hB h hn
  go_enter Try.func15, Try.ntmps15
  go_wp2_with fail
  refine (HL.out _ (Below.refl _ _)).mono ?_; rintro e w1 ⟨A1, c1, rfl, o1, b1⟩
  have s1 := Sl.of_own o1
  go_wp2_with fail
  refine (HG.out _ _ _ s1).mono ?_; rintro e w2 ⟨rfl, b2⟩
  have b12 : Below w.heap.size w w2 := below_call b1 b2 b1.size
  clear s1 o1 b1 b2
  go_wp2_with (go_at_call 21; refine (awake _).mono ?_; rintro e w6 ⟨rfl, b6⟩)
  go_ret
  exact ⟨rfl, below_call b12 b6 b12.size⟩

set_option maxRecDepth 100000 in
set_option maxHeartbeats 8000000 in
theorem learnTurned_good (w : World) (p : Nat) (A : Option Addr) (n c : Nat) (xs : List Int) (s : Nat) (hs : Sl w A n c (xs.map (Value.int .i64))) (con : Int) (h : Cls p xs) (hsp : s < 2 ^ p) :
    Calls Try.prog 15 #[.int .i64 p, .slice A n c, .int .i64 s, .int .i64 con] w fun e w' => e = .returned (.bool true) ∧ Below w.heap.size w w' := by
  have hn := hs.numlen
  have h1 := take_min20 hn (by have := h.n16; omega)
  have h3 : min n 20 = n := Nat.min_eq_left (by have := h.n16; omega)
  have hn16 : n ≤ 16 := by have := h.n16; omega
  have hn0 : 0 < n := by have := h.n1; omega
  have hp : p ≤ 5 := by have := h.p5; omega
  have h32 := Nat.pow_le_pow_right (show 0 < 2 by decide) hp
  have HX := hid fun W (hb : Below w.heap.size w W) => lawList A n c xs W (hs.below hb)
  rw [h1, h3] at HX
  have T := turnL_turned s xs
  have CY := turnL_cls h hsp
  have hback := turn_back h hsp
  have HTX := hid fun A' c' W (s1 : Sl W A' n c' (xs.map (Value.int .i64))) => turnOk p A' n c' xs s W s1 h hsp
  have HTY := hid fun A' c' W (s1 : Sl W A' n c' ((turnL s xs).map (Value.int .i64))) => turnOk p A' n c' (turnL s xs) s W s1 CY hsp
  have e1 : sortI (xs.map (xorI s)) = turnL s xs := rfl
  have e2 : sortI ((turnL s xs).map (xorI s)) = xs := hback
  rw [e1] at HTX
  rw [e2] at HTY
  generalize turnL s xs = ys at *
  have hny : ys.length = n := by have := T.len; omega
  have HC := hid fun W (hb : Below w.heap.size w W) => refClassOk p A n c xs W (hs.below hb) h
  have FP := h.fits
  have g1 : decide ((s : Int) < 0) = false := decide_eq_false (by omega)
  have g2 : decide (p2 (p : Int) ≤ (s : Int)) = false := decide_eq_false (by rw [p2_nat]; omega)
  obtain ⟨ci, hci, hcn⟩ := pick_idx con hn0 (by omega)
  have hs32 : s < 32 := by omega
  have hcm : at0 xs ci ∈ xs := at0_mem' (by omega)
  have hcy : xorI s (at0 xs ci) ∈ ys := T.mem.2 ⟨_, hcm, rfl⟩
  have hcp := h.inP _ hcm
  have hcb : at0 xs ci < 32 := by
    have e32 : (2 : Int) ^ p = ((2 ^ p : Nat) : Int) := by simp
    omega
  have N0 : NN (at0 xs ci) 0 := ⟨hcp.1, by omega, by omega⟩
  have N1 : NN (at0 xs ci) s := ⟨hcp.1, by omega, by omega⟩
  have HDX := hid fun A1 c1 W (s1 : Sl W A1 n c1 (xs.map (Value.int .i64))) => dimPub p A1 n c1 xs W s1 h
  have HDY := hid fun A1 c1 W (s1 : Sl W A1 n c1 (ys.map (Value.int .i64))) => dimPub p A1 n c1 ys W s1 CY
  have HEX := hid fun A1 c1 W (s1 : Sl W A1 n c1 (xs.map (Value.int .i64))) => teachPub p A1 n c1 xs W s1 h
  have HEY := hid fun A1 c1 W (s1 : Sl W A1 n c1 (ys.map (Value.int .i64))) => teachPub p A1 n c1 ys W s1 CY
  have HAX := hid fun A1 c1 W (s1 : Sl W A1 n c1 (xs.map (Value.int .i64))) => askPub p A1 n c1 xs W s1 h
  have HAY := hid fun A1 c1 W (s1 : Sl W A1 n c1 (ys.map (Value.int .i64))) => askPub p A1 n c1 ys W s1 CY
  have HPX := hid fun A1 c1 W (s1 : Sl W A1 n c1 (xs.map (Value.int .i64))) => peelPub p A1 n c1 xs W s1 h
  have HPY := hid fun A1 c1 W (s1 : Sl W A1 n c1 (ys.map (Value.int .i64))) => peelPub p A1 n c1 ys W s1 CY
  have HWX := hid fun A1 c1 W (s1 : Sl W A1 n c1 (xs.map (Value.int .i64))) => worstCPub p A1 n c1 xs W s1 h
  have HWY := hid fun A1 c1 W (s1 : Sl W A1 n c1 (ys.map (Value.int .i64))) => worstCPub p A1 n c1 ys W s1 CY
  have HKX := hid fun A1 c1 W (s1 : Sl W A1 n c1 (xs.map (Value.int .i64))) => keyPub p A1 n c1 xs _ hcm W s1 h
  have HKY := hid fun A1 c1 W (s1 : Sl W A1 n c1 (ys.map (Value.int .i64))) => keyPub p A1 n c1 ys _ hcy W s1 CY
  rw [turned_dim _ xs ys rfl h.inP T] at HDY
  rw [turned_teach h.inP T] at HEY
  rw [turned_ask _ xs ys rfl h.inP T] at HAY
  rw [turned_peel h.inP T] at HPY
  rw [careful_dim CY.ne, turned_dim _ xs ys rfl h.inP T] at HWY
  rw [careful_dim h.ne] at HWX
  rw [turned_key h.inP T hcp.1] at HKY
  generalize hv4 : dimL p xs = v4 at HWX HWY
  rw [hv4] at HDX HDY
  obtain ⟨v0, hv0⟩ : ∃ v0, v0 = v4 := ⟨_, rfl⟩
  rw [← hv0] at HDX HDY
  generalize teachL p xs = v1 at HEX HEY
  generalize askL p xs = v2 at HAX HAY
  generalize ((peelL p xs : Nat) : Int) = v3 at HPX HPY
  generalize ((keyL p xs (at0 xs ci) : Nat) : Int) = v5 at HKX HKY
  have HS := hid hs
  have hun : IntKind.u64.wrap (n : Int) = (n : Int) := by rw [IntKind.wrap_u64]; omega
  have HNY := hid hny
  clear hv0 hv4 e1 e2 hback T CY h hs hn h1 h3 hcm hcy hcb hp h32 hny hsp
  go_enter Try.func15, Try.ntmps15
  go_wp2_with fail
  refine (HX.out _ (Below.refl _ _)).mono ?_; rintro e w1 ⟨A1, c1, rfl, o1, b1⟩
  have s1 := Sl.of_own o1
  go_wp2_with fail
  refine (HTX.out _ _ _ s1).mono ?_; rintro e w2 ⟨A2, c2, rfl, o2, b2⟩
  have b12 : Below w.heap.size w w2 := below_call b1 b2 b1.size
  have s2 := Sl.of_own o2
  clear s1 o1 b1 b2 o2
  go_wp2_with fail
  refine (HC.out _ b12).mono ?_; rintro e w3 ⟨rfl, rfl⟩
  go_wp2_with fail
  refine (cloneInts A2 n c2 ys (by omega) _ s2).mono ?_; rintro e w4 ⟨A4, c4, rfl, o4, b4⟩
  have b14 : Below w.heap.size w w4 := below_call b12 b4 b12.size
  have s4 := Sl.of_own o4
  have s24 := s2.below b4
  clear o4 b4 s2 b12
  go_wp2_with fail
  refine (HTY.out _ _ _ s4).mono ?_; rintro e w5 ⟨A5, c5, rfl, o5, b5⟩
  have b15 : Below w.heap.size w w5 := below_call b14 b5 b14.size
  have s5 := Sl.of_own o5
  have s25 := s24.below b5
  have HQ := hid (equalSame A5 A n c5 n c xs w5 s5 (HS.out.below b15))
  clear o5 b5 b14 s4 s24 s5
  go_wp2_with fail
  refine (HQ.out).mono ?_; rintro e wr ⟨rfl, b6⟩
  have HB := hid (below_call b15 b6 b15.size)
  have HSY := hid (s25.below b6)
  clear b6 b15 s25 HQ
  obtain ⟨b, o, rfl, lb, _, ca⟩ := HS.out.num hcn
  have cc := (HB.out.cell (p := ⟨b, o + ci, none⟩) lb).trans ca
  have HX2 := hid fun W (hb : Below wr.heap.size wr W) => HX.out W (below_call HB.out hb HB.out.size)
  have HY2 := hid fun W (hb : Below wr.heap.size wr W) => lawList A2 n c2 ys W (HSY.out.below hb)
  rw [take_min20 HNY.out (by omega), show min n 20 = n from Nat.min_eq_left (by omega)] at HY2
  obtain ⟨W0, hW0⟩ : ∃ W0, W0 = wr := ⟨_, rfl⟩
  subst hW0
  clear HX HTX HTY HC
  go_wp2
  clear hci hun cc ca lb
  go_loopg [97] 2 (fun gk i wr => ∃ k : Nat, gk + k = 2 ∧ i = .int .i64 k ∧ Blk wr W0.heap.size 70 (arr 6 (onX (six v0 v1 v2 v3 v4 v5) k)) ∧ Blk wr (W0.heap.size + 1) 70 (arr 6 (onY (six v0 v1 v2 v3 v4 v5) k)) ∧ Blk wr (W0.heap.size + 2) 22 #[.slice (some ⟨b, o, none⟩) n c, .slice A2 n c2] ∧ Below W0.heap.size W0 wr)
  case atStart =>
    refine ⟨0, rfl, rfl, ((Blk.new_at _ _ _ rfl).alloc _).alloc _, (Blk.new_at _ _ _ (by simp)).alloc _, ?_, ?_⟩
    · exact Blk.new_at _ _ _ (by simp)
    · exact (((Below.refl _ _).alloc (Nat.le_refl _) _).alloc (by simp) _).alloc (by simp; omega) _
  case round =>
    obtain ⟨k, hk, rfl, b0, b1, b2, hb⟩ := hrel
    have hj3 : k = 0 ∨ k = 1 ∨ k = 2 := by omega
    rcases hj3 with rfl | rfl | rfl
    · have s0 := b2.cell 0
      simp at s0
      have HB0 := hid b0; have HB1 := hid b1; have HB2 := hid b2; have HBW := hid hb
      have lk := hid hk
      clear b0 b1 b2 hb hk
      go_wp2_with fail
      refine (HX2.out _ HBW.out).mono ?_; rintro e w2 ⟨A7, c7, rfl, o7, p7⟩
      go_wp2_with fail
      refine (HDX.out _ _ _ (Sl.of_own o7)).mono ?_; rintro e w3 ⟨rfl, p8⟩
      have B1 := hid ((p7.trans (p8.mono p7.size)))
      have W1 := hid (below_call HBW.out B1.out HBW.out.size)
      clear o7 p7 p8
      go_wp2_with fail
      refine (HX2.out _ W1.out).mono ?_; rintro e w2 ⟨A7, c7, rfl, o7, p7⟩
      go_wp2_with fail
      refine (HEX.out _ _ _ (Sl.of_own o7)).mono ?_; rintro e w3 ⟨rfl, p8⟩
      have B2 := hid (B1.out.trans ((p7.trans (p8.mono p7.size)).mono B1.out.size))
      have W2 := hid (below_call HBW.out B2.out HBW.out.size)
      clear o7 p7 p8 B1 W1
      go_wp2_with fail
      refine (HX2.out _ W2.out).mono ?_; rintro e w2 ⟨A7, c7, rfl, o7, p7⟩
      go_wp2_with fail
      refine (HAX.out _ _ _ (Sl.of_own o7)).mono ?_; rintro e w3 ⟨rfl, p8⟩
      have B3 := hid (B2.out.trans ((p7.trans (p8.mono p7.size)).mono B2.out.size))
      have W3 := hid (below_call HBW.out B3.out HBW.out.size)
      clear o7 p7 p8 B2 W2
      go_wp2_with fail
      refine (HX2.out _ W3.out).mono ?_; rintro e w2 ⟨A7, c7, rfl, o7, p7⟩
      go_wp2_with fail
      refine (HPX.out _ _ _ (Sl.of_own o7)).mono ?_; rintro e w3 ⟨rfl, p8⟩
      have B4 := hid (B3.out.trans ((p7.trans (p8.mono p7.size)).mono B3.out.size))
      have W4 := hid (below_call HBW.out B4.out HBW.out.size)
      clear o7 p7 p8 B3 W3
      go_wp2_with fail
      refine (HX2.out _ W4.out).mono ?_; rintro e w2 ⟨A7, c7, rfl, o7, p7⟩
      go_wp2_with fail
      refine (HWX.out _ _ _ (Sl.of_own o7)).mono ?_; rintro e w3 ⟨rfl, p8⟩
      have B5 := hid (B4.out.trans ((p7.trans (p8.mono p7.size)).mono B4.out.size))
      have W5 := hid (below_call HBW.out B5.out HBW.out.size)
      clear o7 p7 p8 B4 W4
      go_wp2_with fail
      refine (HX2.out _ W5.out).mono ?_; rintro e w2 ⟨A7, c7, rfl, o7, p7⟩
      go_wp2_with fail
      refine (HKX.out _ _ _ (Sl.of_own o7)).mono ?_; rintro e w3 ⟨rfl, p8⟩
      have B6 := hid (B5.out.trans ((p7.trans (p8.mono p7.size)).mono B5.out.size))
      have W6 := hid (below_call HBW.out B6.out HBW.out.size)
      clear o7 p7 p8 B5 W5
      have b0 := HB0.out.keep B6.out
      have b1 := HB1.out.keep B6.out
      have b2 := HB2.out.keep B6.out
      have y0 := b0.cell 0; have y1 := b0.cell 1; have y2 := b0.cell 2; have y3 := b0.cell 3; have y4 := b0.cell 4; have y5 := b0.cell 5
      have z0 := b1.cell 0; have z1 := b1.cell 1; have z2 := b1.cell 2; have z3 := b1.cell 3; have z4 := b1.cell 4; have z5 := b1.cell 5
      rw [arr_get (by decide)] at y0 y1 y2 y3 y4 y5 z0 z1 z2 z3 z4 z5
      have g0 := b0.free 0; have g1 := b0.free 1; have g2 := b0.free 2; have g3 := b0.free 3; have g4 := b0.free 4; have g5 := b0.free 5
      have h0 := b1.free 0; have h1 := b1.free 1; have h2 := b1.free 2; have h3 := b1.free 3; have h4 := b1.free 4; have h5 := b1.free 5
      have k0 := hid b0; have k1 := hid b1; have k2 := hid b2
      clear b0 b1 b2
      go_wp2
      go_roundg 1
      case measure => have := lk.out; omega
      case rel =>
        refine ⟨1, rfl, rfl, ?_, ?_, ?_, ?_⟩
        · have hb := ((((((((((((k0.out.far (p := ⟨W0.heap.size + 1, 0, none⟩) (by simp) (.int .i64 (onX (six v0 v1 v2 v3 v4 v5) 0 0))).far (p := ⟨W0.heap.size + 1, 1, none⟩) (by simp) (.int .i64 (onX (six v0 v1 v2 v3 v4 v5) 0 1))).far (p := ⟨W0.heap.size + 1, 2, none⟩) (by simp) (.int .i64 (onX (six v0 v1 v2 v3 v4 v5) 0 2))).far (p := ⟨W0.heap.size + 1, 3, none⟩) (by simp) (.int .i64 (onX (six v0 v1 v2 v3 v4 v5) 0 3))).far (p := ⟨W0.heap.size + 1, 4, none⟩) (by simp) (.int .i64 (onX (six v0 v1 v2 v3 v4 v5) 0 4))).far (p := ⟨W0.heap.size + 1, 5, none⟩) (by simp) (.int .i64 (onX (six v0 v1 v2 v3 v4 v5) 0 5))).set 0 (.int .i64 v0)).set 1 (.int .i64 v1)).set 2 (.int .i64 v2)).set 3 (.int .i64 v3)).set 4 (.int .i64 v4)).set 5 (.int .i64 v5))
          have e : (((((((arr 6 (onX (six v0 v1 v2 v3 v4 v5) 0)).setIfInBounds 0 (.int .i64 v0)).setIfInBounds 1 (.int .i64 v1)).setIfInBounds 2 (.int .i64 v2)).setIfInBounds 3 (.int .i64 v3)).setIfInBounds 4 (.int .i64 v4)).setIfInBounds 5 (.int .i64 v5)) = arr 6 (onX (six v0 v1 v2 v3 v4 v5) 1) := rfl
          rw [e] at hb
          exact hb
        · have hb := ((((((((((((k1.out.set 0 (.int .i64 (onX (six v0 v1 v2 v3 v4 v5) 0 0))).set 1 (.int .i64 (onX (six v0 v1 v2 v3 v4 v5) 0 1))).set 2 (.int .i64 (onX (six v0 v1 v2 v3 v4 v5) 0 2))).set 3 (.int .i64 (onX (six v0 v1 v2 v3 v4 v5) 0 3))).set 4 (.int .i64 (onX (six v0 v1 v2 v3 v4 v5) 0 4))).set 5 (.int .i64 (onX (six v0 v1 v2 v3 v4 v5) 0 5))).far (p := ⟨W0.heap.size, 0, none⟩) (by simp) (.int .i64 v0)).far (p := ⟨W0.heap.size, 1, none⟩) (by simp) (.int .i64 v1)).far (p := ⟨W0.heap.size, 2, none⟩) (by simp) (.int .i64 v2)).far (p := ⟨W0.heap.size, 3, none⟩) (by simp) (.int .i64 v3)).far (p := ⟨W0.heap.size, 4, none⟩) (by simp) (.int .i64 v4)).far (p := ⟨W0.heap.size, 5, none⟩) (by simp) (.int .i64 v5))
          have e : (((((((arr 6 (onY (six v0 v1 v2 v3 v4 v5) 0)).setIfInBounds 0 (.int .i64 (onX (six v0 v1 v2 v3 v4 v5) 0 0))).setIfInBounds 1 (.int .i64 (onX (six v0 v1 v2 v3 v4 v5) 0 1))).setIfInBounds 2 (.int .i64 (onX (six v0 v1 v2 v3 v4 v5) 0 2))).setIfInBounds 3 (.int .i64 (onX (six v0 v1 v2 v3 v4 v5) 0 3))).setIfInBounds 4 (.int .i64 (onX (six v0 v1 v2 v3 v4 v5) 0 4))).setIfInBounds 5 (.int .i64 (onX (six v0 v1 v2 v3 v4 v5) 0 5))) = arr 6 (onY (six v0 v1 v2 v3 v4 v5) 1) := rfl
          rw [e] at hb
          exact hb
        · exact ((((((((((((k2.out.far (p := ⟨W0.heap.size + 1, 0, none⟩) (by simp) _).far (p := ⟨W0.heap.size + 1, 1, none⟩) (by simp) _).far (p := ⟨W0.heap.size + 1, 2, none⟩) (by simp) _).far (p := ⟨W0.heap.size + 1, 3, none⟩) (by simp) _).far (p := ⟨W0.heap.size + 1, 4, none⟩) (by simp) _).far (p := ⟨W0.heap.size + 1, 5, none⟩) (by simp) _).far (p := ⟨W0.heap.size, 0, none⟩) (by simp) _).far (p := ⟨W0.heap.size, 1, none⟩) (by simp) _).far (p := ⟨W0.heap.size, 2, none⟩) (by simp) _).far (p := ⟨W0.heap.size, 3, none⟩) (by simp) _).far (p := ⟨W0.heap.size, 4, none⟩) (by simp) _).far (p := ⟨W0.heap.size, 5, none⟩) (by simp) _)
        · exact ((((((((((((W6.out.setCell (p := ⟨W0.heap.size + 1, 0, none⟩) (by simp) _).setCell (p := ⟨W0.heap.size + 1, 1, none⟩) (by simp) _).setCell (p := ⟨W0.heap.size + 1, 2, none⟩) (by simp) _).setCell (p := ⟨W0.heap.size + 1, 3, none⟩) (by simp) _).setCell (p := ⟨W0.heap.size + 1, 4, none⟩) (by simp) _).setCell (p := ⟨W0.heap.size + 1, 5, none⟩) (by simp) _).setCell (p := ⟨W0.heap.size, 0, none⟩) (by simp) _).setCell (p := ⟨W0.heap.size, 1, none⟩) (by simp) _).setCell (p := ⟨W0.heap.size, 2, none⟩) (by simp) _).setCell (p := ⟨W0.heap.size, 3, none⟩) (by simp) _).setCell (p := ⟨W0.heap.size, 4, none⟩) (by simp) _).setCell (p := ⟨W0.heap.size, 5, none⟩) (by simp) _)
    · have s1 := b2.cell 1
      simp at s1
      have HB0 := hid b0; have HB1 := hid b1; have HB2 := hid b2; have HBW := hid hb
      have lk := hid hk
      clear b0 b1 b2 hb hk
      go_wp2_with fail
      refine (HY2.out _ HBW.out).mono ?_; rintro e w2 ⟨A7, c7, rfl, o7, p7⟩
      go_wp2_with fail
      refine (HDY.out _ _ _ (Sl.of_own o7)).mono ?_; rintro e w3 ⟨rfl, p8⟩
      have B1 := hid ((p7.trans (p8.mono p7.size)))
      have W1 := hid (below_call HBW.out B1.out HBW.out.size)
      clear o7 p7 p8
      go_wp2_with fail
      refine (HY2.out _ W1.out).mono ?_; rintro e w2 ⟨A7, c7, rfl, o7, p7⟩
      go_wp2_with fail
      refine (HEY.out _ _ _ (Sl.of_own o7)).mono ?_; rintro e w3 ⟨rfl, p8⟩
      have B2 := hid (B1.out.trans ((p7.trans (p8.mono p7.size)).mono B1.out.size))
      have W2 := hid (below_call HBW.out B2.out HBW.out.size)
      clear o7 p7 p8 B1 W1
      go_wp2_with fail
      refine (HY2.out _ W2.out).mono ?_; rintro e w2 ⟨A7, c7, rfl, o7, p7⟩
      go_wp2_with fail
      refine (HAY.out _ _ _ (Sl.of_own o7)).mono ?_; rintro e w3 ⟨rfl, p8⟩
      have B3 := hid (B2.out.trans ((p7.trans (p8.mono p7.size)).mono B2.out.size))
      have W3 := hid (below_call HBW.out B3.out HBW.out.size)
      clear o7 p7 p8 B2 W2
      go_wp2_with fail
      refine (HY2.out _ W3.out).mono ?_; rintro e w2 ⟨A7, c7, rfl, o7, p7⟩
      go_wp2_with fail
      refine (HPY.out _ _ _ (Sl.of_own o7)).mono ?_; rintro e w3 ⟨rfl, p8⟩
      have B4 := hid (B3.out.trans ((p7.trans (p8.mono p7.size)).mono B3.out.size))
      have W4 := hid (below_call HBW.out B4.out HBW.out.size)
      clear o7 p7 p8 B3 W3
      go_wp2_with fail
      refine (HY2.out _ W4.out).mono ?_; rintro e w2 ⟨A7, c7, rfl, o7, p7⟩
      go_wp2_with fail
      refine (HWY.out _ _ _ (Sl.of_own o7)).mono ?_; rintro e w3 ⟨rfl, p8⟩
      have B5 := hid (B4.out.trans ((p7.trans (p8.mono p7.size)).mono B4.out.size))
      have W5 := hid (below_call HBW.out B5.out HBW.out.size)
      clear o7 p7 p8 B4 W4
      go_wp2_with fail
      refine (HY2.out _ W5.out).mono ?_; rintro e w2 ⟨A7, c7, rfl, o7, p7⟩
      go_wp2_with fail
      refine (HKY.out _ _ _ (Sl.of_own o7)).mono ?_; rintro e w3 ⟨rfl, p8⟩
      have B6 := hid (B5.out.trans ((p7.trans (p8.mono p7.size)).mono B5.out.size))
      have W6 := hid (below_call HBW.out B6.out HBW.out.size)
      clear o7 p7 p8 B5 W5
      have b0 := HB0.out.keep B6.out
      have b1 := HB1.out.keep B6.out
      have b2 := HB2.out.keep B6.out
      have y0 := b0.cell 0; have y1 := b0.cell 1; have y2 := b0.cell 2; have y3 := b0.cell 3; have y4 := b0.cell 4; have y5 := b0.cell 5
      have z0 := b1.cell 0; have z1 := b1.cell 1; have z2 := b1.cell 2; have z3 := b1.cell 3; have z4 := b1.cell 4; have z5 := b1.cell 5
      rw [arr_get (by decide)] at y0 y1 y2 y3 y4 y5 z0 z1 z2 z3 z4 z5
      have g0 := b0.free 0; have g1 := b0.free 1; have g2 := b0.free 2; have g3 := b0.free 3; have g4 := b0.free 4; have g5 := b0.free 5
      have h0 := b1.free 0; have h1 := b1.free 1; have h2 := b1.free 2; have h3 := b1.free 3; have h4 := b1.free 4; have h5 := b1.free 5
      have k0 := hid b0; have k1 := hid b1; have k2 := hid b2
      clear b0 b1 b2
      go_wp2
      go_roundg 0
      case measure => have := lk.out; omega
      case rel =>
        refine ⟨2, rfl, rfl, ?_, ?_, ?_, ?_⟩
        · have hb := ((((((((((((k0.out.far (p := ⟨W0.heap.size + 1, 0, none⟩) (by simp) (.int .i64 (onX (six v0 v1 v2 v3 v4 v5) 1 0))).far (p := ⟨W0.heap.size + 1, 1, none⟩) (by simp) (.int .i64 (onX (six v0 v1 v2 v3 v4 v5) 1 1))).far (p := ⟨W0.heap.size + 1, 2, none⟩) (by simp) (.int .i64 (onX (six v0 v1 v2 v3 v4 v5) 1 2))).far (p := ⟨W0.heap.size + 1, 3, none⟩) (by simp) (.int .i64 (onX (six v0 v1 v2 v3 v4 v5) 1 3))).far (p := ⟨W0.heap.size + 1, 4, none⟩) (by simp) (.int .i64 (onX (six v0 v1 v2 v3 v4 v5) 1 4))).far (p := ⟨W0.heap.size + 1, 5, none⟩) (by simp) (.int .i64 (onX (six v0 v1 v2 v3 v4 v5) 1 5))).set 0 (.int .i64 v0)).set 1 (.int .i64 v1)).set 2 (.int .i64 v2)).set 3 (.int .i64 v3)).set 4 (.int .i64 v4)).set 5 (.int .i64 v5))
          have e : (((((((arr 6 (onX (six v0 v1 v2 v3 v4 v5) 1)).setIfInBounds 0 (.int .i64 v0)).setIfInBounds 1 (.int .i64 v1)).setIfInBounds 2 (.int .i64 v2)).setIfInBounds 3 (.int .i64 v3)).setIfInBounds 4 (.int .i64 v4)).setIfInBounds 5 (.int .i64 v5)) = arr 6 (onX (six v0 v1 v2 v3 v4 v5) 2) := rfl
          rw [e] at hb
          exact hb
        · have hb := ((((((((((((k1.out.set 0 (.int .i64 (onX (six v0 v1 v2 v3 v4 v5) 1 0))).set 1 (.int .i64 (onX (six v0 v1 v2 v3 v4 v5) 1 1))).set 2 (.int .i64 (onX (six v0 v1 v2 v3 v4 v5) 1 2))).set 3 (.int .i64 (onX (six v0 v1 v2 v3 v4 v5) 1 3))).set 4 (.int .i64 (onX (six v0 v1 v2 v3 v4 v5) 1 4))).set 5 (.int .i64 (onX (six v0 v1 v2 v3 v4 v5) 1 5))).far (p := ⟨W0.heap.size, 0, none⟩) (by simp) (.int .i64 v0)).far (p := ⟨W0.heap.size, 1, none⟩) (by simp) (.int .i64 v1)).far (p := ⟨W0.heap.size, 2, none⟩) (by simp) (.int .i64 v2)).far (p := ⟨W0.heap.size, 3, none⟩) (by simp) (.int .i64 v3)).far (p := ⟨W0.heap.size, 4, none⟩) (by simp) (.int .i64 v4)).far (p := ⟨W0.heap.size, 5, none⟩) (by simp) (.int .i64 v5))
          have e : (((((((arr 6 (onY (six v0 v1 v2 v3 v4 v5) 1)).setIfInBounds 0 (.int .i64 (onX (six v0 v1 v2 v3 v4 v5) 1 0))).setIfInBounds 1 (.int .i64 (onX (six v0 v1 v2 v3 v4 v5) 1 1))).setIfInBounds 2 (.int .i64 (onX (six v0 v1 v2 v3 v4 v5) 1 2))).setIfInBounds 3 (.int .i64 (onX (six v0 v1 v2 v3 v4 v5) 1 3))).setIfInBounds 4 (.int .i64 (onX (six v0 v1 v2 v3 v4 v5) 1 4))).setIfInBounds 5 (.int .i64 (onX (six v0 v1 v2 v3 v4 v5) 1 5))) = arr 6 (onY (six v0 v1 v2 v3 v4 v5) 2) := rfl
          rw [e] at hb
          exact hb
        · exact ((((((((((((k2.out.far (p := ⟨W0.heap.size + 1, 0, none⟩) (by simp) _).far (p := ⟨W0.heap.size + 1, 1, none⟩) (by simp) _).far (p := ⟨W0.heap.size + 1, 2, none⟩) (by simp) _).far (p := ⟨W0.heap.size + 1, 3, none⟩) (by simp) _).far (p := ⟨W0.heap.size + 1, 4, none⟩) (by simp) _).far (p := ⟨W0.heap.size + 1, 5, none⟩) (by simp) _).far (p := ⟨W0.heap.size, 0, none⟩) (by simp) _).far (p := ⟨W0.heap.size, 1, none⟩) (by simp) _).far (p := ⟨W0.heap.size, 2, none⟩) (by simp) _).far (p := ⟨W0.heap.size, 3, none⟩) (by simp) _).far (p := ⟨W0.heap.size, 4, none⟩) (by simp) _).far (p := ⟨W0.heap.size, 5, none⟩) (by simp) _)
        · exact ((((((((((((W6.out.setCell (p := ⟨W0.heap.size + 1, 0, none⟩) (by simp) _).setCell (p := ⟨W0.heap.size + 1, 1, none⟩) (by simp) _).setCell (p := ⟨W0.heap.size + 1, 2, none⟩) (by simp) _).setCell (p := ⟨W0.heap.size + 1, 3, none⟩) (by simp) _).setCell (p := ⟨W0.heap.size + 1, 4, none⟩) (by simp) _).setCell (p := ⟨W0.heap.size + 1, 5, none⟩) (by simp) _).setCell (p := ⟨W0.heap.size, 0, none⟩) (by simp) _).setCell (p := ⟨W0.heap.size, 1, none⟩) (by simp) _).setCell (p := ⟨W0.heap.size, 2, none⟩) (by simp) _).setCell (p := ⟨W0.heap.size, 3, none⟩) (by simp) _).setCell (p := ⟨W0.heap.size, 4, none⟩) (by simp) _).setCell (p := ⟨W0.heap.size, 5, none⟩) (by simp) _)
    · have y0 := b0.cell 0; have y1 := b0.cell 1; have y2 := b0.cell 2; have y3 := b0.cell 3; have y4 := b0.cell 4; have y5 := b0.cell 5
      have z0 := b1.cell 0; have z1 := b1.cell 1; have z2 := b1.cell 2; have z3 := b1.cell 3; have z4 := b1.cell 4; have z5 := b1.cell 5
      rw [arr_get (by decide)] at y0 y1 y2 y3 y4 y5 z0 z1 z2 z3 z4 z5
      have e0 : onX (six v0 v1 v2 v3 v4 v5) 2 0 = v0 := rfl
      have f0 : onY (six v0 v1 v2 v3 v4 v5) 2 0 = v0 := rfl
      rw [e0] at y0; rw [f0] at z0
      clear e0 f0
      have e1 : onX (six v0 v1 v2 v3 v4 v5) 2 1 = v1 := rfl
      have f1 : onY (six v0 v1 v2 v3 v4 v5) 2 1 = v1 := rfl
      rw [e1] at y1; rw [f1] at z1
      clear e1 f1
      have e2 : onX (six v0 v1 v2 v3 v4 v5) 2 2 = v2 := rfl
      have f2 : onY (six v0 v1 v2 v3 v4 v5) 2 2 = v2 := rfl
      rw [e2] at y2; rw [f2] at z2
      clear e2 f2
      have e3 : onX (six v0 v1 v2 v3 v4 v5) 2 3 = v3 := rfl
      have f3 : onY (six v0 v1 v2 v3 v4 v5) 2 3 = v3 := rfl
      rw [e3] at y3; rw [f3] at z3
      clear e3 f3
      have e4 : onX (six v0 v1 v2 v3 v4 v5) 2 4 = v4 := rfl
      have f4 : onY (six v0 v1 v2 v3 v4 v5) 2 4 = v4 := rfl
      rw [e4] at y4; rw [f4] at z4
      clear e4 f4
      have e5 : onX (six v0 v1 v2 v3 v4 v5) 2 5 = v5 := rfl
      have f5 : onY (six v0 v1 v2 v3 v4 v5) 2 5 = v5 := rfl
      rw [e5] at y5; rw [f5] at z5
      clear e5 f5
      clear b0 b1 b2 hk
      have q70 := eq70 v0 v1 v2 v3 v4 v5
      have HBB := hid (below_call HB.out hb HB.out.size)
      clear hb
      go_wp2_with (go_at_call 21; refine (awake _).mono ?_; rintro e w6 ⟨rfl, b6⟩)
      go_ret
      exact ⟨rfl, below_call HBB.out b6 HBB.out.size⟩

theorem learnTurned_walk (w : World) (p : Int) (_ : (Lit.int .i64 p).wf = true) (A : Option Addr) (n c : Nat) (xs : List Int) (hs : Sl w A n c (xs.map (Value.int .i64))) (_ : ∀ x ∈ xs, -9223372036854775808 ≤ x ∧ x ≤ 9223372036854775807) (s : Int) (_ : (Lit.int .i64 s).wf = true) (con : Int) (_ : (Lit.int .i64 con).wf = true) :
    Calls Try.prog 15 #[.int .i64 p, .slice A n c, .int .i64 s, .int .i64 con] w fun e w' => e = .returned (.bool true) ∧ Below w.heap.size w w' := by
  by_cases h : Cls p xs ∧ 0 ≤ s ∧ s < p2 p
  · obtain ⟨q, rfl⟩ := Int.eq_ofNat_of_zero_le (show 0 ≤ p by have := h.1.p1; omega)
    obtain ⟨t, rfl⟩ := Int.eq_ofNat_of_zero_le h.2.1
    exact learnTurned_good w q A n c xs t hs con h.1 (by have := h.2.2; rw [p2_nat] at this; omega)
  · exact learnTurned_bad w p A n c xs s hs con h
end Go.Proofs.Ytpebglilphgamaa
