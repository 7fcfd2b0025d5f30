/- Walks of the reference's settled, ask and Ask. Conditions: the slice reads as what is left of a family at a view. -/
import Derived.Test.YtjddbglbodkihaaDoorSubM
import Derived.Test.YtjddbglbodkihaaDoorSumW
import Derived.Test.YtjddbglbodkihaaDoorProdM
import Derived.Deep.RegionHeld3
namespace Go.Proofs.YtjddbglbodkihaaDoor
open Go.RowKit
attribute [local go_sem ↓] shl_p2 shl_u or_u shr_u and_shrF shr_v and_shr andNot_v and_nn or_i

set_option maxRecDepth 100000 in
set_option maxHeartbeats 1000000 in
theorem settledR (n F a i : Nat) (A : Option Addr) (m c : Nat) (w : World) (h6 : n ≤ 6) (hv : View n a i) (hs : Sl w A m c ((fv n F a i).map (Value.int .i64))) :
    Calls Tryd.prog 79 #[.slice A m c, .int .i64 (lf n a : Nat)] w fun e w' => e = .returned (.bool (settl (2 ^ n) F.testBit a i)) ∧ w = w' := by
  have h64 := two6 h6
  have hlt := lf_lt n a
  have ha := hv.lt
  have hm := hs.numlen
  have hst := fv_settl (F := F) h6 hv
  rw [hm] at hst
  have HSZ := hid fun W => refSize (lf n a) (by omega) W
  rw [lf_sz h6 (by omega)] at HSZ
  have hun := un_le n a
  rw [hst]
  have hle := hs.len_le
  have hp := p2_nat (un n a)
  have hpp := Nat.two_pow_pos (un n a)
  have FU : Fits (un n a : Int) := ⟨by omega, by omega⟩
  have hpb : 1 ≤ p2 (un n a : Int) := by omega
  generalize un n a = u at *
  generalize lf n a = L at *
  clear hst hs h64 hlt hv ha
  by_cases h0 : m = 0
  · subst h0
    rw [decide_eq_true rfl, Bool.true_or]
    go_enter Tryd.func79, Tryd.ntmps79
    go_wp2
    go_ret
    exact ⟨rfl, rfl⟩
  · have g0 : ((m : Int) == 0) = false := by rw [beq_eq_false_iff_ne]; omega
    have g0n : (m == 0) = false := by rw [beq_eq_false_iff_ne]; exact h0
    rw [decide_eq_false h0, Bool.false_or]
    by_cases h1 : m = 2 ^ u
    · have g1 : ((m : Int) == p2 (u : Int)) = true := by rw [beq_iff_eq]; omega
      rw [decide_eq_true h1]
      clear h1 hp hpp
      go_enter Tryd.func79, Tryd.ntmps79
      go_wp2_with fail
      refine (HSZ.out _).mono ?_; rintro e w2 ⟨rfl, rfl⟩
      go_wp2
      go_ret
      exact ⟨rfl, rfl⟩
    · have g1 : ((m : Int) == p2 (u : Int)) = false := by rw [beq_eq_false_iff_ne]; omega
      rw [decide_eq_false h1]
      clear h1 hp hpp
      go_enter Tryd.func79, Tryd.ntmps79
      go_wp2_with fail
      refine (HSZ.out _).mono ?_; rintro e w2 ⟨rfl, rfl⟩
      go_wp2
      go_ret
      exact ⟨rfl, rfl⟩
/-- The least over the questions below x. -/
def bs (n F a i : Nat) : Nat → Nat
  | 0 => un n a
  | x+1 => if x < n ∧ a.testBit x = false then min (bs n F a i x) (valN n F.testBit a i x) else bs n F a i x
theorem bs_le (n F a i : Nat) : ∀ k, bs n F a i k ≤ un n a := by
  intro k
  induction k with
  | zero => exact Nat.le_refl _
  | succ k ih => unfold bs; split <;> omega
theorem bs_ge {n F a i : Nat} : ∀ k, askN n F.testBit a i ≤ bs n F a i k := by
  intro k
  induction k with
  | zero => exact askN_le n _ _ a i rfl
  | succ k ih =>
    unfold bs
    split
    · rename_i h
      have := ask_step (q := F.testBit) (i := i) h.1 h.2
      omega
    · exact ih
theorem bs_val {n F a i x : Nat} (hx : x < n) (ha : a.testBit x = false) : ∀ k, x < k → bs n F a i k ≤ valN n F.testBit a i x := by
  intro k
  induction k with
  | zero => intro h; omega
  | succ k ih =>
    intro h
    unfold bs
    by_cases e : k = x
    · subst e; rw [if_pos ⟨hx, ha⟩]; omega
    · have := ih (by omega)
      split <;> omega
theorem bs_end {n F a i : Nat} (h6 : n ≤ 6) (hs : settl (2 ^ n) F.testBit a i = false) : bs n F a i 6 = askN n F.testBit a i := by
  obtain ⟨h1, h2, h3, _⟩ := best_is hs
  have := bs_val (F := F) (i := i) h1 h2 6 (by omega)
  have := bs_ge (n := n) (F := F) (a := a) (i := i) 6
  omega
theorem bs_skip {n F a i x : Nat} (h : ¬ (x < n ∧ a.testBit x = false)) : bs n F a i (x + 1) = bs n F a i x := by
  show (if _ then _ else _) = _
  rw [if_neg h]
theorem bs_take {n F a i x : Nat} (h1 : x < n) (h2 : a.testBit x = false) : bs n F a i (x + 1) = min (bs n F a i x) (1 + max (askN n F.testBit (ad a x) i) (askN n F.testBit (ad a x) (ad i x))) := by
  show (if _ then _ else _) = _
  rw [if_pos ⟨h1, h2⟩]; rfl
/-- What ask tells of the views with k elements left. -/
def RAsk (n F k : Nat) : Prop := ∀ a i A m c W, un n a = k → View n a i → Sl W A m c ((fv n F a i).map (Value.int .i64)) →
  Calls Tryd.prog 77 #[.slice A m c, .int .i64 (lf n a : Nat)] W fun e w' => e = .returned (.int .i64 (askN n F.testBit a i : Nat)) ∧ Below W.heap.size W w'
set_option maxRecDepth 100000 in
set_option maxHeartbeats 4000000 in
theorem rAskStep (n F k : Nat) (h6 : n ≤ 6) (IH : ∀ j, j + 1 = k → RAsk n F j) : RAsk n F k := by
  intro a i A m c w hk hv hs
  have ha := hv.lt
  have h64 := two6 h6
  have hlt := lf_lt n a
  have HST := hid fun W (hb : Below w.heap.size w W) => settledR n F a i A m c W h6 hv (hs.below hb)
  have HB0 := hid (Below.refl w.heap.size w)
  cases hst : settl (2 ^ n) F.testBit a i
  · rw [hst] at HST
    have hm : m ≤ 64 := by have := fv_len (n := n) (F := F) (a := a) (i := i) h6; have := hs.numlen; omega
    have HSZ := hid fun W => refSize (lf n a) (by omega) W
    rw [lf_sz h6 (by omega)] at HSZ
    have HEND := hid (bs_end h6 hst)
    have HO := hid fun x (hx : x ≤ 5) W (hb : Below w.heap.size w W) => refOut A m c (fv n F a i) x W (hs.below hb) (fv_bd h6) hx hm
    have HK := hid fun x (hx : x ≤ 5) W (hb : Below w.heap.size w W) => refLink A m c (fv n F a i) x W (hs.below hb) (fv_bd h6) hx hm
    have HI0 := hid fun x (hx : x < n) (h0 : a.testBit x = false) A' m' c' W s1 => IH (un n (ad a x)) (by have := un_ad hx h0; omega) (ad a x) i A' m' c' W rfl (hv.out hx) s1
    have HI1 := hid fun x (hx : x < n) (h0 : a.testBit x = false) A' m' c' W s1 => IH (un n (ad a x)) (by have := un_ad hx h0; omega) (ad a x) (ad i x) A' m' c' W rfl (hv.inn hx) s1
    have HFO := hid fun x => fv_out n F a i x
    have HFK := hid fun x (hx : x < n) (h0 : a.testBit x = false) => fv_link (F := F) (i := i) h6 hx h0
    have HBS := hid fun x => And.intro (bs_le n F a i x) (bs_ge (n := n) (F := F) (a := a) (i := i) x)
    have HU := hid (un_le n a)
    have HPOS := hid (ask_pos hst)
    have hL64 : lf n a < 64 := by omega
    clear hst hs hv IH ha h64 hlt hm hk
    go_enter Tryd.func77, Tryd.ntmps77
    go_wp2_with fail
    refine (HST.out _ HB0.out).mono ?_; rintro e w1 ⟨rfl, rfl⟩
    go_wp2_with fail
    refine (HSZ.out _).mono ?_; rintro e w1 ⟨rfl, rfl⟩
    go_wp2
    go_loopg [5, 13] 6 (fun gk b x wr => ∃ y : Nat, gk + y = 6 ∧ x = .int .i64 y ∧ b = .int .i64 (bs n F a i y : Nat) ∧ Hid (Below w.heap.size w wr))
    case atStart => exact ⟨0, rfl, rfl, rfl, HB0⟩
    case round =>
      obtain ⟨y, hy, rfl, rfl, HW⟩ := hrel
      have HY := hid hy
      have hbs := HBS.out y
      have hbs6 : bs n F a i y ≤ 6 := by have := HU.out; omega
      have hz := HW.out.size
      clear hbs
      by_cases hlt : y < 6
      · have HLT := hid hlt
        have FY : Fits (y : Int) := ⟨by omega, by omega⟩
        have hlb := lf_bit n a y
        cases hbit : (lf n a).testBit y
        · have g := bitV_no hbit
          have hn : ¬ (y < n ∧ a.testBit y = false) := by
            rintro ⟨h1, h2⟩
            rw [hbit, h2, decide_eq_true h1] at hlb; cases hlb
          have HSK := hid (bs_skip (F := F) (i := i) hn)
          clear hbit hlb hn
          go_wp2
          go_roundg (gk - 1)
          case measure => have := HY.out; have := HLT.out; omega
          case rel => exact ⟨y + 1, by have := HY.out; have := HLT.out; omega, by go_num, by rw [HSK.out], HW⟩
        · have g := bitV_yes hbit
          rw [hbit] at hlb
          obtain ⟨h1, h2⟩ := andE hlb.symm
          have h1 : y < n := of_decide_eq_true h1
          have h2 : a.testBit y = false := by simpa using h2
          have HTK := hid (bs_take (F := F) (i := i) h1 h2)
          have H12 := hid (And.intro h1 h2)
          clear hbit hlb
          by_cases hb1 : 1 < bs n F a i y
          · have g1 : decide (1 < (bs n F a i y : Int)) = true := decide_eq_true (by omega)
            have g1n : decide (1 < bs n F a i y) = true := decide_eq_true hb1
            have AN : AnF (lf n a) (y : Int) := ⟨by omega, by omega, by omega⟩
            have e5 : ((y : Int)).toNat = y := Int.toNat_natCast y
            have HRM := hid (lf_rm n a y)
            have hA0 := askN_le n F.testBit _ (ad a y) i rfl
            have hA1 := askN_le n F.testBit _ (ad a y) (ad i y) rfl
            have hU1 := un_le n (ad a y)
            have HOY := HO.out y (by omega)
            rw [HFO.out] at HOY
            have HKY := HK.out y (by omega)
            rw [HFK.out y h1 h2] at HKY
            have HOYH := hid HOY; have HKYH := hid HKY
            have HI0Y := hid (HI0.out y h1 h2)
            have HI1Y := hid (HI1.out y h1 h2)
            clear hb1 h1 h2 HOY HKY
            generalize hq0 : askN n F.testBit (ad a y) i = q0 at *
            generalize hq1 : askN n F.testBit (ad a y) (ad i y) = q1 at *
            generalize hbv : bs n F a i y = bv at *
            have hq06 : q0 ≤ 6 := by omega
            have hq16 : q1 ≤ 6 := by omega
            clear hq0 hq1 hbv hA0 hA1 hU1 hz
            go_wp2_with fail
            have HWD := hid HW.out.drew
            go_region_held3 (fun _ => True) (trivial)
              ((first
                | (go_at_call 77; have _h := SO.out; rw [HRM.out]; refine (HI0Y.out _ _ _ _ SO.out).mono ?_; rintro e w3 ⟨rfl, b3⟩; have HB3 := hid (below_call HB2.out b3 HB2.out.size); clear b3)
                | (go_at_call 28; refine (HOYH.out _ HWD.out).mono ?_; rintro e w2 ⟨A2, c2, l2, rfl, ho, b2⟩; have SO := hid (Sl.of_own ho); have HB2 := hid (below_call HWD.out b2 HWD.out.size); clear ho b2)))
            have hz3 := HB3.out.size
            by_cases h3 : q0 + 1 < bv
            · have g3 : decide ((q0 : Int) + 1 < bv) = true := decide_eq_true (by omega)
              have g3n : decide (q0 + 1 < bv) = true := decide_eq_true h3
              clear h3 hz3
              go_wp2_with fail
              have HWE := hid HB3.out.drew
              go_region_held3 (fun _ => True) (trivial)
                ((first
                  | (go_at_call 77; have _h := SK.out; rw [HRM.out]; refine (HI1Y.out _ _ _ _ SK.out).mono ?_; rintro e w5 ⟨rfl, b5⟩; have HB5 := hid (below_call HB4.out b5 HB4.out.size); clear b5)
                  | (go_at_call 27; refine (HKYH.out _ HWE.out).mono ?_; rintro e w4 ⟨A4, c4, l4, rfl, ho, b4⟩; have SK := hid (Sl.of_own ho); have HB4 := hid (below_call HWE.out b4 HWE.out.size); clear ho b4)))
              all_goals go_wp2
              all_goals (go_roundg (gk - 1))
              any_goals (case measure => have := HY.out; have := HLT.out; omega)
              all_goals (refine ⟨y + 1, by have := HY.out; have := HLT.out; omega, by go_num, ?_, HB5⟩)
              all_goals (refine congrArg (Value.int .i64) ?_; rw [HTK.out]; simp only [IntKind.wrap_i64] at *; omega)
            · have g3 : decide ((q0 : Int) + 1 < bv) = false := decide_eq_false (by omega)
              have g3n : decide (q0 + 1 < bv) = false := decide_eq_false h3
              have HEQ := hid (show bs n F a i (y + 1) = bv from by rw [HTK.out]; omega)
              clear h3 hz3
              go_wp2
              go_roundg (gk - 1)
              case measure => have := HY.out; have := HLT.out; omega
              case rel => exact ⟨y + 1, by have := HY.out; have := HLT.out; omega, by go_num, by rw [HEQ.out], HB3⟩
          · have g1 : decide (1 < (bs n F a i y : Int)) = false := decide_eq_false (by omega)
            have g1n : decide (1 < bs n F a i y) = false := decide_eq_false hb1
            have HEQ := hid (show bs n F a i (y + 1) = bs n F a i y from by rw [HTK.out]; omega)
            clear hb1 h1 h2
            go_wp2
            go_roundg (gk - 1)
            case measure => have := HY.out; have := HLT.out; omega
            case rel => exact ⟨y + 1, by have := HY.out; have := HLT.out; omega, by go_num, by rw [HEQ.out], HW⟩
      · obtain rfl : y = 6 := by have := HY.out; omega
        have HEN := hid (show (bs n F a i 6 : Int) = askN n F.testBit a i from by rw [HEND.out])
        clear hy hlt
        go_wp2
        go_ret
        exact ⟨ret_i HEN.out, HW.out⟩
  · rw [hst] at HST
    have h0 : askN n F.testBit a i = 0 := ask_zero.2 hst
    rw [h0]
    clear hst hs hv IH ha h64 hlt hk h0
    go_enter Tryd.func77, Tryd.ntmps77
    go_wp2_with fail
    refine (HST.out _ HB0.out).mono ?_; rintro e w1 ⟨rfl, rfl⟩
    go_wp2
    go_ret
    exact ⟨rfl, HB0.out⟩
theorem rAsk (n F : Nat) (h6 : n ≤ 6) : ∀ k, RAsk n F k := by
  intro k
  induction k with
  | zero => exact rAskStep n F 0 h6 fun j h => absurd h (by omega)
  | succ k ih =>
    refine rAskStep n F (k + 1) h6 fun j h => ?_
    have e : j = k := by omega
    subst e; exact ih
set_option maxRecDepth 100000 in
set_option maxHeartbeats 1000000 in
theorem refAsk (n : Nat) (A : Option Addr) (m c : Nat) (xs : List Int) (w : World) (hs : Sl w A m c (xs.map (Value.int .i64))) (H : Fam n xs) :
    Calls Tryd.prog 39 #[.int .i64 n, .slice A m c] w fun e w' => e = .returned (.int .i64 (askN n (setF xs).testBit 0 0 : Nat)) ∧ Below w.heap.size w w' := by
  have h6 := H.n6n
  have HR := hid (rAsk n (setF xs) h6 _ 0 0 A m c w rfl (View.zero n) (by rw [fv_zero H]; exact hs))
  rw [lf_zero] at HR
  have FN : Fits (n : Int) := ⟨by omega, by omega⟩
  have hp := p2_nat n
  have h64 := two6 h6
  have hpp := Nat.two_pow_pos n
  have hpb : 1 ≤ p2 (n : Int) ∧ p2 (n : Int) ≤ 64 := by omega
  generalize askN n (setF xs).testBit 0 0 = q at *
  clear hs H hp h64 hpp
  go_enter Tryd.func39, Tryd.ntmps39
  go_wp2_with fail
  refine (HR.out).mono ?_; rintro e w1 ⟨rfl, b1⟩
  have HB := hid b1
  clear b1
  go_wp2
  go_ret
  exact ⟨rfl, HB.out⟩
end Go.Proofs.YtjddbglbodkihaaDoor
