/- Walks of the reference's length and Length. Conditions: the slices read as what is left of a family, and as nodes. -/
import Derived.Test.YtjddbglbodkihaaDoorPlanM
import Derived.Test.YtjddbglbodkihaaDoorLenW
import Derived.Test.YtjddbglbodkihaaDoorPlanP
import Derived.Test.YtjddbglbodkihaaDoorRefA
namespace Go.Proofs.YtjddbglbodkihaaDoor
open Go.RowKit
attribute [local go_sem ↓] shl_p2 shl_u or_u shr_u and_shrF shr_v and_shr andNot_v and_nn or_i

def RLen (n F : Nat) (T : Option Addr) (L k : Nat) (ts : List Nd) (d : Nat) : Prop := ∀ r a i A m c W, un n a = d → View n a i → atOk L r → Sl W A m c ((fv n F a i).map (Value.int .i64)) → Sl3 W T L k ts →
  Calls Tryd.prog 80 #[.slice A m c, .slice T L k, .int .i64 r, .int .i64 (lf n a : Nat)] W fun e w' => e = .returned (.tuple #[.int .i64 (lenN n F ts r a i).1, .bool (lenN n F ts r a i).2]) ∧ Below W.heap.size W w'
set_option maxRecDepth 100000 in
set_option maxHeartbeats 8000000 in
theorem rlenStep (n F : Nat) (T : Option Addr) (L k : Nat) (ts : List Nd) (d : Nat) (hn : n ≤ 6) (hok : ∀ j u, ts[j]? = some u → ndOk n j L u) (IH : ∀ j, j + 1 = d → RLen n F T L k ts j) : RLen n F T L k ts d := by
  intro r a i A m c w hd hv hr hs ht
  have ha := hv.lt
  have h64 := two6 hn
  have hlt := lf_lt n a
  have HSE := hid fun W (hb : Below w.heap.size w W) => settledR n F a i A m c W hn hv (hs.below hb)
  have HB0 := hid (Below.refl w.heap.size w)
  by_cases hr1 : r = -1
  · rw [len_stop (.inl hr1)]
    subst hr1
    rw [decide_eq_true rfl, Bool.true_and]
    clear hd hv hr hs IH ha h64 hok ht hlt
    generalize settl (2 ^ n) F.testBit a i = b at *
    go_enter Tryd.func80, Tryd.ntmps80
    go_wp2_with fail
    refine (HSE.out _ HB0.out).mono ?_; rintro e w1 ⟨rfl, rfl⟩
    go_wp2
    go_ret2
    exact ⟨rfl, HB0.out⟩
  · obtain ⟨r, rfl⟩ := Int.eq_ofNat_of_zero_le (show 0 ≤ r by rcases hr with h | h; exact absurd h hr1; exact h.1)
    have hrL : r < L := by rcases hr with h | h; exact absurd h hr1; omega
    obtain ⟨b1, o, hTe, lb, hx, a0, a1, a2⟩ := ht.at hrL
    have hnd := hok r _ hx
    have hLL := ht.len_le
    have HS3 := hid ht
    cases hst : settl (2 ^ n) F.testBit a i
    · rw [hst] at HSE
      have HLG := fun h => len_go (F := F) (i := i) (ts := ts) hr1 hst h
      generalize hnd0 : nd ts (r : Int) = u at *
      obtain ⟨pt, ze, on⟩ := u
      obtain ⟨⟨p0, p1⟩, g0, g1⟩ := hnd
      simp only at p0 p1 g0 g1 a0 a1 a2 HLG
      obtain ⟨x, rfl⟩ := Int.eq_ofNat_of_zero_le p0
      have hxn : x < n := by omega
      have HLG := hid (HLG (by rw [Int.toNat_natCast]; exact hxn))
      rw [Int.toNat_natCast] at HLG
      have z0 := g0.atOk; have z1 := g1.atOk
      clear hnd0 hx g0 g1 p0 p1 hok
      subst hTe
      have FX : Fits (x : Int) := ⟨by omega, by omega⟩
      have e5 : ((x : Int)).toNat = x := Int.toNat_natCast x
      have hm : m ≤ 64 := by have := fv_len (n := n) (F := F) (a := a) (i := i) hn; have := hs.numlen; omega
      have hlb := lf_bit n a x
      rw [decide_eq_true hxn, Bool.true_and] at hlb
      have hL64 : lf n a < 64 := by omega
      cases hbit : a.testBit x
      · rw [hbit] at hlb HLG
        have g := bitV_nz (d := lf n a) (y := x) (by rw [hlb]; rfl)
        have AN : AnF (lf n a) (x : Int) := ⟨by omega, by omega, by omega⟩
        have HRM := hid (lf_rm n a x)
        have HO := hid fun W (hb : Below w.heap.size w W) => refOut A m c (fv n F a i) x W (hs.below hb) (fv_bd hn) (by omega) hm
        have HK := hid fun W (hb : Below w.heap.size w W) => refLink A m c (fv n F a i) x W (hs.below hb) (fv_bd hn) (by omega) hm
        rw [fv_out] at HO
        rw [fv_link hn hxn hbit] at HK
        have HI0 := hid fun A' m' c' W s1 s3 => IH (un n (ad a x)) (by have := un_ad hxn hbit; omega) ze (ad a x) i A' m' c' W rfl (hv.out hxn) z0 s1 s3
        have HI1 := hid fun A' m' c' W s1 s3 => IH (un n (ad a x)) (by have := un_ad hxn hbit; omega) on (ad a x) (ad i x) A' m' c' W rfl (hv.inn hxn) z1 s1 s3
        simp only [Bool.false_eq_true, if_false] at HLG
        have hb0 := len_bd n F ts (un n (ad a x)) ze (ad a x) i
        have hb1 := len_bd n F ts (un n (ad a x)) on (ad a x) (ad i x)
        have hu6 := un_le n (ad a x)
        have hb0' : (lenN n F ts ze (ad a x) i).1 ≤ 6 := by unfold lenN; omega
        have hb1' : (lenN n F ts on (ad a x) (ad i x)).1 ≤ 6 := by unfold lenN; omega
        rw [HLG.out]
        clear IH hb0 hb1 HLG
        generalize lenN n F ts ze (ad a x) i = P0 at *
        generalize lenN n F ts on (ad a x) (ad i x) = P1 at *
        obtain ⟨l0, o0⟩ := P0
        obtain ⟨l1, o1⟩ := P1
        dsimp only at hb0' hb1'
        rw [← Nat.add_assoc] at a1 a2
        clear hbit hst hv hr hs ha h64 z0 z1 hu6 hd hlt hlb hm ht
        go_enter Tryd.func80, Tryd.ntmps80
        go_wp2_with fail
        refine (HSE.out _ HB0.out).mono ?_; rintro e w1 ⟨rfl, rfl⟩
        go_wp2_with fail
        have HWD := hid HB0.out.drew
        have k1 : w.drew.cell? ⟨b1, o + r * 3 + 1, none⟩ = some (.int .i64 ze) := a1
        go_region_held3 (fun w' => w'.cell? ⟨b1, o + r * 3 + 1, none⟩ = some (.int .i64 ze)) (first | assumption | go_keep)
          ((first
            | (go_at_call 80; have _h := SO.out; try rw [HRM.out]; refine (HI0.out _ _ _ _ SO.out (HS3.out.below HB2.out)).mono ?_; rintro e w3 ⟨rfl, b3⟩; have hk3 : w3.cell? ⟨b1, o + r * 3 + 1, none⟩ = some (.int .i64 ze) := cell_keep b3 hk2; have HB3 := hid (below_call HB2.out b3 HB2.out.size); clear b3)
            | (go_at_call 28; refine (HO.out _ HWD.out).mono ?_; rintro e w2 ⟨A2, c2, l2, rfl, ho, b2⟩; have hk2 : w2.cell? ⟨b1, o + r * 3 + 1, none⟩ = some (.int .i64 ze) := cell_keep b2 k1; have SO := hid (Sl.of_own ho); have HB2 := hid (below_call HWD.out b2 HWD.out.size); clear ho b2)))
        cases o0
        · go_wp2
          go_ret2
          exact ⟨rfl, HB3.out⟩
        · have HX2 : w3.cell? ⟨b1, o + r * 3 + 2, none⟩ = some (.int .i64 on) := (HB3.out.cell (p := ⟨b1, o + r * 3 + 2, none⟩) lb).trans a2
          clear a0 a1 a2 k1
          go_wp2_with fail
          have HWE := hid HB3.out.drew
          have k2 : w3.drew.cell? ⟨b1, o + r * 3 + 2, none⟩ = some (.int .i64 on) := HX2
          go_region_held3 (fun w' => w'.cell? ⟨b1, o + r * 3 + 2, none⟩ = some (.int .i64 on)) (first | assumption | go_keep)
            ((first
              | (go_at_call 80; have _h := SK.out; try rw [HRM.out]; refine (HI1.out _ _ _ _ SK.out (HS3.out.below HB4.out)).mono ?_; rintro e w5 ⟨rfl, b5⟩; have hk5 : w5.cell? ⟨b1, o + r * 3 + 2, none⟩ = some (.int .i64 on) := cell_keep b5 hk4; have HB5 := hid (below_call HB4.out b5 HB4.out.size); clear b5)
              | (go_at_call 27; refine (HK.out _ HWE.out).mono ?_; rintro e w4 ⟨A4, c4, l4, rfl, ho, b4⟩; have hk4 : w4.cell? ⟨b1, o + r * 3 + 2, none⟩ = some (.int .i64 on) := cell_keep b4 k2; have SK := hid (Sl.of_own ho); have HB4 := hid (below_call HWE.out b4 HWE.out.size); clear ho b4)))
          all_goals go_wp2
          all_goals go_ret2
          all_goals (refine ⟨?_, HB5.out⟩)
          all_goals first
            | (have e : ((1 + max l0 l1 : Nat) : Int) = 1 + (l1 : Int) := by omega
               exact congrArg (fun z => Ending.returned (Value.tuple #[.int .i64 z, .bool o1])) e.symm)
            | (have e : ((1 + max l0 l1 : Nat) : Int) = 1 + (l0 : Int) := by omega
               exact congrArg (fun z => Ending.returned (Value.tuple #[.int .i64 z, .bool o1])) e.symm)
      · rw [hbit] at hlb HLG
        have g := bitV_z (d := lf n a) (y := x) (by rw [hlb]; rfl)
        simp only [if_true] at HLG
        rw [HLG.out]
        clear hbit hst hv hr hs IH ha h64 z0 z1 HLG hd hlt hlb hm ht
        go_enter Tryd.func80, Tryd.ntmps80
        go_wp2_with fail
        refine (HSE.out _ HB0.out).mono ?_; rintro e w1 ⟨rfl, rfl⟩
        go_wp2
        go_ret2
        exact ⟨rfl, HB0.out⟩
    · rw [len_stop (.inr hst), decide_eq_false hr1, Bool.false_and]
      rw [hst] at HSE
      subst hTe
      clear hd hv hr hs IH ha h64 hst hok ht hlt hx hnd
      go_enter Tryd.func80, Tryd.ntmps80
      go_wp2_with fail
      refine (HSE.out _ HB0.out).mono ?_; rintro e w1 ⟨rfl, rfl⟩
      go_wp2
      go_ret2
      exact ⟨rfl, HB0.out⟩
theorem rlenS (n F : Nat) (T : Option Addr) (L k : Nat) (ts : List Nd) (hn : n ≤ 6) (hok : ∀ j u, ts[j]? = some u → ndOk n j L u) : ∀ d, RLen n F T L k ts d := by
  intro d
  induction d with
  | zero => exact rlenStep n F T L k ts 0 hn hok fun j h => absurd h (by omega)
  | succ d ih =>
    refine rlenStep n F T L k ts (d + 1) hn hok fun j h => ?_
    have e : j = d := by omega
    subst e; exact ih

set_option maxRecDepth 100000 in
set_option maxHeartbeats 1000000 in
theorem refLengthLong (n : Int) (A : Option Addr) (m c : Nat) (T : Option Addr) (L k : Nat) (w : World) (h : 70 < L) (hL : L ≤ 9223372036854775807) :
    Calls Tryd.prog 41 #[.int .i64 n, .slice A m c, .slice T L k] w fun e w' => e = .returned (.tuple #[.int .i64 0, .bool false]) ∧ Below w.heap.size w w' := by
  have g : decide (70 < (L : Int)) = true := decide_eq_true (by omega)
  have gn : decide (70 < L) = true := decide_eq_true h
  have HB := hid (Below.refl w.heap.size w)
  clear h
  go_enter Tryd.func41, Tryd.ntmps41
  go_wp2
  go_ret2
  exact ⟨rfl, HB.out⟩
set_option maxRecDepth 100000 in
set_option maxHeartbeats 8000000 in
theorem refLengthYes (n : Nat) (A : Option Addr) (m c : Nat) (xs : List Int) (T : Option Addr) (L k : Nat) (ts : List Nd) (w : World) (hs : Sl w A m c (xs.map (Value.int .i64))) (ht : Sl3 w T L k ts) (H : Fam n xs) (hp : okP n ts) :
    Calls Tryd.prog 41 #[.int .i64 n, .slice A m c, .slice T L k] w fun e w' => e = .returned (.tuple #[.int .i64 (lenN n (setF xs) ts (firstN ts) 0 0).1, .bool (lenN n (setF xs) ts (firstN ts) 0 0).2]) ∧ Below w.heap.size w w' := by
  have hL70 : L ≤ 70 := by have := hp.1; have := ht.len; omega
  have hl := ht.len
  have hLL := ht.len_le
  have HS := hid ht
  have HST := hid hs
  have g70 : decide (70 < (L : Int)) = false := decide_eq_false (by omega)
  have g70n : decide (70 < L) = false := decide_eq_false (by omega)
  have HEL := hid fun x W => elementF n x W
  have hn6 := H.n6n
  have HOK := hid fun j u (hj : ts[j]? = some u) => (show ndOk n j L u from by have := hp.2 j u hj; rwa [hl] at this)
  have HLN := hid fun r W (hr : atOk L r) (hb : Below w.heap.size w W) => rlenS n (setF xs) T L k ts hn6 HOK.out (un n 0) r 0 0 A m c W rfl (View.zero n) hr (by rw [fv_zero H]; exact hs.below hb) (ht.below hb)
  have HSE := hid fun W (hb : Below w.heap.size w W) => settledR n (setF xs) 0 0 A m c W hn6 (View.zero n) (by rw [fv_zero H]; exact hs.below hb)
  have hst0 := len_stop (n := n) (F := setF xs) (ts := ts) (r := -1) (a := 0) (i := 0) (.inl rfl)
  rw [decide_eq_true rfl, Bool.true_and] at hst0
  have hFI : firstN ts = if L = 0 then -1 else 0 := by unfold firstN; rw [hl]
  rw [lf_zero] at HLN HSE
  have FN : Fits (n : Int) := ⟨by omega, by omega⟩
  have hp2 := p2_nat n
  have h64 := two6 hn6
  have hpp := Nat.two_pow_pos n
  have hpb : 1 ≤ p2 (n : Int) ∧ p2 (n : Int) ≤ 64 := by omega
  have HR0 := hid (show L = 0 → lenN n (setF xs) ts (firstN ts) 0 0 = (0, settl (2 ^ n) (setF xs).testBit 0 0) from fun h => by rw [hFI, if_pos h, hst0])
  have HR1 := hid (show L ≠ 0 → lenN n (setF xs) ts (firstN ts) 0 0 = lenN n (setF xs) ts 0 0 0 from fun h => by rw [hFI, if_neg h])
  generalize setF xs = F at *
  clear hl hs ht hp H hst0 hFI hp2 h64 hpp
  go_enter Tryd.func41, Tryd.ntmps41
  go_wp2
  go_loopg [15] L (fun gk i wr => ∃ q : Nat, gk + q = L ∧ i = .int .i64 q ∧ True ∧ Hid (Below w.heap.size w wr))
  case atStart => exact ⟨0, by omega, rfl, trivial, hid (Below.refl _ _)⟩
  case round =>
    obtain ⟨q, hq, rfl, HA, HW⟩ := hrel
    have HQ := hid hq
    have hz := HW.out.size
    by_cases hlt : q < L
    · have HLT := hid hlt
      obtain ⟨b1, o, hTe, lb, hx, a0, a1, a2⟩ := HS.out.at hlt
      have h0 : wr.cell? ⟨b1, o + q * 3, none⟩ = some (.int .i64 (nd ts q).pt) := (HW.out.cell (p := ⟨b1, o + q * 3, none⟩) lb).trans a0
      have h1 : wr.cell? ⟨b1, o + q * 3 + 1, none⟩ = some (.int .i64 (nd ts q).zero) := (HW.out.cell (p := ⟨b1, o + (q * 3 + 1), none⟩) lb).trans a1
      have h2 : wr.cell? ⟨b1, o + q * 3 + 2, none⟩ = some (.int .i64 (nd ts q).one) := (HW.out.cell (p := ⟨b1, o + (q * 3 + 2), none⟩) lb).trans a2
      have lb1 : b1 < wr.heap.size := by omega
      have hnd9 := HOK.out q _ hx
      subst hTe
      clear a0 a1 a2 lb hx
      generalize hnd : nd ts (q : Int) = u at *
      obtain ⟨pt, ze, on⟩ := u
      simp only at h0 h1 h2
      clear hnd
      have HB1 := hid (HW.out.alloc hz (.cells #[.int .i64 pt, .int .i64 ze, .int .i64 on] 93))
      have HP := HEL.out pt
      have HNX := trivial
      obtain ⟨⟨p0, p1⟩, ko0, ko1⟩ := hnd9
      simp only at p0 p1 ko0 ko1
      rw [decide_eq_true p0, decide_eq_true p1] at HP
      have HPH := hid HP
      clear HP p0 p1
      rcases goOk_cases (j := q) (len := L) (z := ze) with ⟨e1, hok⟩ | ⟨e1, e2, hok⟩ | ⟨e1, e2, e3, hok⟩ | ⟨e1, e2, e3, hok⟩
      · have g1 : (ze == -1) = true := by rw [beq_iff_eq]; exact e1
        have g1' : (ze != -1) = false := by rw [e1]; rfl
        clear e1 hok
        rcases goOk_cases (j := q) (len := L) (z := on) with ⟨e1, hok⟩ | ⟨e1, e2, hok⟩ | ⟨e1, e2, e3, hok⟩ | ⟨e1, e2, e3, hok⟩
        · have h1 : (on == -1) = true := by rw [beq_iff_eq]; exact e1
          have h1' : (on != -1) = false := by rw [e1]; rfl
          clear e1 hok ko0 ko1
          go_wp2_with fail
          refine (HPH.out _).mono ?_; rintro e wx ⟨rfl, rfl⟩
          go_wp2
          go_roundg (gk - 1)
          case measure => have := HQ.out; have := HLT.out; omega
          case rel => exact ⟨q + 1, by have := HQ.out; have := HLT.out; omega, by go_num, HNX, HB1⟩
        · have h1' : (on != -1) = true := by simp; exact e1
          have h2 : decide (on ≤ (q : Int)) = true := decide_eq_true e2
          exact absurd ko1 hok
        · have h1' : (on != -1) = true := by simp; exact e1
          have h2 : decide (on ≤ (q : Int)) = false := decide_eq_false (by omega)
          have h3 : decide ((L : Int) ≤ on) = true := decide_eq_true e3
          exact absurd ko1 hok
        · have h1' : (on != -1) = true := by simp; exact e1
          have h2 : decide (on ≤ (q : Int)) = false := decide_eq_false (by omega)
          have h3 : decide ((L : Int) ≤ on) = false := decide_eq_false (by omega)
          clear e1 e2 e3 hok ko0 ko1
          go_wp2_with fail
          refine (HPH.out _).mono ?_; rintro e wx ⟨rfl, rfl⟩
          go_wp2
          go_roundg (gk - 1)
          case measure => have := HQ.out; have := HLT.out; omega
          case rel => exact ⟨q + 1, by have := HQ.out; have := HLT.out; omega, by go_num, HNX, HB1⟩
      · have g1' : (ze != -1) = true := by simp; exact e1
        have g2 : decide (ze ≤ (q : Int)) = true := decide_eq_true e2
        exact absurd ko0 hok
      · have g1' : (ze != -1) = true := by simp; exact e1
        have g2 : decide (ze ≤ (q : Int)) = false := decide_eq_false (by omega)
        have g3 : decide ((L : Int) ≤ ze) = true := decide_eq_true e3
        exact absurd ko0 hok
      · have g1' : (ze != -1) = true := by simp; exact e1
        have g2 : decide (ze ≤ (q : Int)) = false := decide_eq_false (by omega)
        have g3 : decide ((L : Int) ≤ ze) = false := decide_eq_false (by omega)
        clear e1 e2 e3 hok
        rcases goOk_cases (j := q) (len := L) (z := on) with ⟨e1, hok⟩ | ⟨e1, e2, hok⟩ | ⟨e1, e2, e3, hok⟩ | ⟨e1, e2, e3, hok⟩
        · have h1 : (on == -1) = true := by rw [beq_iff_eq]; exact e1
          have h1' : (on != -1) = false := by rw [e1]; rfl
          clear e1 hok ko0 ko1
          go_wp2_with fail
          refine (HPH.out _).mono ?_; rintro e wx ⟨rfl, rfl⟩
          go_wp2
          go_roundg (gk - 1)
          case measure => have := HQ.out; have := HLT.out; omega
          case rel => exact ⟨q + 1, by have := HQ.out; have := HLT.out; omega, by go_num, HNX, HB1⟩
        · have h1' : (on != -1) = true := by simp; exact e1
          have h2 : decide (on ≤ (q : Int)) = true := decide_eq_true e2
          exact absurd ko1 hok
        · have h1' : (on != -1) = true := by simp; exact e1
          have h2 : decide (on ≤ (q : Int)) = false := decide_eq_false (by omega)
          have h3 : decide ((L : Int) ≤ on) = true := decide_eq_true e3
          exact absurd ko1 hok
        · have h1' : (on != -1) = true := by simp; exact e1
          have h2 : decide (on ≤ (q : Int)) = false := decide_eq_false (by omega)
          have h3 : decide ((L : Int) ≤ on) = false := decide_eq_false (by omega)
          clear e1 e2 e3 hok ko0 ko1
          go_wp2_with fail
          refine (HPH.out _).mono ?_; rintro e wx ⟨rfl, rfl⟩
          go_wp2
          go_roundg (gk - 1)
          case measure => have := HQ.out; have := HLT.out; omega
          case rel => exact ⟨q + 1, by have := HQ.out; have := HLT.out; omega, by go_num, HNX, HB1⟩
    · obtain rfl : q = L := by have := HQ.out; omega
      clear hq hlt
      by_cases h0 : q = 0
      · have HRX := hid (HR0.out h0)
        clear HR0 HR1
        subst h0
        go_wp2_with fail
        refine (HSE.out _ HW.out).mono ?_; rintro e w5 ⟨rfl, rfl⟩
        go_wp2
        go_ret2
        exact ⟨by rw [HRX.out]; rfl, HW.out⟩
      · have g0 : ((q : Int) == 0) = false := by rw [beq_eq_false_iff_ne]; omega
        have g0n : (q == 0) = false := by rw [beq_eq_false_iff_ne]; exact h0
        have HL0 := HLN.out 0 wr (.inr (by omega)) HW.out
        have HL0 := hid HL0
        have HRR := hid (HR1.out h0)
        clear h0
        go_wp2_with fail
        refine (HL0.out).mono ?_; rintro e w5 ⟨rfl, b5⟩
        have HB5 := hid (below_call HW.out b5 hz)
        clear b5
        go_wp2
        go_ret2
        exact ⟨by rw [HRR.out]; rfl, HB5.out⟩
set_option maxRecDepth 100000 in
set_option maxHeartbeats 8000000 in
theorem refLengthBad (n : Nat) (A : Option Addr) (m c : Nat) (T : Option Addr) (L k : Nat) (ts : List Nd) (w : World) (ht : Sl3 w T L k ts) (hL70 : L ≤ 70) (hp : ¬ okP n ts) :
    Calls Tryd.prog 41 #[.int .i64 n, .slice A m c, .slice T L k] w fun e w' => e = .returned (.tuple #[.int .i64 0, .bool false]) ∧ Below w.heap.size w w' := by
  have hl := ht.len
  have hLL := ht.len_le
  have HS := hid ht
  have g70 : decide (70 < (L : Int)) = false := decide_eq_false (by omega)
  have g70n : decide (70 < L) = false := decide_eq_false (by omega)
  have HEL := hid fun x W => elementF n x W
  have HNO := hid fun (h : ∀ j u, j < L → ts[j]? = some u → ndOk n j L u) => (show False from hp ⟨by omega, fun j u hu => by
    rw [hl]; exact h j u (by have := (List.getElem?_eq_some_iff.1 hu).1; omega) hu⟩)
  clear hl ht hp
  go_enter Tryd.func41, Tryd.ntmps41
  go_wp2
  go_loopg [15] L (fun gk i wr => ∃ q : Nat, gk + q = L ∧ i = .int .i64 q ∧ Hid (∀ j u, j < q → ts[j]? = some u → ndOk n j L u) ∧ Hid (Below w.heap.size w wr))
  case atStart => exact ⟨0, by omega, rfl, hid fun j u h => absurd h (by omega), hid (Below.refl _ _)⟩
  case round =>
    obtain ⟨q, hq, rfl, HA, HW⟩ := hrel
    have HQ := hid hq
    have hz := HW.out.size
    by_cases hlt : q < L
    · have HLT := hid hlt
      obtain ⟨b1, o, hTe, lb, hx, a0, a1, a2⟩ := HS.out.at hlt
      have h0 : wr.cell? ⟨b1, o + q * 3, none⟩ = some (.int .i64 (nd ts q).pt) := (HW.out.cell (p := ⟨b1, o + q * 3, none⟩) lb).trans a0
      have h1 : wr.cell? ⟨b1, o + q * 3 + 1, none⟩ = some (.int .i64 (nd ts q).zero) := (HW.out.cell (p := ⟨b1, o + (q * 3 + 1), none⟩) lb).trans a1
      have h2 : wr.cell? ⟨b1, o + q * 3 + 2, none⟩ = some (.int .i64 (nd ts q).one) := (HW.out.cell (p := ⟨b1, o + (q * 3 + 2), none⟩) lb).trans a2
      have lb1 : b1 < wr.heap.size := by omega
      have HAQ := hid fun (h : ndOk n q L (nd ts q)) => (show ∀ j u, j < q + 1 → ts[j]? = some u → ndOk n j L u from fun j u hj hu => by
        by_cases e : j = q
        · subst e
          rw [hx] at hu
          obtain rfl := Option.some.inj hu
          exact h
        · exact HA.out j u (by omega) hu)
      subst hTe
      clear a0 a1 a2 lb hx
      generalize hnd : nd ts (q : Int) = u at *
      obtain ⟨pt, ze, on⟩ := u
      simp only at h0 h1 h2
      clear hnd
      have HB1 := hid (HW.out.alloc hz (.cells #[.int .i64 pt, .int .i64 ze, .int .i64 on] 93))
      have HP := HEL.out pt
      by_cases hpt : 0 ≤ pt ∧ pt < n
      · rw [decide_eq_true hpt.1, decide_eq_true hpt.2] at HP
        have HPH := hid HP
        have HPT := hid hpt
        clear HP hpt
        rcases goOk_cases (j := q) (len := L) (z := ze) with ⟨e1, hok⟩ | ⟨e1, e2, hok⟩ | ⟨e1, e2, e3, hok⟩ | ⟨e1, e2, e3, hok⟩
        · have g1 : (ze == -1) = true := by rw [beq_iff_eq]; exact e1
          have g1' : (ze != -1) = false := by rw [e1]; rfl
          have HG0 := hid hok
          clear e1 hok
          rcases goOk_cases (j := q) (len := L) (z := on) with ⟨e1, hok⟩ | ⟨e1, e2, hok⟩ | ⟨e1, e2, e3, hok⟩ | ⟨e1, e2, e3, hok⟩
          · have h1 : (on == -1) = true := by rw [beq_iff_eq]; exact e1
            have h1' : (on != -1) = false := by rw [e1]; rfl
            have HNX := hid (HAQ.out ⟨HPT.out, HG0.out, hok⟩)
            clear e1 hok
            go_wp2_with fail
            refine (HPH.out _).mono ?_; rintro e wx ⟨rfl, rfl⟩
            go_wp2
            go_roundg (gk - 1)
            case measure => have := HQ.out; have := HLT.out; omega
            case rel => exact ⟨q + 1, by have := HQ.out; have := HLT.out; omega, by go_num, HNX, HB1⟩
          · have h1' : (on != -1) = true := by simp; exact e1
            have h2 : decide (on ≤ (q : Int)) = true := decide_eq_true e2
            clear e1 e2 hok
            go_wp2_with fail
            refine (HPH.out _).mono ?_; rintro e wx ⟨rfl, rfl⟩
            go_wp2
            go_ret2
            exact ⟨rfl, HB1.out⟩
          · have h1' : (on != -1) = true := by simp; exact e1
            have h2 : decide (on ≤ (q : Int)) = false := decide_eq_false (by omega)
            have h3 : decide ((L : Int) ≤ on) = true := decide_eq_true e3
            clear e1 e2 e3 hok
            go_wp2_with fail
            refine (HPH.out _).mono ?_; rintro e wx ⟨rfl, rfl⟩
            go_wp2
            go_ret2
            exact ⟨rfl, HB1.out⟩
          · have h1' : (on != -1) = true := by simp; exact e1
            have h2 : decide (on ≤ (q : Int)) = false := decide_eq_false (by omega)
            have h3 : decide ((L : Int) ≤ on) = false := decide_eq_false (by omega)
            have HNX := hid (HAQ.out ⟨HPT.out, HG0.out, hok⟩)
            clear e1 e2 e3 hok
            go_wp2_with fail
            refine (HPH.out _).mono ?_; rintro e wx ⟨rfl, rfl⟩
            go_wp2
            go_roundg (gk - 1)
            case measure => have := HQ.out; have := HLT.out; omega
            case rel => exact ⟨q + 1, by have := HQ.out; have := HLT.out; omega, by go_num, HNX, HB1⟩
        · have g1' : (ze != -1) = true := by simp; exact e1
          have g2 : decide (ze ≤ (q : Int)) = true := decide_eq_true e2
          clear e1 e2 hok
          go_wp2_with fail
          refine (HPH.out _).mono ?_; rintro e wx ⟨rfl, rfl⟩
          go_wp2
          go_ret2
          exact ⟨rfl, HB1.out⟩
        · have g1' : (ze != -1) = true := by simp; exact e1
          have g2 : decide (ze ≤ (q : Int)) = false := decide_eq_false (by omega)
          have g3 : decide ((L : Int) ≤ ze) = true := decide_eq_true e3
          clear e1 e2 e3 hok
          go_wp2_with fail
          refine (HPH.out _).mono ?_; rintro e wx ⟨rfl, rfl⟩
          go_wp2
          go_ret2
          exact ⟨rfl, HB1.out⟩
        · have g1' : (ze != -1) = true := by simp; exact e1
          have g2 : decide (ze ≤ (q : Int)) = false := decide_eq_false (by omega)
          have g3 : decide ((L : Int) ≤ ze) = false := decide_eq_false (by omega)
          have HG0 := hid hok
          clear e1 e2 e3 hok
          rcases goOk_cases (j := q) (len := L) (z := on) with ⟨e1, hok⟩ | ⟨e1, e2, hok⟩ | ⟨e1, e2, e3, hok⟩ | ⟨e1, e2, e3, hok⟩
          · have h1 : (on == -1) = true := by rw [beq_iff_eq]; exact e1
            have h1' : (on != -1) = false := by rw [e1]; rfl
            have HNX := hid (HAQ.out ⟨HPT.out, HG0.out, hok⟩)
            clear e1 hok
            go_wp2_with fail
            refine (HPH.out _).mono ?_; rintro e wx ⟨rfl, rfl⟩
            go_wp2
            go_roundg (gk - 1)
            case measure => have := HQ.out; have := HLT.out; omega
            case rel => exact ⟨q + 1, by have := HQ.out; have := HLT.out; omega, by go_num, HNX, HB1⟩
          · have h1' : (on != -1) = true := by simp; exact e1
            have h2 : decide (on ≤ (q : Int)) = true := decide_eq_true e2
            clear e1 e2 hok
            go_wp2_with fail
            refine (HPH.out _).mono ?_; rintro e wx ⟨rfl, rfl⟩
            go_wp2
            go_ret2
            exact ⟨rfl, HB1.out⟩
          · have h1' : (on != -1) = true := by simp; exact e1
            have h2 : decide (on ≤ (q : Int)) = false := decide_eq_false (by omega)
            have h3 : decide ((L : Int) ≤ on) = true := decide_eq_true e3
            clear e1 e2 e3 hok
            go_wp2_with fail
            refine (HPH.out _).mono ?_; rintro e wx ⟨rfl, rfl⟩
            go_wp2
            go_ret2
            exact ⟨rfl, HB1.out⟩
          · have h1' : (on != -1) = true := by simp; exact e1
            have h2 : decide (on ≤ (q : Int)) = false := decide_eq_false (by omega)
            have h3 : decide ((L : Int) ≤ on) = false := decide_eq_false (by omega)
            have HNX := hid (HAQ.out ⟨HPT.out, HG0.out, hok⟩)
            clear e1 e2 e3 hok
            go_wp2_with fail
            refine (HPH.out _).mono ?_; rintro e wx ⟨rfl, rfl⟩
            go_wp2
            go_roundg (gk - 1)
            case measure => have := HQ.out; have := HLT.out; omega
            case rel => exact ⟨q + 1, by have := HQ.out; have := HLT.out; omega, by go_num, HNX, HB1⟩
      · have hpf : (decide (0 ≤ pt) && decide (pt < (n : Int))) = false := by
          rw [Bool.and_eq_false_iff, decide_eq_false_iff_not, decide_eq_false_iff_not]; omega
        rw [hpf] at HP
        have HPH := hid HP
        clear HP hpt hpf
        go_wp2_with fail
        refine (HPH.out _).mono ?_; rintro e wx ⟨rfl, rfl⟩
        go_wp2
        go_ret2
        exact ⟨rfl, HB1.out⟩
    · exact absurd (fun j u hj hu => HA.out j u (by omega) hu) HNO.out
end Go.Proofs.YtjddbglbodkihaaDoor
