/- Walks of family.isPlan, evade.Plan and Check. Conditions: the slices read as numbers and nodes; the table of the library stands. -/
import Derived.Test.YtjddbglbodkihaaDoorPlanM
import Derived.Test.YtjddbglbodkihaaDoorSettle
import Derived.Test.YtjddbglbodkihaaDoorPlanW
import Derived.Test.YtjddbglbodkihaaDoorAskP
namespace Go.Proofs.YtjddbglbodkihaaDoor
open Go.RowKit Go.Maps

theorem goOk_cases {j len : Nat} {z : Int} : (z = -1 ∧ goOk j len z) ∨ (z ≠ -1 ∧ z ≤ j ∧ ¬ goOk j len z) ∨ (z ≠ -1 ∧ (j : Int) < z ∧ (len : Int) ≤ z ∧ ¬ goOk j len z) ∨ (z ≠ -1 ∧ (j : Int) < z ∧ z < len ∧ goOk j len z) := by
  unfold goOk
  by_cases h1 : z = -1
  · exact .inl ⟨h1, .inl h1⟩
  · by_cases h2 : z ≤ j
    · exact .inr (.inl ⟨h1, h2, by omega⟩)
    · by_cases h3 : (len : Int) ≤ z
      · exact .inr (.inr (.inl ⟨h1, by omega, h3, by omega⟩))
      · exact .inr (.inr (.inr ⟨h1, by omega, by omega, .inr ⟨by omega, by omega⟩⟩))
set_option maxRecDepth 100000 in
set_option maxHeartbeats 4000000 in
theorem isPlanF (n F : Nat) (T : Option Addr) (L k : Nat) (ts : List Nd) (w : World) (hs : Sl3 w T L k ts) (b : Bool) (hb : b = true ↔ okP n ts) :
    Calls Tryd.prog 75 #[.agg #[.int .i64 n, .int .u64 F], .slice T L k] w fun e w' => e = .returned (.bool b) ∧ Below w.heap.size w w' := by
  have hl := hs.len
  have hLL := hs.len_le
  have HS := hid hs
  have HBF := hid fun j u (hj : ts[j]? = some u) (h : ¬ ndOk n j L u) => (show b = false from by
    cases e : b
    · rfl
    · exact absurd ((hb.1 e).2 j u hj) (by rw [hl]; exact h))
  have HBE := hid fun (h : ∀ j u, ts[j]? = some u → ndOk n j L u) => (show b = decide (L ≤ 70) from by
    rw [Bool.eq_iff_iff, hb, decide_eq_true_iff]
    constructor
    · intro h2; rw [← hl]; exact h2.1
    · intro h2; exact ⟨by omega, fun j u hu => by rw [hl]; exact h j u hu⟩)
  clear hl hs hb
  go_enter Tryd.func75, Tryd.ntmps75
  go_wp2
  go_loopg [11] L (fun gk i wr => ∃ q : Nat, gk + q = L ∧ i = .int .i64 q ∧ Hid (∀ j u, j < q → ts[j]? = some u → ndOk n j L u) ∧ Hid (Blk wr w.heap.size 72 #[.int .i64 n, .int .u64 F]) ∧ Hid (Below w.heap.size w wr))
  case atStart => exact ⟨0, by omega, rfl, hid fun j u h => absurd h (by omega), hid (Blk.new w _ _), hid ((Below.refl _ _).alloc (Nat.le_refl _) _)⟩
  case round =>
    obtain ⟨q, hq, rfl, HA, HBk, HW⟩ := hrel
    have HQ := hid hq
    have hz := HW.out.size
    by_cases hlt : q < L
    · have HLT := hid hlt
      obtain ⟨b1, o, hTe, lb, hx, a0, a1, a2⟩ := HS.out.at hlt
      have h0 : wr.cell? ⟨b1, o + q * 3, none⟩ = some (.int .i64 (nd ts q).pt) := (HW.out.cell (p := ⟨b1, o + q * 3, none⟩) lb).trans a0
      have h1 : wr.cell? ⟨b1, o + q * 3 + 1, none⟩ = some (.int .i64 (nd ts q).zero) := (HW.out.cell (p := ⟨b1, o + (q * 3 + 1), none⟩) lb).trans a1
      have h2 : wr.cell? ⟨b1, o + q * 3 + 2, none⟩ = some (.int .i64 (nd ts q).one) := (HW.out.cell (p := ⟨b1, o + (q * 3 + 2), none⟩) lb).trans a2
      have lb1 : b1 < wr.heap.size := by omega
      have HBQ := hid fun h => HBF.out q _ hx h
      have HAQ := hid fun (h : ndOk n q L (nd ts q)) => (show ∀ j u, j < q + 1 → ts[j]? = some u → ndOk n j L u from fun j u hj hu => by
        by_cases e : j = q
        · subst e
          rw [hx] at hu
          obtain rfl := Option.some.inj hu
          exact h
        · exact HA.out j u (by omega) hu)
      subst hTe
      have n0 := HBk.out.cell 0
      have nlt := HBk.out.lt
      simp only [List.getElem?_toArray, List.getElem?_cons_zero] at n0
      clear a0 a1 a2 lb hx
      generalize hnd : nd ts (q : Int) = u at *
      obtain ⟨pt, ze, on⟩ := u
      simp only at h0 h1 h2
      clear hnd
      have HB1 := hid (HW.out.alloc hz (.cells #[.int .i64 pt, .int .i64 ze, .int .i64 on] 94))
      have HK1 := hid (HBk.out.alloc (.cells #[.int .i64 pt, .int .i64 ze, .int .i64 on] 94))
      by_cases hp0 : pt < 0
      · have g : decide (pt < 0) = true := decide_eq_true hp0
        have HE := hid (HBQ.out fun h => by have := h.1.1; simp at this; omega)
        clear hp0
        go_wp2
        go_ret
        exact ⟨ret_b HE.out, HB1.out⟩
      · have g : decide (pt < 0) = false := decide_eq_false hp0
        by_cases hpn : (n : Int) ≤ pt
        · have gn : decide ((n : Int) ≤ pt) = true := decide_eq_true hpn
          have HE := hid (HBQ.out fun h => by have := h.1.2; simp at this; omega)
          clear hp0 hpn
          go_wp2
          go_ret
          exact ⟨ret_b HE.out, HB1.out⟩
        · have gn : decide ((n : Int) ≤ pt) = false := decide_eq_false hpn
          have HP := hid (show 0 ≤ pt ∧ pt < n from by omega)
          clear hp0 hpn
          have HB2 := hid (HB1.out.alloc HB1.out.size (.cells #[.int .i64 ze, .int .i64 on] 3))
          have HK2 := hid (HK1.out.alloc (.cells #[.int .i64 ze, .int .i64 on] 3))
          have PR := hid (Blk.new_at (wr.alloc (.cells #[.int .i64 pt, .int .i64 ze, .int .i64 on] 94)) 3 #[.int .i64 ze, .int .i64 on] (n := wr.heap.size + 1) (by simp))
          go_wp2
          refine at_world fun W2 hW2 => ?_
          rw [← hW2] at HB2 HK2 PR
          clear hW2
          have p0 := PR.out.cell 0
          have p1 := PR.out.cell 1
          have plt := PR.out.lt
          simp only [List.getElem?_toArray, List.getElem?_cons_zero, List.getElem?_cons_succ] at p0 p1
          have hLp : 0 < L := by omega
          go_loopg [32] 2 (fun gj ix wi => ∃ j : Nat, gj + j = 2 ∧ ix = .int .i64 j ∧ W2 = wi ∧ Hid (0 < j → goOk q L ze) ∧ Hid (1 < j → goOk q L on))
          case atStart => exact ⟨0, rfl, rfl, rfl, hid fun h => absurd h (by omega), hid fun h => absurd h (by omega)⟩
          case round =>
            obtain ⟨j, hj, rfl, rfl, HG0, HG1⟩ := hrel
            have HJ := hid hj
            by_cases hlt2 : j < 2
            · have HLT2 := hid hlt2
              by_cases hj0 : j = 0
              · subst hj0
                have GC := goOk_cases (j := q) (len := L) (z := ze)
                rcases GC with ⟨e1, hok⟩ | ⟨e1, e2, hok⟩ | ⟨e1, e2, e3, hok⟩ | ⟨e1, e2, e3, hok⟩
                · have g1 : (ze == -1) = true := by rw [beq_iff_eq]; exact e1
                  have g1' : (ze != -1) = false := by rw [e1]; rfl
                  have g3 : decide ((L : Int) ≤ ze) = false := decide_eq_false (by omega)
                  have HO := hid hok
                  clear hok
                  go_wp2
                  go_roundg (gk - 1)
                  case measure => omega
                  case rel => exact ⟨1, by omega, rfl, rfl, hid fun _ => HO.out, hid fun h => absurd h (by omega)⟩
                · have g1' : (ze != -1) = true := by simp; exact e1
                  have g2 : decide (ze ≤ (q : Int)) = true := decide_eq_true e2
                  have HE := hid (HBQ.out fun h => hok (by have := h.2.1; exact this))
                  clear hok e1 e2
                  go_wp2
                  go_ret
                  exact ⟨ret_b HE.out, HB2.out⟩
                · have g1' : (ze != -1) = true := by simp; exact e1
                  have g2 : decide (ze ≤ (q : Int)) = false := decide_eq_false (by omega)
                  have g3 : decide ((L : Int) ≤ ze) = true := decide_eq_true e3
                  have HE := hid (HBQ.out fun h => hok (by have := h.2.1; exact this))
                  clear hok e1 e2 e3
                  go_wp2
                  go_ret
                  exact ⟨ret_b HE.out, HB2.out⟩
                · have g1' : (ze != -1) = true := by simp; exact e1
                  have g2 : decide (ze ≤ (q : Int)) = false := decide_eq_false (by omega)
                  have g3 : decide ((L : Int) ≤ ze) = false := decide_eq_false (by omega)
                  have HO := hid hok
                  clear hok e1 e2 e3
                  go_wp2
                  go_roundg (gk - 1)
                  case measure => omega
                  case rel => exact ⟨1, by omega, rfl, rfl, hid fun _ => HO.out, hid fun h => absurd h (by omega)⟩
              · have hj0 : j = 1 := by omega
                subst hj0
                have GC := goOk_cases (j := q) (len := L) (z := on)
                rcases GC with ⟨e1, hok⟩ | ⟨e1, e2, hok⟩ | ⟨e1, e2, e3, hok⟩ | ⟨e1, e2, e3, hok⟩
                · have g1 : (on == -1) = true := by rw [beq_iff_eq]; exact e1
                  have g1' : (on != -1) = false := by rw [e1]; rfl
                  have g3 : decide ((L : Int) ≤ on) = false := decide_eq_false (by omega)
                  have HO := hid hok
                  clear hok
                  go_wp2
                  go_roundg (gk - 1)
                  case measure => omega
                  case rel => exact ⟨2, by omega, rfl, rfl, hid fun _ => HG0.out (by decide), hid fun h => HO.out⟩
                · have g1' : (on != -1) = true := by simp; exact e1
                  have g2 : decide (on ≤ (q : Int)) = true := decide_eq_true e2
                  have HE := hid (HBQ.out fun h => hok (by have := h.2.2; exact this))
                  clear hok e1 e2
                  go_wp2
                  go_ret
                  exact ⟨ret_b HE.out, HB2.out⟩
                · have g1' : (on != -1) = true := by simp; exact e1
                  have g2 : decide (on ≤ (q : Int)) = false := decide_eq_false (by omega)
                  have g3 : decide ((L : Int) ≤ on) = true := decide_eq_true e3
                  have HE := hid (HBQ.out fun h => hok (by have := h.2.2; exact this))
                  clear hok e1 e2 e3
                  go_wp2
                  go_ret
                  exact ⟨ret_b HE.out, HB2.out⟩
                · have g1' : (on != -1) = true := by simp; exact e1
                  have g2 : decide (on ≤ (q : Int)) = false := decide_eq_false (by omega)
                  have g3 : decide ((L : Int) ≤ on) = false := decide_eq_false (by omega)
                  have HO := hid hok
                  clear hok e1 e2 e3
                  go_wp2
                  go_roundg (gk - 1)
                  case measure => omega
                  case rel => exact ⟨2, by omega, rfl, rfl, hid fun _ => HG0.out (by decide), hid fun h => HO.out⟩
            · have HQN := hid (HAQ.out ⟨HP.out, HG0.out (by omega), HG1.out (by omega)⟩)
              obtain rfl : j = 2 := by omega
              clear hj
              go_wp2
              go_roundg (L - q - 1)
              case measure => have := HQ.out; have := HLT.out; omega
              case rel => exact ⟨q + 1, by have := HQ.out; have := HLT.out; omega, by go_num, HQN, HK2, HB2⟩
    · obtain rfl : q = L := by have := HQ.out; omega
      have HE := hid (HBE.out fun j u hu => HA.out j u (by
        have := (List.getElem?_eq_some_iff.1 hu).1
        have := HS.out.len
        omega) hu)
      clear hq hlt
      by_cases h70 : q ≤ 70
      · have g1 : decide ((q : Int) ≤ 70) = true := decide_eq_true (by omega)
        have g2 : decide (q ≤ 70) = true := decide_eq_true h70
        have HE2 := hid (show b = true from by rw [HE.out, g2])
        clear h70
        go_wp2
        go_ret
        exact ⟨ret_b HE2.out, HW.out⟩
      · have g1 : decide ((q : Int) ≤ 70) = false := decide_eq_false (by omega)
        have g2 : decide (q ≤ 70) = false := decide_eq_false h70
        have HE2 := hid (show b = false from by rw [HE.out, g2])
        clear h70
        go_wp2
        go_ret
        exact ⟨ret_b HE2.out, HW.out⟩
attribute [local go_sem ↓] shl_p2 shl_u or_u shr_u and_shrF shr_v and_shr andNot_v and_nn or_i

set_option maxRecDepth 100000 in
set_option maxHeartbeats 2000000 in
theorem planYes (n : Nat) (A : Option Addr) (m c : Nat) (xs : List Int) (w : World) (hs : Sl w A m c (xs.map (Value.int .i64))) (hT : Tab w) (H : Fam n xs) :
    Calls Tryd.prog 36 #[.int .i64 n, .slice A m c] w fun e w' => ∃ A' c', e = .returned (.tuple #[.slice A' (planL n (setF xs) 0 0 0).length c', .int .i64 0]) ∧ w'.ownsRow w.heap.size 94 3 (.slice A' (planL n (setF xs) 0 0 0).length c') (planL n (setF xs) 0 0 0).length (flatN (planL n (setF xs) 0 0 0)) ∧ Below w.heap.size w w' := by
  have h6 : n ≤ 6 := by have := H.n6; omega
  have h64 := two6 h6
  have HRD := hid (readYes n A m c xs w hs hT H)
  have HA := hid fun W => askerF n (setF xs) W
  have hF := fam64 h6 H.lt
  have HP := hid fun s M1 M2 (W : World) (h1 : s < W.heap.size) (h2 : M1 < W.heap.size) (h3 : M2 < W.heap.size) (hW : AS W s n (setF xs) M1 M2 (bestN n (setF xs).testBit)) => planS W.heap.size s n (setF xs) M1 M2 h6 hF ⟨h1, h2, h3⟩ (un n 0) 0 0 W (.slice none 0 0) 0 [] rfl (View.zero n) rfl (by rw [un_none]; omega) hW (Nat.le_refl _) (World.ownsRow_nil _ _ _ _)
  clear hs hT H h6 hF h64
  generalize setF xs = F at *
  go_enter Tryd.func36, Tryd.ntmps36
  go_wp2_with fail
  refine (HRD.out).mono ?_; rintro e w1 ⟨rfl, hb1⟩
  have HB1 := hid hb1
  clear hb1
  go_wp2_with fail
  have HB2 := hid (HB1.out.alloc HB1.out.size (.cells #[.int .i64 n, .int .u64 F] 72))
  refine (HA.out _).mono ?_; rintro e w2 ⟨⟨s, M1, M2, rfl, g0, g1, g2, has⟩, hb2⟩
  have HB3 := hid (below_call HB2.out hb2 HB2.out.size)
  have GG : Hid (w.heap.size ≤ M1 ∧ w.heap.size ≤ M2) := hid (by have := HB2.out.size; exact ⟨by omega, by omega⟩)
  have HX := hid has
  clear hb2 has g0 g1 g2
  go_wp2_with fail
  refine (HP.out s M1 M2 _ HX.out.lt.1 HX.out.lt.2.1 HX.out.lt.2.2 HX.out).mono ?_; rintro e w3 ⟨t', rfl, ho, -, hc, -⟩
  obtain ⟨A', c', rfl⟩ := own_form ho
  have HB4 := hid (Chg.below HB3.out hc HB3.out.size fun i hi => by
    rcases hi with (hi | hi) | hi
    · have := GG.out.1; omega
    · have := GG.out.2; omega
    · cases hi)
  have HO := hid (own_more ho HB3.out.size)
  clear ho hc
  simp only [Nat.zero_add] at HO
  go_wp2
  go_ret2
  exact ⟨A', c', by simp, HO.out, HB4.out⟩
set_option maxRecDepth 100000 in
set_option maxHeartbeats 2000000 in
theorem planNo (n : Int) (A : Option Addr) (m c : Nat) (xs : List Int) (w : World) (hs : Sl w A m c (xs.map (Value.int .i64))) (hT : Tab w) (H : ¬ Fam n xs) :
    Calls Tryd.prog 36 #[.int .i64 n, .slice A m c] w fun e w' => e = .returned (.tuple #[.slice none 0 0, .int .i64 2]) ∧ Below w.heap.size w w' := by
  have HRD := hid (readNo n A m c xs w hs hT H)
  clear hs hT H
  go_enter Tryd.func36, Tryd.ntmps36
  go_wp2_with fail
  refine (HRD.out).mono ?_; rintro e w1 ⟨⟨G, rfl⟩, hb1⟩
  have HB1 := hid hb1
  clear hb1
  go_wp2
  go_ret2
  exact ⟨rfl, HB1.out.alloc HB1.out.size _⟩
set_option maxRecDepth 100000 in
set_option maxHeartbeats 2000000 in
theorem checkNo (n : Int) (A : Option Addr) (m c : Nat) (xs : List Int) (T : Option Addr) (L k : Nat) (w : World) (hs : Sl w A m c (xs.map (Value.int .i64))) (hT : Tab w) (H : ¬ Fam n xs) :
    Calls Tryd.prog 37 #[.int .i64 n, .slice A m c, .slice T L k] w fun e w' => e = .returned (.tuple #[.int .i64 0, .bool false, .int .i64 2]) ∧ Below w.heap.size w w' := by
  have HRD := hid (readNo n A m c xs w hs hT H)
  clear hs hT H
  go_enter Tryd.func37, Tryd.ntmps37
  go_wp2_with fail
  refine (HRD.out).mono ?_; rintro e w1 ⟨⟨G, rfl⟩, hb1⟩
  have HB1 := hid hb1
  clear hb1
  go_wp2
  go_ret3
  exact ⟨rfl, HB1.out.alloc HB1.out.size _⟩
set_option maxRecDepth 100000 in
set_option maxHeartbeats 2000000 in
theorem checkBad (n : Nat) (A : Option Addr) (m c : Nat) (xs : List Int) (T : Option Addr) (L k : Nat) (ts : List Nd) (w : World) (hs : Sl w A m c (xs.map (Value.int .i64))) (ht : Sl3 w T L k ts) (hT : Tab w) (H : Fam n xs) (hp : ¬ okP n ts) :
    Calls Tryd.prog 37 #[.int .i64 n, .slice A m c, .slice T L k] w fun e w' => e = .returned (.tuple #[.int .i64 0, .bool false, .int .i64 0]) ∧ Below w.heap.size w w' := by
  have HRD := hid (readYes n A m c xs w hs hT H)
  have HIP := hid fun W (hb : Below w.heap.size w W) => isPlanF n (setF xs) T L k ts W (ht.below hb) false (by constructor <;> intro h; cases h; exact absurd h hp)
  generalize setF xs = F at *
  clear hs hT H ht hp
  go_enter Tryd.func37, Tryd.ntmps37
  go_wp2_with fail
  refine (HRD.out).mono ?_; rintro e w1 ⟨rfl, hb1⟩
  have HB1 := hid hb1
  clear hb1
  go_wp2_with fail
  have HB2 := hid (HB1.out.alloc HB1.out.size (.cells #[.int .i64 n, .int .u64 F] 72))
  refine (HIP.out _ HB2.out).mono ?_; rintro e w2 ⟨rfl, hb2⟩
  have HB3 := hid (below_call HB2.out hb2 HB2.out.size)
  clear hb2
  go_wp2
  go_ret3
  exact ⟨rfl, HB3.out⟩
set_option maxRecDepth 100000 in
set_option maxHeartbeats 2000000 in
theorem checkYes (n : Nat) (A : Option Addr) (m c : Nat) (xs : List Int) (T : Option Addr) (L k : Nat) (ts : List Nd) (w : World) (hs : Sl w A m c (xs.map (Value.int .i64))) (ht : Sl3 w T L k ts) (hT : Tab w) (H : Fam n xs) (hp : okP n ts) (l : Nat) (b : Bool) (hl : lenN n (setF xs) ts (firstN ts) 0 0 = (l, b)) :
    Calls Tryd.prog 37 #[.int .i64 n, .slice A m c, .slice T L k] w fun e w' => e = .returned (.tuple #[.int .i64 (if b = true then l else 0 : Nat), .bool b, .int .i64 0]) ∧ Below w.heap.size w w' := by
  have h6 : n ≤ 6 := by have := H.n6; omega
  have hF := fam64 h6 H.lt
  have hlen := ht.len
  have HRD := hid (readYes n A m c xs w hs hT H)
  have HIP := hid fun W (hb : Below w.heap.size w W) => isPlanF n (setF xs) T L k ts W (ht.below hb) true ⟨fun _ => hp, fun _ => rfl⟩
  have hfo : atOk L (firstN ts) := by
    unfold atOk firstN
    rw [hlen]
    by_cases h : L = 0
    · rw [if_pos h]; exact .inl rfl
    · rw [if_neg h]; exact .inr (by omega)
  have HLN := hid fun W (hb : Below w.heap.size w W) => lenS n (setF xs) T L k ts h6 hF (fun j u hu => by have := hp.2 j u hu; rwa [hlen] at this) (un n 0) (firstN ts) 0 0 W rfl (View.zero n) hfo (ht.below hb)
  rw [hl] at HLN
  have HFI : Hid (firstN ts = if L = 0 then -1 else 0) := hid (by unfold firstN; rw [hlen])
  have hle := ht.len_le
  rw [HFI.out] at HLN
  generalize setF xs = F at *
  clear hs hT H ht hp hl hfo hF h6 hlen
  by_cases h0 : L = 0
  · subst h0
    simp only [if_true] at HLN
    cases b
    · go_enter Tryd.func37, Tryd.ntmps37
      go_wp2_with fail
      refine (HRD.out).mono ?_; rintro e w1 ⟨rfl, hb1⟩
      have HB1 := hid hb1
      clear hb1
      go_wp2_with fail
      have HB2 := hid (HB1.out.alloc HB1.out.size (.cells #[.int .i64 n, .int .u64 F] 72))
      refine (HIP.out _ HB2.out).mono ?_; rintro e w2 ⟨rfl, hb2⟩
      have HB3 := hid (below_call HB2.out hb2 HB2.out.size)
      have HF3 := hid ((Blk.new w1 72 #[.int .i64 n, .int .u64 F]).keep hb2)
      have f0 := HF3.out.cell 0; have f1 := HF3.out.cell 1
      simp only [List.getElem?_toArray, List.getElem?_cons_zero, List.getElem?_cons_succ] at f0 f1
      clear hb2
      go_wp2_with fail
      refine (HLN.out _ HB3.out).mono ?_; rintro e w3 ⟨rfl, hb3⟩
      have HB4 := hid (below_call HB3.out hb3 HB3.out.size)
      clear hb3
      go_wp2
      go_ret3
      exact ⟨rfl, HB4.out⟩
    · go_enter Tryd.func37, Tryd.ntmps37
      go_wp2_with fail
      refine (HRD.out).mono ?_; rintro e w1 ⟨rfl, hb1⟩
      have HB1 := hid hb1
      clear hb1
      go_wp2_with fail
      have HB2 := hid (HB1.out.alloc HB1.out.size (.cells #[.int .i64 n, .int .u64 F] 72))
      refine (HIP.out _ HB2.out).mono ?_; rintro e w2 ⟨rfl, hb2⟩
      have HB3 := hid (below_call HB2.out hb2 HB2.out.size)
      have HF3 := hid ((Blk.new w1 72 #[.int .i64 n, .int .u64 F]).keep hb2)
      have f0 := HF3.out.cell 0; have f1 := HF3.out.cell 1
      simp only [List.getElem?_toArray, List.getElem?_cons_zero, List.getElem?_cons_succ] at f0 f1
      clear hb2
      go_wp2_with fail
      refine (HLN.out _ HB3.out).mono ?_; rintro e w3 ⟨rfl, hb3⟩
      have HB4 := hid (below_call HB3.out hb3 HB3.out.size)
      clear hb3
      go_wp2
      go_ret3
      exact ⟨rfl, HB4.out⟩
  · have g0 : ((L : Int) == 0) = false := by rw [beq_eq_false_iff_ne]; omega
    have g0n : (L == 0) = false := by rw [beq_eq_false_iff_ne]; exact h0
    rw [if_neg h0] at HLN
    cases b
    · go_enter Tryd.func37, Tryd.ntmps37
      go_wp2_with fail
      refine (HRD.out).mono ?_; rintro e w1 ⟨rfl, hb1⟩
      have HB1 := hid hb1
      clear hb1
      go_wp2_with fail
      have HB2 := hid (HB1.out.alloc HB1.out.size (.cells #[.int .i64 n, .int .u64 F] 72))
      refine (HIP.out _ HB2.out).mono ?_; rintro e w2 ⟨rfl, hb2⟩
      have HB3 := hid (below_call HB2.out hb2 HB2.out.size)
      have HF3 := hid ((Blk.new w1 72 #[.int .i64 n, .int .u64 F]).keep hb2)
      have f0 := HF3.out.cell 0; have f1 := HF3.out.cell 1
      simp only [List.getElem?_toArray, List.getElem?_cons_zero, List.getElem?_cons_succ] at f0 f1
      clear hb2
      go_wp2_with fail
      refine (HLN.out _ HB3.out).mono ?_; rintro e w3 ⟨rfl, hb3⟩
      have HB4 := hid (below_call HB3.out hb3 HB3.out.size)
      clear hb3
      go_wp2
      go_ret3
      exact ⟨rfl, HB4.out⟩
    · go_enter Tryd.func37, Tryd.ntmps37
      go_wp2_with fail
      refine (HRD.out).mono ?_; rintro e w1 ⟨rfl, hb1⟩
      have HB1 := hid hb1
      clear hb1
      go_wp2_with fail
      have HB2 := hid (HB1.out.alloc HB1.out.size (.cells #[.int .i64 n, .int .u64 F] 72))
      refine (HIP.out _ HB2.out).mono ?_; rintro e w2 ⟨rfl, hb2⟩
      have HB3 := hid (below_call HB2.out hb2 HB2.out.size)
      have HF3 := hid ((Blk.new w1 72 #[.int .i64 n, .int .u64 F]).keep hb2)
      have f0 := HF3.out.cell 0; have f1 := HF3.out.cell 1
      simp only [List.getElem?_toArray, List.getElem?_cons_zero, List.getElem?_cons_succ] at f0 f1
      clear hb2
      go_wp2_with fail
      refine (HLN.out _ HB3.out).mono ?_; rintro e w3 ⟨rfl, hb3⟩
      have HB4 := hid (below_call HB3.out hb3 HB3.out.size)
      clear hb3
      go_wp2
      go_ret3
      exact ⟨rfl, HB4.out⟩
end Go.Proofs.YtjddbglbodkihaaDoor
