/- Walk of family.isPlan. Condition: the slice reads as nodes. -/
import Derived.Test.YtjddbglbodkihaaDoorPlanM
import Derived.Test.YtjddbglbodkihaaDoorSettle
namespace Go.Proofs.YtjddbglbodkihaaDoor
open Go.RowKit

theorem goOk_cases {j len : Nat} {z : Int} : (z = -1 ∧ goOk j len z) ∨ (z ≠ -1 ∧ z ≤ j ∧ ¬ goOk j len z) ∨ (z ≠ -1 ∧ (j : Int) < z ∧ (len : Int) ≤ z ∧ ¬ goOk j len z) ∨ (z ≠ -1 ∧ (j : Int) < z ∧ z < len ∧ goOk j len z) := by
  unfold goOk
  by_cases h1 : z = -1
  · exact .inl ⟨h1, .inl h1⟩
  · by_cases h2 : z ≤ j
    · exact .inr (.inl ⟨h1, h2, by omega⟩)
    · by_cases h3 : (len : Int) ≤ z
      · exact .inr (.inr (.inl ⟨h1, by omega, h3, by omega⟩))
      · exact .inr (.inr (.inr ⟨h1, by omega, by omega, .inr ⟨by omega, by omega⟩⟩))
set_option maxRecDepth 100000 in
set_option maxHeartbeats 4000000 in
theorem isPlanF (n F : Nat) (T : Option Addr) (L k : Nat) (ts : List Nd) (w : World) (hs : Sl3 w T L k ts) (b : Bool) (hb : b = true ↔ okP n ts) :
    Calls Tryd.prog 75 #[.agg #[.int .i64 n, .int .u64 F], .slice T L k] w fun e w' => e = .returned (.bool b) ∧ Below w.heap.size w w' := by
  have hl := hs.len
  have hLL := hs.len_le
  have HS := hid hs
  have HBF := hid fun j u (hj : ts[j]? = some u) (h : ¬ ndOk n j L u) => (show b = false from by
    cases e : b
    · rfl
    · exact absurd ((hb.1 e).2 j u hj) (by rw [hl]; exact h))
  have HBE := hid fun (h : ∀ j u, ts[j]? = some u → ndOk n j L u) => (show b = decide (L ≤ 70) from by
    rw [Bool.eq_iff_iff, hb, decide_eq_true_iff]
    constructor
    · intro h2; rw [← hl]; exact h2.1
    · intro h2; exact ⟨by omega, fun j u hu => by rw [hl]; exact h j u hu⟩)
  clear hl hs hb
  go_enter Tryd.func75, Tryd.ntmps75
  go_wp2
  go_loopg [11] L (fun gk i wr => ∃ q : Nat, gk + q = L ∧ i = .int .i64 q ∧ Hid (∀ j u, j < q → ts[j]? = some u → ndOk n j L u) ∧ Hid (Blk wr w.heap.size 72 #[.int .i64 n, .int .u64 F]) ∧ Hid (Below w.heap.size w wr))
  case atStart => exact ⟨0, by omega, rfl, hid fun j u h => absurd h (by omega), hid (Blk.new w _ _), hid ((Below.refl _ _).alloc (Nat.le_refl _) _)⟩
  case round =>
    obtain ⟨q, hq, rfl, HA, HBk, HW⟩ := hrel
    have HQ := hid hq
    have hz := HW.out.size
    by_cases hlt : q < L
    · have HLT := hid hlt
      obtain ⟨b1, o, hTe, lb, hx, a0, a1, a2⟩ := HS.out.at hlt
      have h0 : wr.cell? ⟨b1, o + q * 3, none⟩ = some (.int .i64 (nd ts q).pt) := (HW.out.cell (p := ⟨b1, o + q * 3, none⟩) lb).trans a0
      have h1 : wr.cell? ⟨b1, o + q * 3 + 1, none⟩ = some (.int .i64 (nd ts q).zero) := (HW.out.cell (p := ⟨b1, o + (q * 3 + 1), none⟩) lb).trans a1
      have h2 : wr.cell? ⟨b1, o + q * 3 + 2, none⟩ = some (.int .i64 (nd ts q).one) := (HW.out.cell (p := ⟨b1, o + (q * 3 + 2), none⟩) lb).trans a2
      have lb1 : b1 < wr.heap.size := by omega
      have HBQ := hid fun h => HBF.out q _ hx h
      have HAQ := hid fun (h : ndOk n q L (nd ts q)) => (show ∀ j u, j < q + 1 → ts[j]? = some u → ndOk n j L u from fun j u hj hu => by
        by_cases e : j = q
        · subst e
          rw [hx] at hu
          obtain rfl := Option.some.inj hu
          exact h
        · exact HA.out j u (by omega) hu)
      subst hTe
      have n0 := HBk.out.cell 0
      have nlt := HBk.out.lt
      simp only [List.getElem?_toArray, List.getElem?_cons_zero] at n0
      clear a0 a1 a2 lb hx
      generalize hnd : nd ts (q : Int) = u at *
      obtain ⟨pt, ze, on⟩ := u
      simp only at h0 h1 h2
      clear hnd
      have HB1 := hid (HW.out.alloc hz (.cells #[.int .i64 pt, .int .i64 ze, .int .i64 on] 94))
      have HK1 := hid (HBk.out.alloc (.cells #[.int .i64 pt, .int .i64 ze, .int .i64 on] 94))
      by_cases hp0 : pt < 0
      · have g : decide (pt < 0) = true := decide_eq_true hp0
        have HE := hid (HBQ.out fun h => by have := h.1.1; simp at this; omega)
        clear hp0
        go_wp2
        go_ret
        exact ⟨ret_b HE.out, HB1.out⟩
      · have g : decide (pt < 0) = false := decide_eq_false hp0
        by_cases hpn : (n : Int) ≤ pt
        · have gn : decide ((n : Int) ≤ pt) = true := decide_eq_true hpn
          have HE := hid (HBQ.out fun h => by have := h.1.2; simp at this; omega)
          clear hp0 hpn
          go_wp2
          go_ret
          exact ⟨ret_b HE.out, HB1.out⟩
        · have gn : decide ((n : Int) ≤ pt) = false := decide_eq_false hpn
          have HP := hid (show 0 ≤ pt ∧ pt < n from by omega)
          clear hp0 hpn
          have HB2 := hid (HB1.out.alloc HB1.out.size (.cells #[.int .i64 ze, .int .i64 on] 3))
          have HK2 := hid (HK1.out.alloc (.cells #[.int .i64 ze, .int .i64 on] 3))
          have PR := hid (Blk.new_at (wr.alloc (.cells #[.int .i64 pt, .int .i64 ze, .int .i64 on] 94)) 3 #[.int .i64 ze, .int .i64 on] (n := wr.heap.size + 1) (by simp))
          go_wp2
          refine at_world fun W2 hW2 => ?_
          rw [← hW2] at HB2 HK2 PR
          clear hW2
          have p0 := PR.out.cell 0
          have p1 := PR.out.cell 1
          have plt := PR.out.lt
          simp only [List.getElem?_toArray, List.getElem?_cons_zero, List.getElem?_cons_succ] at p0 p1
          have hLp : 0 < L := by omega
          go_loopg [32] 2 (fun gj ix wi => ∃ j : Nat, gj + j = 2 ∧ ix = .int .i64 j ∧ W2 = wi ∧ Hid (0 < j → goOk q L ze) ∧ Hid (1 < j → goOk q L on))
          case atStart => exact ⟨0, rfl, rfl, rfl, hid fun h => absurd h (by omega), hid fun h => absurd h (by omega)⟩
          case round =>
            obtain ⟨j, hj, rfl, rfl, HG0, HG1⟩ := hrel
            have HJ := hid hj
            by_cases hlt2 : j < 2
            · have HLT2 := hid hlt2
              by_cases hj0 : j = 0
              · subst hj0
                have GC := goOk_cases (j := q) (len := L) (z := ze)
                rcases GC with ⟨e1, hok⟩ | ⟨e1, e2, hok⟩ | ⟨e1, e2, e3, hok⟩ | ⟨e1, e2, e3, hok⟩
                · have g1 : (ze == -1) = true := by rw [beq_iff_eq]; exact e1
                  have g1' : (ze != -1) = false := by rw [e1]; rfl
                  have g3 : decide ((L : Int) ≤ ze) = false := decide_eq_false (by omega)
                  have HO := hid hok
                  clear hok
                  go_wp2
                  go_roundg (gk - 1)
                  case measure => omega
                  case rel => exact ⟨1, by omega, rfl, rfl, hid fun _ => HO.out, hid fun h => absurd h (by omega)⟩
                · have g1' : (ze != -1) = true := by simp; exact e1
                  have g2 : decide (ze ≤ (q : Int)) = true := decide_eq_true e2
                  have HE := hid (HBQ.out fun h => hok (by have := h.2.1; exact this))
                  clear hok e1 e2
                  go_wp2
                  go_ret
                  exact ⟨ret_b HE.out, HB2.out⟩
                · have g1' : (ze != -1) = true := by simp; exact e1
                  have g2 : decide (ze ≤ (q : Int)) = false := decide_eq_false (by omega)
                  have g3 : decide ((L : Int) ≤ ze) = true := decide_eq_true e3
                  have HE := hid (HBQ.out fun h => hok (by have := h.2.1; exact this))
                  clear hok e1 e2 e3
                  go_wp2
                  go_ret
                  exact ⟨ret_b HE.out, HB2.out⟩
                · have g1' : (ze != -1) = true := by simp; exact e1
                  have g2 : decide (ze ≤ (q : Int)) = false := decide_eq_false (by omega)
                  have g3 : decide ((L : Int) ≤ ze) = false := decide_eq_false (by omega)
                  have HO := hid hok
                  clear hok e1 e2 e3
                  go_wp2
                  go_roundg (gk - 1)
                  case measure => omega
                  case rel => exact ⟨1, by omega, rfl, rfl, hid fun _ => HO.out, hid fun h => absurd h (by omega)⟩
              · have hj0 : j = 1 := by omega
                subst hj0
                have GC := goOk_cases (j := q) (len := L) (z := on)
                rcases GC with ⟨e1, hok⟩ | ⟨e1, e2, hok⟩ | ⟨e1, e2, e3, hok⟩ | ⟨e1, e2, e3, hok⟩
                · have g1 : (on == -1) = true := by rw [beq_iff_eq]; exact e1
                  have g1' : (on != -1) = false := by rw [e1]; rfl
                  have g3 : decide ((L : Int) ≤ on) = false := decide_eq_false (by omega)
                  have HO := hid hok
                  clear hok
                  go_wp2
                  go_roundg (gk - 1)
                  case measure => omega
                  case rel => exact ⟨2, by omega, rfl, rfl, hid fun _ => HG0.out (by decide), hid fun h => HO.out⟩
                · have g1' : (on != -1) = true := by simp; exact e1
                  have g2 : decide (on ≤ (q : Int)) = true := decide_eq_true e2
                  have HE := hid (HBQ.out fun h => hok (by have := h.2.2; exact this))
                  clear hok e1 e2
                  go_wp2
                  go_ret
                  exact ⟨ret_b HE.out, HB2.out⟩
                · have g1' : (on != -1) = true := by simp; exact e1
                  have g2 : decide (on ≤ (q : Int)) = false := decide_eq_false (by omega)
                  have g3 : decide ((L : Int) ≤ on) = true := decide_eq_true e3
                  have HE := hid (HBQ.out fun h => hok (by have := h.2.2; exact this))
                  clear hok e1 e2 e3
                  go_wp2
                  go_ret
                  exact ⟨ret_b HE.out, HB2.out⟩
                · have g1' : (on != -1) = true := by simp; exact e1
                  have g2 : decide (on ≤ (q : Int)) = false := decide_eq_false (by omega)
                  have g3 : decide ((L : Int) ≤ on) = false := decide_eq_false (by omega)
                  have HO := hid hok
                  clear hok e1 e2 e3
                  go_wp2
                  go_roundg (gk - 1)
                  case measure => omega
                  case rel => exact ⟨2, by omega, rfl, rfl, hid fun _ => HG0.out (by decide), hid fun h => HO.out⟩
            · have HQN := hid (HAQ.out ⟨HP.out, HG0.out (by omega), HG1.out (by omega)⟩)
              obtain rfl : j = 2 := by omega
              clear hj
              go_wp2
              go_roundg (L - q - 1)
              case measure => have := HQ.out; have := HLT.out; omega
              case rel => exact ⟨q + 1, by have := HQ.out; have := HLT.out; omega, by go_num, HQN, HK2, HB2⟩
    · obtain rfl : q = L := by have := HQ.out; omega
      have HE := hid (HBE.out fun j u hu => HA.out j u (by
        have := (List.getElem?_eq_some_iff.1 hu).1
        have := HS.out.len
        omega) hu)
      clear hq hlt
      by_cases h70 : q ≤ 70
      · have g1 : decide ((q : Int) ≤ 70) = true := decide_eq_true (by omega)
        have g2 : decide (q ≤ 70) = true := decide_eq_true h70
        have HE2 := hid (show b = true from by rw [HE.out, g2])
        clear h70
        go_wp2
        go_ret
        exact ⟨ret_b HE2.out, HW.out⟩
      · have g1 : decide ((q : Int) ≤ 70) = false := decide_eq_false (by omega)
        have g2 : decide (q ≤ 70) = false := decide_eq_false h70
        have HE2 := hid (show b = false from by rw [HE.out, g2])
        clear h70
        go_wp2
        go_ret
        exact ⟨ret_b HE2.out, HW.out⟩
end Go.Proofs.YtjddbglbodkihaaDoor
