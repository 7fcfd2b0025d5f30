/- Walks of family.settled and view.then. Conditions: at most six elements. -/
import Derived.Test.YtjddbglbodkihaaDoorRead
namespace Go.Proofs.YtjddbglbodkihaaDoor
open Go.RowKit

/-- Numbers of which all bits lie below 60. -/
def AndF (a b : Nat) : Prop := a < 1152921504606846976 ∧ b < 1152921504606846976
theorem and_nn {a b : Nat} (h : AndF a b) : Op.intBits .and .i64 (a : Int) (b : Int) = pure (.int .i64 ((a &&& b : Nat) : Int)) := by
  rw [intBits_and, i64_and a b (by have := h.1; omega) (by have := h.2; omega)]
/-- A view with an element more. -/
def OrI (a : Nat) (k : Int) : Prop := a < 1152921504606846976 ∧ 0 ≤ k ∧ k ≤ 59
theorem or_i {a : Nat} {k : Int} (h : OrI a k) : Op.intBits .or .i64 (a : Int) (p2 k) = pure (.int .i64 (ad a k.toNat : Nat)) := by
  have e2 : (1 <<< k.toNat : Nat) < 9223372036854775808 := by
    have hb := p2_bd (k := k) (by have := h.2.2; omega)
    have := p2_cast k
    omega
  rw [p2_cast]
  show pure (Value.int .i64 (bits .or .i64 (a : Int) ((1 <<< k.toNat : Nat) : Int))) = _
  rw [i64_or _ _ (by have := h.1; omega) e2]
  rfl
def anyD (p : Nat → Bool) (a i d : Nat) : Bool := (List.range d).any fun s => agr a i s && p s
def allD (p : Nat → Bool) (a i d : Nat) : Bool := (List.range d).all fun s => !agr a i s || p s
theorem anyD_succ (p : Nat → Bool) (a i d : Nat) : anyD p a i (d + 1) = (anyD p a i d || (agr a i d && p d)) := by
  unfold anyD; rw [List.range_succ, List.any_append]; simp
theorem allD_succ (p : Nat → Bool) (a i d : Nat) : allD p a i (d + 1) = (allD p a i d && (!agr a i d || p d)) := by
  unfold allD; rw [List.range_succ, List.all_append]; simp
theorem settl_eq (N : Nat) (p : Nat → Bool) (a i : Nat) : settl N p a i = (!anyD p a i N || allD p a i N) := rfl
theorem vbool {a b : Bool} (h : a = b) : Value.bool a = .bool b := by rw [h]

attribute [local go_sem ↓] shl_p2 shl_u or_u shr_u and_shrF shr_v and_shr andNot_v and_nn or_i
set_option maxRecDepth 100000 in
set_option maxHeartbeats 4000000 in
theorem settledF (n F a i : Nat) (w : World) (hn : n ≤ 6) (hF : F < 18446744073709551616) (ha : a < 1152921504606846976) :
    Calls Tryd.prog 96 #[.agg #[.int .i64 n, .int .u64 F], .agg #[.int .i64 a, .int .i64 i]] w fun e w' => e = .returned (.bool (settl (2 ^ n) F.testBit a i)) ∧ Below w.heap.size w w' := by
  have hN := two64 hn
  have FN : Fits (n : Int) := ⟨by omega, by omega⟩
  have HE2 := hid (p2_nat n)
  have HA := hid ha
  have HH := hid fun (d : Nat) (hd : d < 2 ^ n) W => hasF n F (d : Int) W ⟨hF, by omega, by omega⟩
  simp only [Int.toNat_natCast] at HH
  clear hF ha
  go_enter Tryd.func96, Tryd.ntmps96
  go_wp2
  have HBA := hid (((Below.refl w.heap.size w).alloc (Nat.le_refl _) (.cells #[.int .i64 n, .int .u64 F] 72)).alloc (by simp) (.cells #[.int .i64 a, .int .i64 i] 87))
  go_loopg [5, 6, 11] (2 ^ n) (fun g so al s wr => ∃ d : Nat, g + d = 2 ^ n ∧ so = .bool (anyD F.testBit a i d) ∧ al = .bool (allD F.testBit a i d) ∧ s = .int .i64 d ∧ Hid (Blk wr w.heap.size 72 #[.int .i64 n, .int .u64 F]) ∧ Hid (Blk wr (w.heap.size + 1) 87 #[.int .i64 a, .int .i64 i]) ∧ Hid (Below w.heap.size w wr))
  case atStart =>
    exact ⟨0, by omega, rfl, rfl, rfl, hid ((Blk.new _ _ _).alloc _), hid (Blk.new_at _ _ _ (by simp)), HBA⟩
  case round =>
    obtain ⟨d, hd, rfl, rfl, rfl, X1, X2, HB⟩ := hrel
    have HD := hid hd
    have c0 := X1.out.cell 0; have c1 := X1.out.cell 1; have z0 := X2.out.cell 0; have z1 := X2.out.cell 1
    simp only [List.getElem?_toArray, List.getElem?_cons_zero, List.getElem?_cons_succ] at c0 c1 z0 z1
    have HS1 := hid (anyD_succ F.testBit a i d)
    have HS2 := hid (allD_succ F.testBit a i d)
    by_cases hlt : d < 2 ^ n
    · have g1 : decide ((d : Int) < p2 (n : Int)) = true := decide_eq_true (by rw [HE2.out]; omega)
      have HC := hid (HH.out d hlt)
      have AN : AndF d a := ⟨by omega, HA.out⟩
      have eI : ∀ b, agr a i d = b → (((d &&& a : Nat) : Int) == (i : Int)) = b := by
        intro b h
        rw [← h]
        unfold agr
        cases e : (d &&& a == i)
        · rw [beq_eq_false_iff_ne] at e ⊢; omega
        · rw [beq_iff_eq] at e ⊢; omega
      have eN : ∀ b, agr a i d = b → ((d &&& a) == i) = b := fun b h => h
      cases hg : agr a i d
      · have q1 := eI _ hg
        have q2 := eN _ hg
        rw [hg] at HS1 HS2
        clear hd hg eI eN HA
        go_wp2
        go_roundg (gk - 1)
        case measure => have := HD.out; omega
        case rel => exact ⟨d + 1, by have := HD.out; omega, vbool (by rw [HS1.out]; simp), vbool (by rw [HS2.out]; simp), by go_num, X1, X2, HB⟩
      · have q1 := eI _ hg
        have q2 := eN _ hg
        rw [hg] at HS1 HS2
        clear hd hg eI eN HA
        generalize F.testBit d = pd at *
        cases hso : anyD F.testBit a i d
        all_goals
          rw [hso] at HS1
          clear hso
          cases hal : allD F.testBit a i d
        all_goals
          rw [hal] at HS2
          clear hal
          go_wp2_with (go_at_call 60; refine (HC.out _).mono ?_; rintro e w2 ⟨rfl, hb2⟩; have X1 := hid (X1.out.keep hb2); have X2 := hid (X2.out.keep hb2); have HB := hid (below_call HB.out hb2 HB.out.size); have k0 := X1.out.cell 0; have k1 := X1.out.cell 1; have m0 := X2.out.cell 0; have m1 := X2.out.cell 1; simp only [List.getElem?_toArray, List.getElem?_cons_zero, List.getElem?_cons_succ] at k0 k1 m0 m1; clear hb2)
          go_roundg (gk - 1)
          case measure => have := HD.out; omega
          case rel => exact ⟨d + 1, by have := HD.out; omega, vbool (by rw [HS1.out]; simp), vbool (by rw [HS2.out]; simp), by go_num, X1, X2, HB⟩
    · obtain rfl : d = 2 ^ n := by omega
      have g1 : decide (((2 ^ n : Nat) : Int) < p2 (n : Int)) = false := decide_eq_false (by rw [HE2.out]; omega)
      have HE := hid (settl_eq (2 ^ n) F.testBit a i)
      generalize hq : 2 ^ n = q at *
      clear hd
      cases hso : anyD F.testBit a i q
      all_goals
        rw [hso] at HE
        clear hso
        go_wp2
        go_ret
        exact ⟨ret_b (by rw [hq, HE.out]; simp), HB.out⟩

set_option maxRecDepth 100000 in
set_option maxHeartbeats 4000000 in
theorem thenF (a i x : Nat) (b : Bool) (w : World) (ha : a < 1152921504606846976) (hi : i < 1152921504606846976) (hx : x ≤ 59) :
    Calls Tryd.prog 97 #[.agg #[.int .i64 a, .int .i64 i], .int .i64 x, .bool b] w fun e w' => e = .returned (.agg #[.int .i64 (ad a x : Nat), .int .i64 ((if b then ad i x else i : Nat) : Int)]) ∧ Below w.heap.size w w' := by
  have FX : Fits (x : Int) := ⟨by omega, by omega⟩
  have O1 : OrI a (x : Int) := ⟨ha, by omega, by omega⟩
  have O2 : OrI i (x : Int) := ⟨hi, by omega, by omega⟩
  have e5 : (x : Int).toNat = x := Int.toNat_natCast x
  have B0 := (Blk.new w 87 #[.int .i64 a, .int .i64 i]).alloc (.cells #[.int .i64 0, .int .i64 0] 87)
  have B1 := Blk.new_at (w.alloc (.cells #[.int .i64 a, .int .i64 i] 87)) 87 #[.int .i64 0, .int .i64 0] (n := w.heap.size + 1) (by simp)
  have HB := ((Below.refl w.heap.size w).alloc (Nat.le_refl _) (.cells #[.int .i64 a, .int .i64 i] 87)).alloc (by simp) (.cells #[.int .i64 0, .int .i64 0] 87)
  have hlt2 : ad a x < 1152921504606846976 := by
    have h1 : a < 2 ^ 60 := by have := ha; omega
    have := ad_lt2 h1 (show x < 60 by omega)
    omega
  clear ha hi hx
  go_enter Tryd.func97, Tryd.ntmps97
  go_wp2_with fail
  refine at_world fun w2 hw2 => ?_
  rw [← hw2] at B0 B1 HB
  clear hw2
  have c0 := B0.cell 0; have c1 := B0.cell 1; have z0 := B1.cell 0; have z1 := B1.cell 1
  have f0 := B0.free 0; have f1 := B0.free 1; have f2 := B1.free 0; have f3 := B1.free 1
  simp only [List.getElem?_toArray, List.getElem?_cons_zero, List.getElem?_cons_succ] at c0 c1 z0 z1
  have B0 := hid B0; have B1 := hid B1; have HB := hid HB
  cases b
  · have kf := hid (((B1.out.far (p := ⟨w.heap.size, 0, none⟩) (by simp) (.int .i64 (ad a x : Nat))).set 0 (.int .i64 (ad a x : Nat))).set 1 (.int .i64 i))
    have hB := hid ((((HB.out.setCell (p := ⟨w.heap.size, 0, none⟩) (by simp) (.int .i64 (ad a x : Nat))).setCell (p := ⟨w.heap.size + 1, 0, none⟩) (by simp) (.int .i64 (ad a x : Nat)))).setCell (p := ⟨w.heap.size + 1, 1, none⟩) (by simp) (.int .i64 i))
    go_region
    all_goals go_wp2
    all_goals
      refine bodyPost_ret (results_cell_row rfl _ _ (w.heap.size + 1) 87 #[.int .i64 (ad a x : Nat), .int .i64 i] (0, 0) _ rfl kf.out.drew Tryd.underlying87 rfl (by kernel_rfl)) rfl ⟨rfl, hB.out.drew⟩
  · have kf := hid ((((B1.out.far (p := ⟨w.heap.size, 0, none⟩) (by simp) (.int .i64 (ad a x : Nat))).far (p := ⟨w.heap.size, 1, none⟩) (by simp) (.int .i64 (ad i x : Nat))).set 0 (.int .i64 (ad a x : Nat))).set 1 (.int .i64 (ad i x : Nat)))
    have hB := hid ((((HB.out.setCell (p := ⟨w.heap.size, 0, none⟩) (by simp) (.int .i64 (ad a x : Nat))).setCell (p := ⟨w.heap.size, 1, none⟩) (by simp) (.int .i64 (ad i x : Nat))).setCell (p := ⟨w.heap.size + 1, 0, none⟩) (by simp) (.int .i64 (ad a x : Nat))).setCell (p := ⟨w.heap.size + 1, 1, none⟩) (by simp) (.int .i64 (ad i x : Nat)))
    go_region
    all_goals go_wp2_with fail
    all_goals go_region
    all_goals go_wp2
    all_goals
      refine bodyPost_ret (results_cell_row rfl _ _ (w.heap.size + 1) 87 #[.int .i64 (ad a x : Nat), .int .i64 (ad i x : Nat)] (0, 0) _ rfl kf.out.drew.drew Tryd.underlying87 rfl (by kernel_rfl)) rfl ⟨rfl, hB.out.drew.drew⟩
end Go.Proofs.YtjddbglbodkihaaDoor
