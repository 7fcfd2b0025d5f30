/- Walks of family.closed and family.kept. Conditions: a family of at most six elements; a predicate that tells. -/
import Derived.Test.YtjddbglbodkihaaDoorList
namespace Go.Proofs.YtjddbglbodkihaaDoor
open Go.RowKit
attribute [local go_sem ↓] shl_p2 shl_u or_u shr_u and_shrF shr_v and_shr andNot_v

theorem two64 {n : Nat} (hn : n ≤ 6) : 2 ^ n ≤ 64 := Nat.pow_le_pow_right (show 0 < 2 by decide) hn
theorem fam64 {n G : Nat} (hn : n ≤ 6) (h : G < 2 ^ (2 ^ n)) : G < 18446744073709551616 :=
  Nat.lt_of_lt_of_le h (Nat.pow_le_pow_right (show 0 < 2 by decide) (two64 hn))

theorem Clo2.next2 {n F G d : Nat} (h : Clo2 n F G d n) (h0 : 0 < d) : Clo2 n F G (d - 1) 0 := by
  obtain ⟨D, rfl⟩ : ∃ D, d = D + 1 := ⟨d - 1, by omega⟩
  exact h.next
theorem Clo2.keepb {n F G s x : Nat} (h : Clo2 n F G s x) (b : Bool) (hb : b = (G.testBit s && s.testBit x)) : Clo2 n F (if b then G ||| (1 <<< rm s x) else G) s (x + 1) := by
  subst hb
  cases h1 : G.testBit s
  · exact h.keep (.inl h1)
  · cases h2 : s.testBit x
    · exact h.keep (.inr h2)
    · exact h.step h1 h2
set_option maxRecDepth 100000 in
set_option maxHeartbeats 4000000 in
theorem closedF (n F : Nat) (w : World) (hn : n ≤ 6) (hF : F < 2 ^ (2 ^ n)) :
    Calls Tryd.prog 65 #[.agg #[.int .i64 n, .int .u64 F]] w fun e w' => (∃ G : Nat, e = .returned (.agg #[.int .i64 n, .int .u64 G]) ∧ Clo n F G) ∧ Below w.heap.size w w' := by
  have hN := two64 hn
  have hp := Nat.two_pow_pos n
  have FN : Fits (n : Int) := ⟨by omega, by omega⟩
  have e2 : p2 (n : Int) = ((2 ^ n : Nat) : Int) := p2_nat n
  have HE2 := hid e2
  have hpb : 1 ≤ p2 (n : Int) ∧ p2 (n : Int) ≤ 64 := by omega
  clear e2
  go_enter Tryd.func65, Tryd.ntmps65
  go_wp2
  have HBA := hid (((Below.refl w.heap.size w).alloc (Nat.le_refl _) (.cells #[.int .i64 n, .int .u64 F] 72)).alloc (by simp) (.cells #[.int .i64 0, .int .u64 0] 72))
  go_loopg [3] (2 ^ n) (fun g s wr => ∃ d G : Nat, g = d + 1 ∧ d ≤ 2 ^ n - 1 ∧ s = .int .i64 d ∧ Hid (Clo2 n F G d 0) ∧ Hid (Blk wr w.heap.size 72 #[.int .i64 n, .int .u64 G]) ∧ Hid (Blk wr (w.heap.size + 1) 72 #[.int .i64 0, .int .u64 0]) ∧ Hid (Below w.heap.size w wr))
  case atStart =>
    refine ⟨2 ^ n - 1, F, by omega, Nat.le_refl _, ?_, hid (clo_start hF), hid ((Blk.new _ _ _).alloc _), hid (Blk.new_at _ _ _ (by simp)), HBA⟩
    rw [HE2.out]
    congr 1
    omega
  case round =>
    obtain ⟨d, G, rfl, hdle, rfl, hC, b0, b1, hb⟩ := hrel
    have hz := hb.out.size
    have c0 := b0.out.cell 0; have c1 := b0.out.cell 1; have z0 := b1.out.cell 0; have z1 := b1.out.cell 1
    have f0 := b1.out.free 0; have f1 := b1.out.free 1
    simp only [List.getElem?_toArray, List.getElem?_cons_zero, List.getElem?_cons_succ] at c0 c1 z0 z1
    by_cases h0 : d = 0
    · subst h0
      have B1 := ((b1.out.set 0 (.int .i64 n)).set 1 (.int .u64 G))
      go_wp2
      refine bodyPost_ret (results_cell_row rfl _ _ (w.heap.size + 1) 72 #[.int .i64 n, .int .u64 G] (0, 0) _ rfl B1 Tryd.underlying72 rfl (by kernel_rfl)) rfl ⟨⟨G, rfl, hC.out.done⟩, ?_⟩
      exact ((hb.out.setCell (p := ⟨w.heap.size + 1, 0, none⟩) (by simp) _).setCell (p := ⟨w.heap.size + 1, 1, none⟩) (by simp) _)
    · have g1 : decide (0 < (d : Int)) = true := decide_eq_true (by omega)
      have g1n : decide (0 < d) = true := decide_eq_true (by omega)
      have HH := hid fun (G' : Nat) (W : World) (h : G' < 2 ^ (2 ^ n)) => hasF n G' (d : Int) W ⟨fam64 hn h, by omega, by omega⟩
      simp only [Int.toNat_natCast] at HH
      have HD0 := hid h0
      go_wp2
      go_loopg [15] n (fun g x wr => ∃ y G : Nat, g + y = n ∧ x = .int .i64 y ∧ Hid (Clo2 n F G d y) ∧ Hid (Blk wr w.heap.size 72 #[.int .i64 n, .int .u64 G]) ∧ Hid (Blk wr (w.heap.size + 1) 72 #[.int .i64 0, .int .u64 0]) ∧ Hid (Below w.heap.size w wr))
      case atStart => exact ⟨0, G, by omega, rfl, hC, b0, b1, hb⟩
      case round =>
        obtain ⟨y, G1, hy, rfl, hC1, k0, k1, kb⟩ := hrel
        have HY := hid hy
        have hz1 := kb.out.size
        have hlt := hC1.out.lt
        have m0 := k0.out.cell 0; have m1 := k0.out.cell 1
        have n1 := k0.out.free 1
        simp only [List.getElem?_toArray, List.getElem?_cons_zero, List.getElem?_cons_succ] at m0 m1
        by_cases hyn : y < n
        · have HC := hid (HH.out G1 wr hlt)
          have FY : Fits (y : Int) := ⟨by omega, by omega⟩
          have hG64 := fam64 hn hlt
          have HG64 := hid hG64
          clear hy hlt hG64
          cases hG : G1.testBit d
          · rw [hG] at HC
            have HK := hid (hC1.out.keep (x := y) (.inl hG))
            clear hG
            go_wp2_with (go_at_call 60; refine HC.out.mono ?_; rintro e w2 ⟨rfl, hb2⟩; have HB2 := hid hb2; clear hb2)
            go_roundg (gk - 1)
            case measure => have := HY.out; omega
            case rel => exact ⟨y + 1, G1, by have := HY.out; omega, by go_num, HK, hid (k0.out.keep HB2.out), hid (k1.out.keep HB2.out), hid (below_call kb.out HB2.out hz1)⟩
          · rw [hG] at HC
            cases hb3 : d.testBit y
            · have g3 := bitV_no hb3
              have HK := hid (hC1.out.keep (x := y) (.inr hb3))
              clear hG hb3
              go_wp2_with (go_at_call 60; refine HC.out.mono ?_; rintro e w2 ⟨rfl, hb2⟩; have HB2 := hid hb2; clear hb2)
              go_roundg (gk - 1)
              case measure => have := HY.out; omega
              case rel => exact ⟨y + 1, G1, by have := HY.out; omega, by go_num, HK, hid (k0.out.keep HB2.out), hid (k1.out.keep HB2.out), hid (below_call kb.out HB2.out hz1)⟩
            · have g3 := bitV_yes hb3
              have HK := hid (hC1.out.step (x := y) hG hb3)
              have AN : AnF d (y : Int) := ⟨by omega, by omega, by omega⟩
              have hrl := rm_le d y
              have FR : FitF ((rm d y : Nat) : Int) := ⟨by omega, by omega⟩
              have OR : OrF G1 ((rm d y : Nat) : Int) := ⟨HG64.out, by omega, by omega⟩
              have HO : Hid (orI G1 ((rm d y : Nat) : Int) = G1 ||| (1 <<< rm d y)) := hid (by unfold orI; rw [Int.toNat_natCast])
              have e5 : ((y : Int)).toNat = y := Int.toNat_natCast y
              clear hG hb3
              go_wp2_with (go_at_call 60; refine HC.out.mono ?_; rintro e w2 ⟨rfl, hb2⟩; have HB2 := hid hb2; have hz2 := hb2.size; have K0 := hid (k0.out.keep hb2); have K1 := hid (k1.out.keep hb2); have r1 := K0.out.cell 1; have t1 := K0.out.free 1; simp only [List.getElem?_toArray, List.getElem?_cons_zero, List.getElem?_cons_succ] at r1; have HBB := hid (below_call kb.out hb2 hz1); clear hb2)
              go_region
              all_goals go_wp2
              all_goals (go_roundg (gk - 1))
              any_goals (case measure => have := HY.out; omega)
              all_goals
                refine ⟨y + 1, G1 ||| (1 <<< rm d y), by have := HY.out; omega, by go_num, HK, ?_, ?_, ?_⟩
              all_goals first
                | (rw [← HO.out]; exact hid (K0.out.set 1 _))
                | (rw [← HO.out]; exact hid (K0.out.set 1 _).drew)
                | (rw [← HO.out]; exact hid (K0.out.drew.set 1 _))
                | exact hid (K1.out.far (by simp) _)
                | exact hid (K1.out.far (by simp) _).drew
                | exact hid (K1.out.drew.far (by simp) _)
                | exact hid (HBB.out.setCell (by simp) _)
                | exact hid (HBB.out.setCell (by simp) _).drew
                | exact hid (HBB.out.drew.setCell (by simp) _)
        · obtain rfl : y = n := by omega
          have HN := hid (hC1.out.next2 (by have := HD0.out; omega))
          clear hy
          go_wp2
          go_roundg d
          case measure => omega
          case rel => exact ⟨d - 1, G1, by have := HD0.out; omega, by omega, by congr 1; have := HD0.out; omega, HN, k0, k1, kb⟩
end Go.Proofs.YtjddbglbodkihaaDoor
