/- Walks of family.kept and of collect. Conditions: at most six elements; a predicate that tells. -/
import Derived.Test.YtjddbglbodkihaaDoorClose
namespace Go.Proofs.YtjddbglbodkihaaDoor
open Go.RowKit
attribute [local go_sem ↓] shl_p2 shl_u or_u shr_u and_shrF shr_v and_shr andNot_v

/-- A function value that tells p of the sets below N. -/
structure TellsF (w : World) (g : Nat) (lb : Array Value) (N : Nat) (p : Nat → Bool) : Prop where
  ent : ∀ args W, (callFunc g args).run Tryd.prog W = .ok (.enter g args) W
  run : ∀ s : Nat, s < N → ∀ W, Below w.heap.size w W → Calls Tryd.prog g (#[.int .i64 (s : Int)] ++ lb) W fun e W' => e = .returned (.bool (p s)) ∧ Below W.heap.size W W'

set_option maxRecDepth 100000 in
set_option maxHeartbeats 4000000 in
theorem keptF (n F : Nat) (g : Nat) (lb : Array Value) (p : Nat → Bool) (w : World) (hn : n ≤ 6) (hf : TellsF w g lb (2 ^ n) p) :
    Calls Tryd.prog 58 #[.agg #[.int .i64 n, .int .u64 F], .func (.func g) #[] lb] w fun e w' => e = .returned (.agg #[.int .i64 n, .int .u64 (mkN (2 ^ n) p : Nat)]) ∧ Below w.heap.size w w' := by
  have hN := two64 hn
  have FN : Fits (n : Int) := ⟨by omega, by omega⟩
  have HE2 := hid (p2_nat n)
  have hpb : 1 ≤ p2 (n : Int) ∧ p2 (n : Int) ≤ 64 := by have := p2_nat n; have := Nat.two_pow_pos n; omega
  have HF := hid hf.run
  have he := hf.ent
  clear hf
  go_enter Tryd.func58, Tryd.ntmps58
  go_wp2
  have HBA := hid ((((Below.refl w.heap.size w).alloc (Nat.le_refl _) (.cells #[.int .i64 n, .int .u64 F] 72)).alloc (by simp) (.cells #[.int .i64 0, .int .u64 0] 72)).alloc (by simp; omega) (.cells #[.int .i64 n, .int .u64 0] 72))
  go_loopg [13] (2 ^ n) (fun g s wr => ∃ d : Nat, g + d = 2 ^ n ∧ s = .int .i64 d ∧ Hid (Blk wr (w.heap.size + 1) 72 #[.int .i64 0, .int .u64 0]) ∧ Hid (Blk wr (w.heap.size + 1 + 1) 72 #[.int .i64 n, .int .u64 (mkN d p : Nat)]) ∧ Hid (Below w.heap.size w wr))
  case atStart =>
    refine ⟨0, by omega, rfl, hid ((Blk.new_at _ _ _ (by simp)).alloc _), hid (Blk.new_at _ _ _ (by simp)), HBA⟩
  case round =>
    obtain ⟨d, hd, rfl, b1, b2, hb⟩ := hrel
    have HD := hid hd
    have hz := hb.out.size
    have c0 := b2.out.cell 0; have c1 := b2.out.cell 1; have z0 := b1.out.cell 0; have z1 := b1.out.cell 1
    have f0 := b1.out.free 0; have f1 := b1.out.free 1
    simp only [List.getElem?_toArray, List.getElem?_cons_zero, List.getElem?_cons_succ] at c0 c1 z0 z1
    by_cases hlt : d < 2 ^ n
    · have g1 : decide ((d : Int) < p2 (n : Int)) = true := decide_eq_true (by rw [HE2.out]; omega)
      have HC := HF.out d hlt wr hb.out
      have hml := mkN_lt p d
      have hm64 : mkN d p < 18446744073709551616 := Nat.lt_of_lt_of_le hml (Nat.pow_le_pow_right (by decide) (show d ≤ 64 by omega))
      have FD : FitF (d : Int) := ⟨by omega, by omega⟩
      have OD : OrF (mkN d p) (d : Int) := ⟨hm64, by omega, by omega⟩
      have HS := hid (mkN_step p d)
      have HO : Hid (orI (mkN d p) (d : Int) = mkN d p ||| (1 <<< d)) := hid (by unfold orI; rw [Int.toNat_natCast])
      clear hd hml hm64
      cases hp : p d
      · rw [hp] at HC HS
        have HCA := hid HC
        clear hp HC
        go_wp2_with (refine HCA.out.mono ?_; rintro e w2 ⟨rfl, hb2⟩; have HB2 := hid hb2; clear hb2)
        go_roundg (gk - 1)
        case measure => have := HD.out; omega
        case rel => exact ⟨d + 1, by have := HD.out; omega, by go_num, hid (b1.out.keep HB2.out), hid (by rw [HS.out]; exact b2.out.keep HB2.out), hid (below_call hb.out HB2.out hz)⟩
      · rw [hp] at HC HS
        have HCA := hid HC
        clear hp HC
        go_wp2_with (refine HCA.out.mono ?_; rintro e w2 ⟨rfl, hb2⟩; have hz2 := hb2.size; have K1 := hid (b1.out.keep hb2); have K2 := hid (b2.out.keep hb2); have r1 := K2.out.cell 1; have t1 := K2.out.free 1; simp only [List.getElem?_toArray, List.getElem?_cons_zero, List.getElem?_cons_succ] at r1; have HBB := hid (below_call hb.out hb2 hz); clear hb2)
        go_region
        all_goals go_wp2
        all_goals (go_roundg (gk - 1))
        any_goals (case measure => have := HD.out; omega)
        all_goals
          refine ⟨d + 1, by have := HD.out; omega, by go_num, ?_, ?_, ?_⟩
        all_goals first
          | (rw [HS.out]; simp only [if_true]; rw [← HO.out]; exact hid (K2.out.set 1 _))
          | (rw [HS.out]; simp only [if_true]; rw [← HO.out]; exact hid (K2.out.set 1 _).drew)
          | (rw [HS.out]; simp only [if_true]; rw [← HO.out]; exact hid (K2.out.drew.set 1 _))
          | exact hid (K1.out.far (by simp) _)
          | exact hid (K1.out.far (by simp) _).drew
          | exact hid (K1.out.drew.far (by simp) _)
          | exact hid (HBB.out.setCell (by simp; omega) _)
          | exact hid (HBB.out.setCell (by simp; omega) _).drew
          | exact hid (HBB.out.drew.setCell (by simp; omega) _)
    · obtain rfl : d = 2 ^ n := by omega
      have g1 : decide (((2 ^ n : Nat) : Int) < p2 (n : Int)) = false := decide_eq_false (by rw [HE2.out]; omega)
      generalize hq : 2 ^ n = q at *
      have B1 := hid ((b1.out.set 0 (.int .i64 n)).set 1 (.int .u64 (mkN q p : Nat)))
      clear hd
      go_wp2
      refine bodyPost_ret (results_cell_row rfl _ _ (w.heap.size + 1) 72 #[.int .i64 n, .int .u64 (mkN q p : Nat)] (0, 0) _ rfl B1.out Tryd.underlying72 rfl (by kernel_rfl)) rfl ⟨by rw [hq], ?_⟩
      exact ((hb.out.setCell (p := ⟨w.heap.size + 1, 0, none⟩) (by simp) _).setCell (p := ⟨w.heap.size + 1, 1, none⟩) (by simp) _)

set_option maxRecDepth 100000 in
set_option maxHeartbeats 1000000 in
theorem collectNo (n : Int) (A : Option Addr) (m c : Nat) (w : World) (hm : m ≤ 9223372036854775807) (h : n < 1 ∨ 6 < n ∨ 64 < m) :
    Calls Tryd.prog 64 #[.int .i64 n, .slice A m c] w fun e w' => (∃ G : Nat, e = .returned (.tuple #[.agg #[.int .i64 n, .int .u64 G], .bool false])) ∧ Below w.heap.size w w' := by
  have HBA := hid (((Below.refl w.heap.size w).alloc (Nat.le_refl _) (.cells #[.int .i64 n, .int .u64 0] 72)).alloc (by simp) (.cells #[.int .i64 n, .int .u64 0] 72))
  have B0 := hid ((Blk.new w 72 #[.int .i64 n, .int .u64 0]).alloc (.cells #[.int .i64 n, .int .u64 0] 72))
  have h3 : n < 1 ∨ (¬ n < 1 ∧ 6 < n) ∨ (¬ n < 1 ∧ ¬ 6 < n ∧ 64 < m) := by omega
  clear h
  rcases h3 with h | ⟨h1, h⟩ | ⟨h1, h2, h⟩
  · have g := decide_eq_true h
    go_enter Tryd.func64, Tryd.ntmps64
    go_wp2
    refine bodyPost_ret (results_row_tmp rfl _ _ w.heap.size 72 #[.int .i64 n, .int .u64 0] (0, 0) _ rfl B0.out Tryd.underlying72 rfl (by kernel_rfl)) rfl ⟨⟨0, rfl⟩, ?_⟩
    exact HBA.out
  · have g := decide_eq_true h
    have g1 := decide_eq_false h1
    go_enter Tryd.func64, Tryd.ntmps64
    go_wp2
    refine bodyPost_ret (results_row_tmp rfl _ _ w.heap.size 72 #[.int .i64 n, .int .u64 0] (0, 0) _ rfl B0.out Tryd.underlying72 rfl (by kernel_rfl)) rfl ⟨⟨0, rfl⟩, ?_⟩
    exact HBA.out
  · have g := decide_eq_true h
    have g0 : decide (64 < (m : Int)) = true := decide_eq_true (by omega)
    have g1 := decide_eq_false h1
    have g2 := decide_eq_false h2
    go_enter Tryd.func64, Tryd.ntmps64
    go_wp2
    refine bodyPost_ret (results_row_tmp rfl _ _ w.heap.size 72 #[.int .i64 n, .int .u64 0] (0, 0) _ rfl B0.out Tryd.underlying72 rfl (by kernel_rfl)) rfl ⟨⟨0, rfl⟩, ?_⟩
    exact HBA.out

/-- All are sets of n elements. -/
def setsOk (n : Nat) (xs : List Int) : Bool := xs.all fun x => decide (0 ≤ x) && decide (x < (2 ^ n : Nat))
theorem sets_iff {n : Nat} {xs : List Int} : setsOk n xs = true ↔ ∀ x ∈ xs, 0 ≤ x ∧ x < (2 ^ n : Nat) := by simp [setsOk]
set_option maxRecDepth 100000 in
set_option maxHeartbeats 4000000 in
theorem collectF (n : Nat) (A : Option Addr) (m c : Nat) (xs : List Int) (w : World) (h1 : 1 ≤ n) (h6 : n ≤ 6) (hm : m ≤ 64) (hs : Sl w A m c (xs.map (Value.int .i64))) :
    Calls Tryd.prog 64 #[.int .i64 n, .slice A m c] w fun e w' => (∃ G : Nat, e = .returned (.tuple #[.agg #[.int .i64 n, .int .u64 G], .bool (setsOk n xs)]) ∧ (setsOk n xs = true → G = setF xs)) ∧ Below w.heap.size w w' := by
  have hN := two64 h6
  have FN : Fits (n : Int) := ⟨by omega, by omega⟩
  have HE2 := hid (p2_nat n)
  have hlen : xs.length = m := by simpa using hs.len
  have HLN := hid hlen
  have HS := hid hs
  have g0 : decide ((n : Int) < 1) = false := decide_eq_false (by omega)
  have g1 : decide (6 < (n : Int)) = false := decide_eq_false (by omega)
  have g1n : decide (6 < n) = false := decide_eq_false (by omega)
  have g2 : decide (64 < (m : Int)) = false := decide_eq_false (by omega)
  have g2n : decide (64 < m) = false := decide_eq_false (by omega)
  clear hs hlen
  go_enter Tryd.func64, Tryd.ntmps64
  go_wp2
  go_loopg [25] m (fun g i wr => ∃ k : Nat, g + k = m ∧ i = .int .i64 k ∧ Hid (∀ x ∈ xs.take k, 0 ≤ x ∧ x < (2 ^ n : Nat)) ∧ Hid (Blk wr w.heap.size 72 #[.int .i64 0, .int .u64 0]) ∧ Hid (Blk wr (w.heap.size + 1) 72 #[.int .i64 n, .int .u64 (setF (xs.take k) : Nat)]) ∧ Hid (Below w.heap.size w wr))
  case atStart => exact ⟨0, by omega, rfl, hid (by simp), hid ((Blk.new _ _ _).alloc _), hid (Blk.new_at _ _ _ (by simp)), hid (((Below.refl w.heap.size w).alloc (Nat.le_refl _) _).alloc (by simp) _)⟩
  case round =>
    obtain ⟨k, hk, rfl, hall, b0, b1, hb⟩ := hrel
    have HK := hid hk
    have hz := hb.out.size
    have c0 := b1.out.cell 0; have c1 := b1.out.cell 1; have z0 := b0.out.cell 0; have z1 := b0.out.cell 1
    have f0 := b0.out.free 0; have f1 := b0.out.free 1; have f2 := b1.out.free 1
    simp only [List.getElem?_toArray, List.getElem?_cons_zero, List.getElem?_cons_succ] at c0 c1 z0 z1
    have hlt2 : setF (xs.take k) < 2 ^ (2 ^ n) := setF_lt hall.out
    have h64 := fam64 h6 hlt2
    by_cases hlt : k < m
    · obtain ⟨b, o, u, rfl, lb, hx, hcl⟩ := HS.out.at2 hb.out hlt
      rw [List.getElem?_map] at hx
      obtain ⟨x, hxl, rfl⟩ := Option.map_eq_some_iff.1 hx
      have HX := hid hxl
      have hE : ∀ G : Nat, Hid ((.returned (.tuple #[.agg #[.int .i64 n, .int .u64 G], .bool false]) : Ending) = .returned (.tuple #[.agg #[.int .i64 n, .int .u64 G], .bool (setsOk n xs)]) ∨ (0 ≤ x ∧ x < (2 ^ n : Nat))) := by
        intro G
        by_cases h : 0 ≤ x ∧ x < (2 ^ n : Nat)
        · exact .inr h
        · left
          have : setsOk n xs = false := by
            cases e : setsOk n xs
            · rfl
            · exact absurd (sets_iff.1 e x (List.mem_of_getElem? hxl)) h
          rw [this]
      have B0 := hid ((b0.out.set 0 (.int .i64 n)).set 1 (.int .u64 (setF (xs.take k) : Nat)))
      have HBB := hid ((hb.out.setCell (p := ⟨w.heap.size, 0, none⟩) (by simp) (.int .i64 n)).setCell (p := ⟨w.heap.size, 1, none⟩) (by simp) (.int .u64 (setF (xs.take k) : Nat)))
      clear hk hx hxl hlt2
      by_cases hx0 : x < 0
      · have t0 : decide (x < 0) = true := decide_eq_true hx0
        have hf : setsOk n xs = false := by
          rcases (hE 0).out with h | h
          · cases e : setsOk n xs
            · rfl
            · rw [e] at h; simp at h
          · omega
        clear hE hx0
        go_wp2
        refine bodyPost_ret (results_row_tmp rfl _ _ w.heap.size 72 #[.int .i64 n, .int .u64 (setF (xs.take k) : Nat)] (0, 0) _ rfl B0.out Tryd.underlying72 rfl (by kernel_rfl)) rfl ⟨⟨_, by rw [hf]; rfl, fun h => by rw [hf] at h; cases h⟩, HBB.out⟩
      · have t0 : decide (x < 0) = false := decide_eq_false hx0
        by_cases hxN : p2 (n : Int) ≤ x
        · have t1 : decide (p2 (n : Int) ≤ x) = true := decide_eq_true hxN
          have hf : setsOk n xs = false := by
            rcases (hE 0).out with h | h
            · cases e : setsOk n xs
              · rfl
              · rw [e] at h; simp at h
            · rw [HE2.out] at hxN; omega
          clear hE hx0 hxN
          go_wp2
          refine bodyPost_ret (results_row_tmp rfl _ _ w.heap.size 72 #[.int .i64 n, .int .u64 (setF (xs.take k) : Nat)] (0, 0) _ rfl B0.out Tryd.underlying72 rfl (by kernel_rfl)) rfl ⟨⟨_, by rw [hf]; rfl, fun h => by rw [hf] at h; cases h⟩, HBB.out⟩
        · have t1 : decide (p2 (n : Int) ≤ x) = false := decide_eq_false hxN
          have hxb : 0 ≤ x ∧ x < (2 ^ n : Nat) := by have := HE2.out; omega
          have HXB := hid hxb
          have FX : FitF x := ⟨by omega, by omega⟩
          have OX : OrF (setF (xs.take k)) x := ⟨h64, by omega, by omega⟩
          have HO : Hid (setF (xs.take (k + 1)) = orI (setF (xs.take k)) x) := hid (by rw [List.take_add_one, HX.out]; exact setF_snoc _ _)
          clear hE hx0 hxN hxb B0 HBB h64
          go_wp2_with fail
          go_region
          all_goals go_wp2
          all_goals (go_roundg (gk - 1))
          any_goals (case measure => have := HK.out; omega)
          all_goals
            refine ⟨k + 1, by have := HK.out; omega, by go_num, hid (by
              rw [List.take_add_one, HX.out]
              intro y hy
              rcases List.mem_append.1 hy with h | h
              · exact hall.out y h
              · simp at h; subst h; exact HXB.out), ?_, ?_, ?_⟩
          all_goals first
            | (rw [HO.out]; exact hid (b1.out.set 1 _))
            | (rw [HO.out]; exact hid (b1.out.set 1 _).drew)
            | (rw [HO.out]; exact hid (b1.out.drew.set 1 _))
            | exact hid (b0.out.far (by simp) _)
            | exact hid (b0.out.far (by simp) _).drew
            | exact hid (b0.out.drew.far (by simp) _)
            | exact hid (hb.out.setCell (by simp) _)
            | exact hid (hb.out.setCell (by simp) _).drew
            | exact hid (hb.out.drew.setCell (by simp) _)
    · obtain rfl : k = m := by omega
      have et : xs.take k = xs := List.take_of_length_le (by have := HLN.out; omega)
      rw [et] at b1 hall c1
      have hf : setsOk n xs = true := sets_iff.2 hall.out
      have B0 := hid ((b0.out.set 0 (.int .i64 n)).set 1 (.int .u64 (setF xs : Nat)))
      have HBB := hid ((hb.out.setCell (p := ⟨w.heap.size, 0, none⟩) (by simp) (.int .i64 n)).setCell (p := ⟨w.heap.size, 1, none⟩) (by simp) (.int .u64 (setF xs : Nat)))
      clear hk et hlt2 h64
      go_wp2
      refine bodyPost_ret (results_row_tmp rfl _ _ w.heap.size 72 #[.int .i64 n, .int .u64 (setF xs : Nat)] (0, 0) _ rfl B0.out Tryd.underlying72 rfl (by kernel_rfl)) rfl ⟨⟨_, by rw [hf]; rfl, fun _ => rfl⟩, HBB.out⟩
end Go.Proofs.YtjddbglbodkihaaDoor
