/- Walks of bets' fractions: gcd, frac, whole, plus, times, over. Conditions: numbers of moderate size, a denominator that is not 0. -/
import Derived.Test.YtnibidmlkbcfkaaGreatDoorT5
import Derived.Deep.QuietTactic
import Derived.BigQuiet
import Derived.IntWalk
namespace Go.Proofs.YtnibidmlkbcfkaaGreatDoor
open Go.RowKit Go.Maps
def mid (x : Int) : Prop := -1000000000000 ≤ x ∧ x ≤ 1000000000000
theorem gcd_step (x y : Int) : Int.gcd y (x.tmod y) = Int.gcd x y := by
 unfold Int.gcd
 rw [Int.natAbs_tmod, Nat.gcd_comm x.natAbs, Nat.gcd_comm y.natAbs (x.natAbs % y.natAbs)]
 exact (Nat.gcd_rec y.natAbs x.natAbs).symm
theorem tmod_mid {x y : Int} (hy : mid y) : mid (x.tmod y) ∨ y = 0 := by
 by_cases e : y = 0
 · exact .inr e
 · left
   have h1 : (x.tmod y).natAbs < y.natAbs := by rw [Int.natAbs_tmod]; exact Nat.mod_lt _ (by omega)
   unfold mid at *
   omega
set_option maxRecDepth 100000 in
set_option maxHeartbeats 1000000 in
theorem gcdF (a b : Int) (ha : mid a) (hb : mid b) (w : World) :
 Calls Tryz.prog 210 #[.int .i64 a, .int .i64 b] w fun e w' => e = .returned (.int .i64 (Int.gcd a b : Nat)) ∧ ∃ n, w.drewN n = w' := by
 obtain ⟨G, hG⟩ : ∃ G, G = Int.gcd a b := ⟨_, rfl⟩
 rw [← hG]
 have HG := hid hG
 have HA := hid ha
 have HB := hid hb
 clear hG ha hb
 go_enter Tryz.func210, Tryz.ntmps210
 go_wp2
 go_loopg [0, 1] b.natAbs (fun gk u v wr => ∃ x y : Int, gk = y.natAbs ∧ u = .int .i64 x ∧ v = .int .i64 y ∧ Hid (G = Int.gcd x y) ∧ Hid (mid x) ∧ Hid (mid y) ∧ Hid (∃ n, w.drewN n = wr))
 case atStart => exact ⟨a, b, rfl, rfl, rfl, HG, HA, HB, hid ⟨0, rfl⟩⟩
 case round =>
  clear HG HA HB
  obtain ⟨x, y, hk, rfl, rfl, HG, HX, HY, HW⟩ := hrel
  have HK := hid hk
  clear hk
  by_cases h0 : y = 0
  · subst h0
    have hx := HX.out
    unfold mid at hx
    go_wp2
    go_ret
    exact ⟨ret_i (by have := HG.out; simp only [Int.gcd_zero_right] at this; omega), HW.out⟩
  · have hy0 : (y == 0) = false := by simpa using h0
    have H0 := hid h0
    have hy := HY.out
    have hm := (tmod_mid (x := x) hy).resolve_right h0
    have HM := hid hm
    unfold mid at hy hm
    go_wp2_with fail
    go_quiet (fail)
    go_wp2
    go_roundg ((x.tmod y).natAbs)
    case measure =>
     have h1 : (x.tmod y).natAbs < y.natAbs := by rw [Int.natAbs_tmod]; exact Nat.mod_lt _ (Int.natAbs_pos.2 H0.out)
     have := HK.out
     omega
    case rel => exact ⟨y, x.tmod y, rfl, rfl, rfl, hid (by rw [gcd_step]; exact HG.out), HY, HM, hid (by obtain ⟨n, hn⟩ := HW.out; exact ⟨n + nq, by rw [← hn]; simp [World.drewN, Nat.add_assoc]⟩)⟩
theorem natG (x y : Int) (h : y ≠ 0) : 0 < ((Int.gcd x y : Nat) : Int) ∧ ((Int.gcd x y : Nat) : Int) ∣ x ∧ ((Int.gcd x y : Nat) : Int) ∣ y := by
 refine ⟨?_, Int.gcd_dvd_left .., Int.gcd_dvd_right ..⟩
 have := Int.gcd_pos_of_ne_zero_right x h
 omega
theorem div_mid {x g : Int} (h : mid x) (hg : 0 < g) : mid (x / g) := by
 unfold mid at *
 constructor
 · exact (Int.le_ediv_iff_mul_le hg).2 (by
    have : (-1000000000000 : Int) * g ≤ -1000000000000 * 1 := Int.mul_le_mul_of_nonpos_left (by omega) (by omega)
    omega)
 · exact Int.le_trans (Int.ediv_le_ediv hg h.2) (Int.ediv_le_self _ (by omega))
/-- One result, a struct in a block. -/
theorem results_row1 {P : Program} {fn : Func} {p : Tmp} {ty : TypeId} (h : fn.results = #[.cell p ty]) (tmps : Array Value) (w : World) (g : Nat) (t : TypeId) (cs : Array Value) (fr : Nat × Nat) (d : TypeDesc)
 (hp : tmps.getD p undef = .pointer (some ⟨g, 0, none⟩)) (hg : w.heap[g]? = some (.cells cs t fr))
 (hu : P.underlying ty = some d) (hd : (match d with | .struct _ | .array _ _ => true | _ => false) = true) (hi : (P.info? ty).map (·.size) = some cs.size) :
 (results fn tmps).run P w = .ok (.agg cs) w := by
 have hp' : tmps[p]?.getD undef = .pointer (some ⟨g, 0, none⟩) := by simpa using hp
 simp only [results, h]
 simp [hp', asAddr, run_loadVar_row w g t ty cs fr d hg hu hd hi]
/-- A fraction as a value. -/
def frV (x : Int × Int) : Value := .agg #[.int .i64 x.1, .int .i64 x.2]
set_option maxRecDepth 100000 in
set_option maxHeartbeats 1000000 in
theorem wholeF (n : Int) (w : World) :
 Calls Tryz.prog 238 #[.int .i64 n] w fun e w' => e = .returned (frV (n, 1)) ∧ Below w.heap.size w w' := by
 go_enter Tryz.func238, Tryz.ntmps238
 go_wp2
 exact bodyPost_ret (results_row1 rfl _ _ w.heap.size 48 #[.int .i64 n, .int .i64 1] (0, 0) _ rfl (Blk.new w _ _) Tryz.underlying48 rfl (by kernel_rfl)) rfl ⟨rfl, (Below.refl _ w).alloc (Nat.le_refl _) _⟩
set_option maxRecDepth 100000 in
set_option maxHeartbeats 1000000 in
theorem fracF (n d : Int) (hn : mid n) (hd : mid d) (h0 : d ≠ 0) (w : World) :
 Calls Tryz.prog 179 #[.int .i64 n, .int .i64 d] w fun e w' => e = .returned (frV (fr n d)) ∧ Below w.heap.size w w' := by
 have hB := (Blk.new w 48 #[.int .i64 0, .int .i64 0])
 by_cases hneg : d < 0
 · have hG := natG n d h0
   have hgg : Int.gcd (-n) (-d) = Int.gcd n d := by rw [Int.gcd_neg, Int.neg_gcd]
   have HGC := hid fun W => gcdF (-n) (-d) (by unfold mid at *; omega) (by unfold mid at *; omega) W
   rw [hgg] at HGC
   have t1 := Int.tdiv_eq_ediv_of_dvd ((Int.dvd_neg).2 hG.2.1)
   have t2 := Int.tdiv_eq_ediv_of_dvd ((Int.dvd_neg).2 hG.2.2)
   have m1 := div_mid (x := -n) (by unfold mid at *; omega) hG.1
   have m2 := div_mid (x := -d) (by unfold mid at *; omega) hG.1
   have hfr : fr n d = (-n / ((Int.gcd n d : Nat) : Int), -d / ((Int.gcd n d : Nat) : Int)) := by unfold fr; rw [if_pos hneg]
   rw [hfr]
   have hG0 : (((Int.gcd n d : Nat) : Int) == 0) = false := by simp; omega
   have hG1 := hG.1
   unfold mid at m1 m2 hn hd
   have g0 : decide (d < 0) = true := decide_eq_true hneg
   have HB := hid hB
   clear hfr hG hgg hB
   generalize ((Int.gcd n d : Nat) : Int) = G at *
   go_enter Tryz.func179, Tryz.ntmps179
   go_wp2_with fail
   refine (HGC.out _).mono ?_; rintro e w1 ⟨rfl, n1, rfl⟩
   go_wp2_with fail
   go_region
   all_goals go_wp2
   all_goals exact bodyPost_ret (results_row1 rfl _ _ w.heap.size 48 #[.int .i64 (-n / G), .int .i64 (-d / G)] (0, 0) _ rfl (((HB.out.drewN _).set 0 _).set 1 _) Tryz.underlying48 rfl (by kernel_rfl)) rfl ⟨rfl, ((below_drewN ((Below.refl _ w).alloc (Nat.le_refl _) _) _).setCell (Nat.le_refl _) _).setCell (Nat.le_refl _) _⟩
 · have hG := natG n d h0
   have HGC := hid fun W => gcdF n d hn hd W
   have m1 := div_mid hn hG.1
   have m2 := div_mid hd hG.1
   have hfr : fr n d = (n / ((Int.gcd n d : Nat) : Int), d / ((Int.gcd n d : Nat) : Int)) := by unfold fr; rw [if_neg hneg]
   rw [hfr]
   have t1 := Int.tdiv_eq_ediv_of_dvd hG.2.1
   have t2 := Int.tdiv_eq_ediv_of_dvd hG.2.2
   have hG0 : (((Int.gcd n d : Nat) : Int) == 0) = false := by simp; omega
   have hG1 := hG.1
   unfold mid at m1 m2
   have HB := hid hB
   clear hfr hG hn hd hB
   generalize ((Int.gcd n d : Nat) : Int) = G at *
   go_enter Tryz.func179, Tryz.ntmps179
   go_wp2_with fail
   refine (HGC.out _).mono ?_; rintro e w1 ⟨rfl, n1, rfl⟩
   go_wp2_with fail
   go_region
   all_goals go_wp2
   all_goals exact bodyPost_ret (results_row1 rfl _ _ w.heap.size 48 #[.int .i64 (n / G), .int .i64 (d / G)] (0, 0) _ rfl (((HB.out.drewN _).set 0 _).set 1 _) Tryz.underlying48 rfl (by kernel_rfl)) rfl ⟨rfl, ((below_drewN ((Below.refl _ w).alloc (Nat.le_refl _) _) _).setCell (Nat.le_refl _) _).setCell (Nat.le_refl _) _⟩
/-- Numbers of a fraction that the law speaks of. -/
def sml (a : Int × Int) : Prop := -10000 ≤ a.1 ∧ a.1 ≤ 10000 ∧ 1 ≤ a.2 ∧ a.2 ≤ 10000
theorem mul_bd {x y : Int} {m n : Nat} (hx : x.natAbs ≤ m) (hy : y.natAbs ≤ n) : (x * y).natAbs ≤ m * n := by rw [Int.natAbs_mul]; exact Nat.mul_le_mul hx hy
theorem i64_id {x : Int} (h : x.natAbs ≤ 1000000000000) : IntKind.i64.wrap x = x ∧ wrap64 x = x := by
 have h1 : wrap64 x = x := by simp only [wrap64]; omega
 exact ⟨Go.IntWalk.i64_in _ (by omega), h1⟩
theorem three_new (w : World) (t : TypeId) (c : Array Value) (t2 : TypeId) (c2 : Array Value) (t3 : TypeId) (c3 : Array Value) (n : Nat) :
 Hid (Blk ((((w.alloc (.cells c t)).alloc (.cells c2 t2)).alloc (.cells c3 t3)).drewN n) w.heap.size t c) ∧ Hid (Blk ((((w.alloc (.cells c t)).alloc (.cells c2 t2)).alloc (.cells c3 t3)).drewN n) (w.heap.size + 1) t2 c2) ∧ Hid (Blk ((((w.alloc (.cells c t)).alloc (.cells c2 t2)).alloc (.cells c3 t3)).drewN n) (w.heap.size + 1 + 1) t3 c3) ∧
 Hid (Below w.heap.size w ((((w.alloc (.cells c t)).alloc (.cells c2 t2)).alloc (.cells c3 t3)).drewN n)) :=
 ⟨(((Blk.new w t c).alloc _).alloc _).drewN n, ((Blk.new_at (w.alloc (.cells c t)) t2 c2 (by simp)).alloc _).drewN n, (Blk.new_at ((w.alloc (.cells c t)).alloc (.cells c2 t2)) t3 c3 (by simp)).drewN n, below_drewN ((((Below.refl _ w).alloc (Nat.le_refl _) _).alloc (by simp) _).alloc (by simp; omega) _) n⟩
set_option maxRecDepth 100000 in
set_option maxHeartbeats 2000000 in
theorem plusF (a b : Int × Int) (k : Int) (ha : sml a) (hb : sml b) (hk : k = 1 ∨ k = -1) (w : World) :
 Calls Tryz.prog 211 #[frV a, .int .i64 k, frV b] w fun e w' => e = .returned (frV (plusP a k b)) ∧ Below w.heap.size w w' := by
 obtain ⟨a1, a2⟩ := a
 obtain ⟨b1, b2⟩ := b
 obtain ⟨p1, p2, p3, p4⟩ := ha
 obtain ⟨q1, q2, q3, q4⟩ := hb
 simp only at p1 p2 p3 p4 q1 q2 q3 q4
 unfold plusP frV
 simp only
 have HGC := hid fun W => gcdF a2 b2 (by unfold mid; omega) (by unfold mid; omega) W
 obtain ⟨hG, hd1, hd2⟩ := natG a2 b2 (by omega)
 have t1 := Int.tdiv_eq_ediv_of_dvd hd1
 have t2 := Int.tdiv_eq_ediv_of_dvd hd2
 have hG0 : (((Int.gcd a2 b2 : Nat) : Int) == 0) = false := by simp; omega
 have x0 := Int.ediv_le_self ((Int.gcd a2 b2 : Nat) : Int) (show 0 ≤ a2 by omega)
 have y0 := Int.ediv_le_self ((Int.gcd a2 b2 : Nat) : Int) (show 0 ≤ b2 by omega)
 have x1 := Int.ediv_pos_of_pos_of_dvd (show 0 < a2 by omega) (show 0 ≤ ((Int.gcd a2 b2 : Nat) : Int) by omega) hd1
 have y1 := Int.ediv_pos_of_pos_of_dvd (show 0 < b2 by omega) (show 0 ≤ ((Int.gcd a2 b2 : Nat) : Int) by omega) hd2
 clear hd1 hd2
 generalize ((Int.gcd a2 b2 : Nat) : Int) = G at *
 generalize hX : a2 / G = X at *
 generalize hY : b2 / G = Y at *
 have e1 := mul_bd (x := a1) (y := Y) (m := 10000) (n := 10000) (by omega) (by omega)
 have e2 : (k * b1).natAbs ≤ 10000 := by rcases hk with rfl | rfl <;> omega
 have e3 := mul_bd (x := k * b1) (y := X) (m := 10000) (n := 10000) e2 (by omega)
 have e4 := mul_bd (x := X) (y := b2) (m := 10000) (n := 10000) (by omega) (by omega)
 have e5 : 0 < X * b2 := Int.mul_pos x1 (by omega)
 have HF := hid fun W => fracF (a1 * Y + k * b1 * X) (X * b2) (by unfold mid; omega) (by unfold mid; omega) (by omega) W
 obtain ⟨w1, w1'⟩ := i64_id (x := a1 * Y) (by omega)
 obtain ⟨w2, w2'⟩ := i64_id (x := k * b1) (by omega)
 obtain ⟨w3, w3'⟩ := i64_id (x := k * b1 * X) (by omega)
 obtain ⟨w4, w4'⟩ := i64_id (x := X * b2) (by omega)
 obtain ⟨w5, w5'⟩ := i64_id (x := a1 * Y + k * b1 * X) (by omega)
 obtain ⟨w6, w6'⟩ := i64_id (x := X) (by omega)
 obtain ⟨w7, w7'⟩ := i64_id (x := Y) (by omega)
 have g1 : ¬ G = 0 := by omega
 clear e1 e2 e3 e4 e5 hk
 unfold frV at HF
 go_enter Tryz.func211, Tryz.ntmps211
 go_wp2_with fail
 refine (HGC.out _).mono ?_; rintro e w1 ⟨rfl, n1, rfl⟩
 obtain ⟨HB3, HB5, HB6, HW⟩ := three_new w 48 #[.int .i64 a1, .int .i64 a2] 48 #[.int .i64 b1, .int .i64 b2] 48 #[.int .i64 0, .int .i64 0] n1
 go_wp2_with fail
 generalize (((w.alloc (.cells #[.int .i64 a1, .int .i64 a2] 48)).alloc (.cells #[.int .i64 b1, .int .i64 b2] 48)).alloc (.cells #[.int .i64 0, .int .i64 0] 48)).drewN n1 = W at *
 have a0 := HB3.out.cell 0
 have a1' := HB3.out.cell 1
 have b0 := HB5.out.cell 0
 have b1' := HB5.out.cell 1
 simp only [List.getElem?_toArray, List.getElem?_cons_zero, List.getElem?_cons_succ] at a0 a1' b0 b1'
 have n20 : ¬ w.heap.size = w.heap.size + 1 + 1 := by omega
 have n21 : ¬ w.heap.size + 1 = w.heap.size + 1 + 1 := by omega
 refine wp_region_held_drew (S := (fun w' => w'.cell? ⟨w.heap.size, 0, none⟩ = some (.int .i64 a1) ∧ w'.cell? ⟨w.heap.size, 1, none⟩ = some (.int .i64 a2) ∧ w'.cell? ⟨w.heap.size + 1, 0, none⟩ = some (.int .i64 b1) ∧ w'.cell? ⟨w.heap.size + 1, 1, none⟩ = some (.int .i64 b2))) (by kernel_rfl) (by (try dsimp only); (first | exact ⟨a0, a1', b0, b1'⟩ | exact HK.out | exact ⟨cell_far _ n20 (cell_far _ n20 HK.out.1), cell_far _ n20 (cell_far _ n20 HK.out.2.1), cell_far _ n21 (cell_far _ n21 HK.out.2.2.1), cell_far _ n21 (cell_far _ n21 HK.out.2.2.2)⟩)) (fun hHeld => ?_)
 refine tk ?_ 0 (some 13) rfl rfl ?_ ?_; rotate_left; · (intro w hSw; (try dsimp only at hSw); go_simp <;> with_reducible rfl)
 try simp only [Act.put,qA,qB,qC]
 refine tk ?_ 1 (some 14) rfl rfl ?_ ?_; rotate_left; · (intro w hSw; (try dsimp only at hSw); go_simp <;> with_reducible rfl)
 try simp only [Act.put,qA,qB,qC]
 refine tk ?_ 2 (some 15) rfl rfl ?_ ?_; rotate_left; · (intro w hSw; (try dsimp only at hSw); go_simp <;> with_reducible rfl)
 try simp only [Act.put,qA,qB,qC]
 refine tk ?_ 3 (some 16) rfl rfl ?_ ?_; rotate_left; · (intro w hSw; (try dsimp only at hSw); go_simp <;> with_reducible rfl)
 try simp only [Act.put,qA,qB,qC]
 refine tk ?_ 4 (some 17) rfl rfl ?_ ?_; rotate_left; · (intro w hSw; (try dsimp only at hSw); go_simp <;> with_reducible rfl)
 try simp only [Act.put,qA,qB,qC]
 refine tk ?_ 5 (some 18) rfl rfl ?_ ?_; rotate_left; · (intro w hSw; (try dsimp only at hSw); go_simp <;> with_reducible rfl)
 try simp only [Act.put,qA,qB,qC]
 refine tk ?_ 6 (some 19) rfl rfl ?_ ?_; rotate_left; · (intro w hSw; (try dsimp only at hSw); go_simp <;> with_reducible rfl)
 try simp only [Act.put,qA,qB,qC]
 refine tk ?_ 7 (some 20) rfl rfl ?_ ?_; rotate_left; · (intro w hSw; (try dsimp only at hSw); go_simp <;> with_reducible rfl)
 try simp only [Act.put,qA,qB,qC]
 refine tk ?_ 8 (some 21) rfl rfl ?_ ?_; rotate_left; · (intro w hSw; (try dsimp only at hSw); go_simp <;> with_reducible rfl)
 try simp only [Act.put,qA,qB,qC]
 refine tk ?_ 9 (some 22) rfl rfl ?_ ?_; rotate_left; · (intro w hSw; (try dsimp only at hSw); go_simp <;> with_reducible rfl)
 try simp only [Act.put,qA,qB,qC]
 refine tk ?_ 10 (some 23) rfl rfl ?_ ?_; rotate_left; · (intro w hSw; (try dsimp only at hSw); go_simp <;> with_reducible rfl)
 try simp only [Act.put,qA,qB,qC]
 refine tk ?_ 11 (some 24) rfl rfl ?_ ?_; rotate_left; · (intro w hSw; (try dsimp only at hSw); go_simp <;> with_reducible rfl)
 try simp only [Act.put,qA,qB,qC]
 refine tk ?_ 12 (some 25) rfl rfl ?_ ?_; rotate_left; · (intro w hSw; (try dsimp only at hSw); go_simp <;> with_reducible rfl)
 try simp only [Act.put,qA,qB,qC]
 refine tk ?_ 13 (some 26) rfl rfl ?_ ?_; rotate_left; · (intro w hSw; (try dsimp only at hSw); go_simp <;> with_reducible rfl)
 try simp only [Act.put,qA,qB,qC]
 refine tk ?_ 14 (some 27) rfl rfl ?_ ?_; rotate_left; · (intro w hSw; (try dsimp only at hSw); go_simp <;> with_reducible rfl)
 try simp only [Act.put,qA,qB,qC]
 refine tk ?_ 15 (some 28) rfl rfl ?_ ?_; rotate_left; · (intro w hSw; (try dsimp only at hSw); go_simp <;> with_reducible rfl)
 try simp only [Act.put,qA,qB,qC]
 refine tk ?_ 16 (some 29) rfl rfl ?_ ?_; rotate_left; · (intro w hSw; (try dsimp only at hSw); go_simp <;> with_reducible rfl)
 try simp only [Act.put,qA,qB,qC]
 refine tk ?_ 17 (some 30) rfl rfl ?_ ?_; rotate_left; · (intro w hSw; (try dsimp only at hSw); go_simp <;> with_reducible rfl)
 try simp only [Act.put,qA,qB,qC]
 refine tk ?_ 18 (some 31) rfl rfl ?_ ?_; rotate_left; · (intro w hSw; (try dsimp only at hSw); go_simp <;> with_reducible rfl)
 try simp only [Act.put,qA,qB,qC]
 refine tk ?_ 19 (some 32) rfl rfl ?_ ?_; rotate_left; · (intro w hSw; (try dsimp only at hSw); go_simp <;> with_reducible rfl)
 try simp only [Act.put,qA,qB,qC]
 refine tk ?_ 20 (some 33) rfl rfl ?_ ?_; rotate_left; · (intro w hSw; (try dsimp only at hSw); go_simp <;> with_reducible rfl)
 try simp only [Act.put,qA,qB,qC]
 refine tk ?_ 21 (some 34) rfl rfl ?_ ?_; rotate_left; · (intro w hSw; (try dsimp only at hSw); go_simp <;> with_reducible rfl)
 try simp only [Act.put,qA,qB,qC]
 refine tk ?_ 22 (some 35) rfl rfl ?_ ?_; rotate_left; · (intro w hSw; (try dsimp only at hSw); go_simp <;> with_reducible rfl)
 try simp only [Act.put,qA,qB,qC]
 refine tk ?_ 23 (some 36) rfl rfl ?_ ?_; rotate_left; · (intro w hSw; (try dsimp only at hSw); go_simp <;> with_reducible rfl)
 try simp only [Act.put,qA,qB,qC]
 refine st 24 rfl fun K hK => ?_
 go_simp
 refine (HF.out _).mono ?_; rintro e w5 ⟨rfl, b5⟩
 have HK := hid (And.intro (cell_keep b5 a0) (And.intro (cell_keep b5 a1') (And.intro (cell_keep b5 b0) (cell_keep b5 b1'))))
 have HB7 := hid (HB6.out.drew.keep b5)
 have HW7 := hid (below_call HW.out.drew b5 HW.out.size)
 have f0 := HB7.out.free 0
 have f1 := HB7.out.free 1
 have r0 := HB7.out.cell 0
 have r1 := HB7.out.cell 1
 simp only [List.getElem?_toArray, List.getElem?_cons_zero, List.getElem?_cons_succ] at r0 r1
 clear b5 a0 a1' b0 b1'
 refine hK.out _ _ ?_ (fun hHeld => ?_); · ((try dsimp only); (first | exact ⟨a0, a1', b0, b1'⟩ | exact HK.out | exact ⟨cell_far _ n20 (cell_far _ n20 HK.out.1), cell_far _ n20 (cell_far _ n20 HK.out.2.1), cell_far _ n21 (cell_far _ n21 HK.out.2.2.1), cell_far _ n21 (cell_far _ n21 HK.out.2.2.2)⟩))
 clear hK K
 try simp only [Act.put,qA,qB,qC]
 refine st 25 rfl fun K hK => ?_
 go_simp
 refine hK.out _ _ ?_ (fun hHeld => ?_); · ((try dsimp only); (first | exact ⟨a0, a1', b0, b1'⟩ | exact HK.out | exact ⟨cell_far _ n20 (cell_far _ n20 HK.out.1), cell_far _ n20 (cell_far _ n20 HK.out.2.1), cell_far _ n21 (cell_far _ n21 HK.out.2.2.1), cell_far _ n21 (cell_far _ n21 HK.out.2.2.2)⟩))
 clear hK K
 try simp only [Act.put,qA,qB,qC]
 refine wpAnyH_done (by kernel_rfl) ?_ _
 go_wp2
 exact bodyPost_ret (results_row1 rfl _ _ (w.heap.size + 1 + 1) 48 #[.int .i64 (fr (a1 * Y + k * b1 * X) (X * b2)).1, .int .i64 (fr (a1 * Y + k * b1 * X) (X * b2)).2] (0, 0) _ rfl ((HB7.out.set 0 _).set 1 _) Tryz.underlying48 rfl (by kernel_rfl)) rfl ⟨rfl, (HW7.out.setCell (by simp; omega) _).setCell (by simp; omega) _⟩
theorem fr_bd {n d : Int} (hn : -10000 ≤ n ∧ n ≤ 10000) (hd : 1 ≤ d ∧ d ≤ 10000) : (fr n d).1.natAbs ≤ 10000 ∧ (fr n d).2.natAbs ≤ 10000 := by
 obtain ⟨hG, h1, h2⟩ := natG n d (by omega)
 unfold fr
 rw [if_neg (by omega)]
 simp only
 generalize ((Int.gcd n d : Nat) : Int) = G at *
 obtain ⟨p, rfl⟩ := h1
 obtain ⟨q, rfl⟩ := h2
 rw [Int.mul_ediv_cancel_left _ (by omega), Int.mul_ediv_cancel_left _ (by omega)]
 have k : ∀ z : Int, z.natAbs ≤ (G * z).natAbs := fun z => by
  rw [Int.natAbs_mul]
  exact Nat.le_mul_of_pos_left _ (by omega)
 have k1 := k p
 have k2 := k q
 omega
theorem fr_flip {b : Int × Int} (h : sml b) (h0 : b.1 ≠ 0) : sml (fr b.2 b.1) := by
 obtain ⟨b1, b2⟩ := b
 unfold sml at h
 simp only at h h0
 obtain ⟨hG, h1, h2⟩ := natG b2 b1 h0
 unfold fr
 have k : ∀ z G : Int, 0 < G → z.natAbs ≤ (G * z).natAbs := fun z G hG => by
  rw [Int.natAbs_mul]
  exact Nat.le_mul_of_pos_left _ (by omega)
 by_cases hneg : b1 < 0
 · rw [if_pos hneg]
   unfold sml
   simp only
   generalize ((Int.gcd b2 b1 : Nat) : Int) = G at *
   obtain ⟨p, rfl⟩ := h1
   obtain ⟨q, rfl⟩ := h2
   have k1 := k p G hG
   have k2 := k q G hG
   rw [← Int.mul_neg, ← Int.mul_neg, Int.mul_ediv_cancel_left _ (by omega), Int.mul_ediv_cancel_left _ (by omega)]
   have hq : q < 0 := by
    rcases Int.lt_or_le q 0 with h | h
    · exact h
    · have := Int.mul_nonneg (show 0 ≤ G by omega) h
      omega
   omega
 · rw [if_neg hneg]
   unfold sml
   simp only
   generalize ((Int.gcd b2 b1 : Nat) : Int) = G at *
   obtain ⟨p, rfl⟩ := h1
   obtain ⟨q, rfl⟩ := h2
   have k1 := k p G hG
   have k2 := k q G hG
   rw [Int.mul_ediv_cancel_left _ (by omega), Int.mul_ediv_cancel_left _ (by omega)]
   have hq : 0 < q := by
    rcases Int.lt_or_le 0 q with h | h
    · exact h
    · have := Int.mul_nonpos_of_nonneg_of_nonpos (show 0 ≤ G by omega) h
      omega
   omega
theorem sml_tw {x : Int} (h : rg x) : sml (tw x) := by
 have := tw_bd h
 unfold sml
 omega
theorem sml_mid {x : Int × Int} (h : sml x) : mid x.1 ∧ mid x.2 ∧ x.2 ≠ 0 := by unfold sml at h; unfold mid; omega
set_option maxRecDepth 100000 in
set_option maxHeartbeats 4000000 in
theorem timesF (a b : Int × Int) (ha : sml a) (hb : sml b) (w : World) :
 Calls Tryz.prog 257 #[frV a, frV b] w fun e w' => e = .returned (frV (timesP a b)) ∧ Below w.heap.size w w' := by
 obtain ⟨a1, a2⟩ := a
 obtain ⟨b1, b2⟩ := b
 have HA := sml_mid ha
 have HB := sml_mid hb
 simp only at HA HB
 unfold timesP frV
 simp only
 have HF1 := hid fun W => fracF a1 b2 HA.1 HB.2.1 HB.2.2 W
 have HF2 := hid fun W => fracF b1 a2 HB.1 HA.2.1 HA.2.2 W
 have hx := fr_bd (n := a1) (d := b2) (by unfold sml at ha; omega) (by unfold sml at hb; omega)
 have hy := fr_bd (n := b1) (d := a2) (by unfold sml at hb; omega) (by unfold sml at ha; omega)
 unfold frV at HF1 HF2
 generalize fr a1 b2 = x at *
 generalize fr b1 a2 = y at *
 obtain ⟨x1, x2⟩ := x
 obtain ⟨y1, y2⟩ := y
 simp only at HF1 HF2 hx hy ⊢
 have e1 := mul_bd (x := x1) (y := y1) (m := 10000) (n := 10000) (by omega) (by omega)
 have e2 := mul_bd (x := x2) (y := y2) (m := 10000) (n := 10000) (by omega) (by omega)
 obtain ⟨w1, w1'⟩ := i64_id (x := x1 * y1) (by omega)
 obtain ⟨w2, w2'⟩ := i64_id (x := x2 * y2) (by omega)
 obtain ⟨HB2, HB3, HB4, HW⟩ := three_new w 48 #[.int .i64 a1, .int .i64 a2] 48 #[.int .i64 b1, .int .i64 b2] 48 #[.int .i64 0, .int .i64 0] 0
 clear ha hb HA HB hx hy e1 e2
 go_enter Tryz.func257, Tryz.ntmps257
 go_wp2_with fail
 go_cut [5, 6] from 7 to 16 (fun p q X => ∃ b5 b6, p = .pointer (some ⟨b5, 0, none⟩) ∧ q = .pointer (some ⟨b6, 0, none⟩) ∧ Hid (Blk X b5 48 #[.int .i64 x1, .int .i64 x2]) ∧ Hid (Blk X b6 48 #[.int .i64 y1, .int .i64 y2]) ∧ Hid (Blk X (w.heap.size + 1 + 1) 48 #[.int .i64 0, .int .i64 0]) ∧ Hid (Below w.heap.size w X))
 case first =>
  have hHK : ∀ X, Hid (Blk X w.heap.size 48 #[.int .i64 a1, .int .i64 a2]) → Hid (Blk X (w.heap.size + 1) 48 #[.int .i64 b1, .int .i64 b2]) → X.cell? ⟨w.heap.size, 0, none⟩ = some (.int .i64 a1) ∧ X.cell? ⟨w.heap.size, 1, none⟩ = some (.int .i64 a2) ∧ X.cell? ⟨w.heap.size + 1, 0, none⟩ = some (.int .i64 b1) ∧ X.cell? ⟨w.heap.size + 1, 1, none⟩ = some (.int .i64 b2) := fun X h1 h2 => ⟨h1.out.cell 0, h1.out.cell 1, h2.out.cell 0, h2.out.cell 1⟩
  have HHK := hid hHK
  clear hHK
  have h0 : ∀ W : World, W.drewN 0 = W := fun W => rfl
  rw [h0] at HB2 HB3 HB4 HW
  clear h0
  generalize (((w.alloc (.cells #[.int .i64 a1, .int .i64 a2] 48)).alloc (.cells #[.int .i64 b1, .int .i64 b2] 48)).alloc (.cells #[.int .i64 0, .int .i64 0] 48)) = X at *
  refine wp_region_held_drew (S := (fun w' => w'.cell? ⟨w.heap.size, 0, none⟩ = some (.int .i64 a1) ∧ w'.cell? ⟨w.heap.size, 1, none⟩ = some (.int .i64 a2) ∧ w'.cell? ⟨w.heap.size + 1, 0, none⟩ = some (.int .i64 b1) ∧ w'.cell? ⟨w.heap.size + 1, 1, none⟩ = some (.int .i64 b2))) (by kernel_rfl) (by (try dsimp only); (first | exact HHK.out _ HB2 HB3 | exact HHK.out _ (hid HB2.out.drew) (hid HB3.out.drew))) (fun hHeld => ?_)
  have HB2 := hid HB2.out.drew; have HB3 := hid HB3.out.drew; have HB4 := hid HB4.out.drew; have HW := hid HW.out.drew
  generalize X.drew = X1 at *
  obtain ⟨X, rfl⟩ : ∃ Y, Y = X1 := ⟨X1, rfl⟩
  refine tk ?_ 0 (some 7) rfl rfl ?_ ?_; rotate_left; · (intro w hSw; (try dsimp only at hSw); go_simp <;> with_reducible rfl)
  try simp only [Act.put,qA,qB,qC]
  refine tk ?_ 1 (some 8) rfl rfl ?_ ?_; rotate_left; · (intro w hSw; (try dsimp only at hSw); go_simp <;> with_reducible rfl)
  try simp only [Act.put,qA,qB,qC]
  refine tk ?_ 2 (some 9) rfl rfl ?_ ?_; rotate_left; · (intro w hSw; (try dsimp only at hSw); go_simp <;> with_reducible rfl)
  try simp only [Act.put,qA,qB,qC]
  refine tk ?_ 3 (some 10) rfl rfl ?_ ?_; rotate_left; · (intro w hSw; (try dsimp only at hSw); go_simp <;> with_reducible rfl)
  try simp only [Act.put,qA,qB,qC]
  refine tk ?_ 5 (some 12) rfl rfl ?_ ?_; rotate_left; · (intro w hSw; (try dsimp only at hSw); go_simp <;> with_reducible rfl)
  try simp only [Act.put,qA,qB,qC]
  refine tk ?_ 6 (some 13) rfl rfl ?_ ?_; rotate_left; · (intro w hSw; (try dsimp only at hSw); go_simp <;> with_reducible rfl)
  try simp only [Act.put,qA,qB,qC]
  refine tk ?_ 7 (some 14) rfl rfl ?_ ?_; rotate_left; · (intro w hSw; (try dsimp only at hSw); go_simp <;> with_reducible rfl)
  try simp only [Act.put,qA,qB,qC]
  refine tk ?_ 8 (some 15) rfl rfl ?_ ?_; rotate_left; · (intro w hSw; (try dsimp only at hSw); go_simp <;> with_reducible rfl)
  try simp only [Act.put,qA,qB,qC]
  refine wpAnyH_ready (rs := [4, 10, 11]) (by kernel_rfl) (by simp) ?_
  refine AllReadyH.cons rfl (fun K hK => ?_) (AllReadyH.cons rfl (fun K hK => ?_) (AllReadyH.cons rfl (fun K hK => ?_) (AllReadyH.nil)))
  · go_simp
    refine (HF1.out _).mono ?_; rintro e X ⟨rfl, bb⟩
    have HB2 := hid (HB2.out.keep bb); have HB3 := hid (HB3.out.keep bb); have HB4 := hid (HB4.out.keep bb); have HW := hid (below_call HW.out bb HW.out.size)
    try have HP5 := hid (HP5.out.keep bb)
    try have HP6 := hid (HP6.out.keep bb)
    clear bb hHeld
    refine hK.out _ _ ?_ (fun hHeld => ?_); · ((try dsimp only); (first | exact HHK.out _ HB2 HB3 | exact HHK.out _ (hid HB2.out.drew) (hid HB3.out.drew)))
    clear hK K
    try simp only [Act.put,qA,qB,qC]
    refine wpAnyH_ready (rs := [9, 10, 11]) (by kernel_rfl) (by simp) ?_
    refine AllReadyH.cons rfl (fun K hK => ?_) (AllReadyH.cons rfl (fun K hK => ?_) (AllReadyH.cons rfl (fun K hK => ?_) (AllReadyH.nil)))
    · go_simp
      refine (HF2.out _).mono ?_; rintro e X ⟨rfl, bb⟩
      have HB2 := hid (HB2.out.keep bb); have HB3 := hid (HB3.out.keep bb); have HB4 := hid (HB4.out.keep bb); have HW := hid (below_call HW.out bb HW.out.size)
      try have HP5 := hid (HP5.out.keep bb)
      try have HP6 := hid (HP6.out.keep bb)
      clear bb hHeld
      refine hK.out _ _ ?_ (fun hHeld => ?_); · ((try dsimp only); (first | exact HHK.out _ HB2 HB3 | exact HHK.out _ (hid HB2.out.drew) (hid HB3.out.drew)))
      clear hK K
      try simp only [Act.put,qA,qB,qC]
      refine wpAnyH_ready (rs := [10, 11]) (by kernel_rfl) (by simp) ?_
      refine AllReadyH.cons rfl (fun K hK => ?_) (AllReadyH.cons rfl (fun K hK => ?_) (AllReadyH.nil))
      · go_simp
        have bb := (Below.refl X.heap.size X).alloc (Nat.le_refl _) (.cells #[.int .i64 0, .int .i64 0] 48)
        have L5 := hid (show w.heap.size + 1 + 1 < X.heap.size from HB4.out.lt)
        try have D56 := hid (show ¬ X.heap.size = b6 from by have := HP6.out.lt; omega)
        have HP5 := hid (Blk.new X 48 #[.int .i64 0, .int .i64 0])
        have HB2 := hid (HB2.out.keep bb); have HB3 := hid (HB3.out.keep bb); have HB4 := hid (HB4.out.keep bb); have HW := hid (below_call HW.out bb HW.out.size)
        try have HP6 := hid (HP6.out.keep bb)
        clear bb hHeld
        generalize X.alloc (.cells #[.int .i64 0, .int .i64 0] 48) = X1 at *
        generalize X.heap.size = b5 at *
        obtain ⟨X, rfl⟩ : ∃ Y, Y = X1 := ⟨X1, rfl⟩
        refine hK.out _ _ ?_ (fun hHeld => ?_); · ((try dsimp only); (first | exact HHK.out _ HB2 HB3 | exact HHK.out _ (hid HB2.out.drew) (hid HB3.out.drew)))
        clear hK K
        try simp only [Act.put,qA,qB,qC]
        refine st 11 rfl fun K hK => ?_
        go_simp
        have bb := (Below.refl X.heap.size X).alloc (Nat.le_refl _) (.cells #[.int .i64 0, .int .i64 0] 48)
        have L6 := hid (show w.heap.size + 1 + 1 < X.heap.size from HB4.out.lt)
        try have D56 := hid (show ¬ b5 = X.heap.size from by have := HP5.out.lt; omega)
        have HP6 := hid (Blk.new X 48 #[.int .i64 0, .int .i64 0])
        have HB2 := hid (HB2.out.keep bb); have HB3 := hid (HB3.out.keep bb); have HB4 := hid (HB4.out.keep bb); have HW := hid (below_call HW.out bb HW.out.size)
        try have HP5 := hid (HP5.out.keep bb)
        clear bb hHeld
        generalize X.alloc (.cells #[.int .i64 0, .int .i64 0] 48) = X1 at *
        generalize X.heap.size = b6 at *
        obtain ⟨X, rfl⟩ : ∃ Y, Y = X1 := ⟨X1, rfl⟩
        refine hK.out _ _ ?_ (fun hHeld => ?_); · ((try dsimp only); (first | exact HHK.out _ HB2 HB3 | exact HHK.out _ (hid HB2.out.drew) (hid HB3.out.drew)))
        clear hK K
        try simp only [Act.put,qA,qB,qC]
        refine st 12 rfl fun K hK => ?_
        have f0 := HP5.out.free 0
        have f1 := HP5.out.free 1
        have r0 := HP5.out.cell 0
        have r1 := HP5.out.cell 1
        simp only [List.getElem?_toArray, List.getElem?_cons_zero, List.getElem?_cons_succ] at r0 r1
        go_simp
        have l5 := L5.out
        have d5 := D56.out
        have HP6 := hid ((HP6.out.far (p := ⟨b5, 0, none⟩) (by simp only; omega) (.int .i64 x1)).far (p := ⟨b5, 1, none⟩) (by simp only; omega) (.int .i64 x2))
        have HP5 := hid ((HP5.out.set 0 (.int .i64 x1)).set 1 (.int .i64 x2))
        have HB2 := hid ((HB2.out.far (p := ⟨b5, 0, none⟩) (by simp only; omega) (.int .i64 x1)).far (p := ⟨b5, 1, none⟩) (by simp only; omega) (.int .i64 x2))
        have HB3 := hid ((HB3.out.far (p := ⟨b5, 0, none⟩) (by simp only; omega) (.int .i64 x1)).far (p := ⟨b5, 1, none⟩) (by simp only; omega) (.int .i64 x2))
        have HB4 := hid ((HB4.out.far (p := ⟨b5, 0, none⟩) (by simp only; omega) (.int .i64 x1)).far (p := ⟨b5, 1, none⟩) (by simp only; omega) (.int .i64 x2))
        have HW := hid ((HW.out.setCell (p := ⟨b5, 0, none⟩) (by simp only; omega) (.int .i64 x1)).setCell (p := ⟨b5, 1, none⟩) (by simp only; omega) (.int .i64 x2))
        clear f0 f1 r0 r1 hHeld
        generalize (X.setCell ⟨b5, 0, none⟩ (.int .i64 x1)).setCell ⟨b5, 1, none⟩ (.int .i64 x2) = X1 at *
        obtain ⟨X, rfl⟩ : ∃ Y, Y = X1 := ⟨X1, rfl⟩
        clear l5 d5
        refine hK.out _ _ ?_ (fun hHeld => ?_); · ((try dsimp only); (first | exact HHK.out _ HB2 HB3 | exact HHK.out _ (hid HB2.out.drew) (hid HB3.out.drew)))
        clear hK K
        try simp only [Act.put,qA,qB,qC]
        refine st 13 rfl fun K hK => ?_
        have f0 := HP6.out.free 0
        have f1 := HP6.out.free 1
        have r0 := HP6.out.cell 0
        have r1 := HP6.out.cell 1
        simp only [List.getElem?_toArray, List.getElem?_cons_zero, List.getElem?_cons_succ] at r0 r1
        go_simp
        have l5 := L6.out
        have d5 := D56.out
        have HP5 := hid ((HP5.out.far (p := ⟨b6, 0, none⟩) (by simp only; omega) (.int .i64 y1)).far (p := ⟨b6, 1, none⟩) (by simp only; omega) (.int .i64 y2))
        have HP6 := hid ((HP6.out.set 0 (.int .i64 y1)).set 1 (.int .i64 y2))
        have HB2 := hid ((HB2.out.far (p := ⟨b6, 0, none⟩) (by simp only; omega) (.int .i64 y1)).far (p := ⟨b6, 1, none⟩) (by simp only; omega) (.int .i64 y2))
        have HB3 := hid ((HB3.out.far (p := ⟨b6, 0, none⟩) (by simp only; omega) (.int .i64 y1)).far (p := ⟨b6, 1, none⟩) (by simp only; omega) (.int .i64 y2))
        have HB4 := hid ((HB4.out.far (p := ⟨b6, 0, none⟩) (by simp only; omega) (.int .i64 y1)).far (p := ⟨b6, 1, none⟩) (by simp only; omega) (.int .i64 y2))
        have HW := hid ((HW.out.setCell (p := ⟨b6, 0, none⟩) (by simp only; omega) (.int .i64 y1)).setCell (p := ⟨b6, 1, none⟩) (by simp only; omega) (.int .i64 y2))
        clear f0 f1 r0 r1 hHeld
        generalize (X.setCell ⟨b6, 0, none⟩ (.int .i64 y1)).setCell ⟨b6, 1, none⟩ (.int .i64 y2) = X1 at *
        obtain ⟨X, rfl⟩ : ∃ Y, Y = X1 := ⟨X1, rfl⟩
        clear l5 d5
        refine hK.out _ _ ?_ (fun hHeld => ?_); · ((try dsimp only); (first | exact HHK.out _ HB2 HB3 | exact HHK.out _ (hid HB2.out.drew) (hid HB3.out.drew)))
        clear hK K
        try simp only [Act.put,qA,qB,qC]
        refine wpAnyH_done (by kernel_rfl) ?_ _
        go_wp2_with fail
        go_meet
        case rel => exact ⟨b5, b6, rfl, rfl, by simpa using HP5, by simpa using HP6, HB4, HW⟩
      · go_simp
        have bb := (Below.refl X.heap.size X).alloc (Nat.le_refl _) (.cells #[.int .i64 0, .int .i64 0] 48)
        have L6 := hid (show w.heap.size + 1 + 1 < X.heap.size from HB4.out.lt)
        try have D56 := hid (show ¬ b5 = X.heap.size from by have := HP5.out.lt; omega)
        have HP6 := hid (Blk.new X 48 #[.int .i64 0, .int .i64 0])
        have HB2 := hid (HB2.out.keep bb); have HB3 := hid (HB3.out.keep bb); have HB4 := hid (HB4.out.keep bb); have HW := hid (below_call HW.out bb HW.out.size)
        try have HP5 := hid (HP5.out.keep bb)
        clear bb hHeld
        generalize X.alloc (.cells #[.int .i64 0, .int .i64 0] 48) = X1 at *
        generalize X.heap.size = b6 at *
        obtain ⟨X, rfl⟩ : ∃ Y, Y = X1 := ⟨X1, rfl⟩
        refine hK.out _ _ ?_ (fun hHeld => ?_); · ((try dsimp only); (first | exact HHK.out _ HB2 HB3 | exact HHK.out _ (hid HB2.out.drew) (hid HB3.out.drew)))
        clear hK K
        try simp only [Act.put,qA,qB,qC]
        refine st 10 rfl fun K hK => ?_
        go_simp
        have bb := (Below.refl X.heap.size X).alloc (Nat.le_refl _) (.cells #[.int .i64 0, .int .i64 0] 48)
        have L5 := hid (show w.heap.size + 1 + 1 < X.heap.size from HB4.out.lt)
        try have D56 := hid (show ¬ X.heap.size = b6 from by have := HP6.out.lt; omega)
        have HP5 := hid (Blk.new X 48 #[.int .i64 0, .int .i64 0])
        have HB2 := hid (HB2.out.keep bb); have HB3 := hid (HB3.out.keep bb); have HB4 := hid (HB4.out.keep bb); have HW := hid (below_call HW.out bb HW.out.size)
        try have HP6 := hid (HP6.out.keep bb)
        clear bb hHeld
        generalize X.alloc (.cells #[.int .i64 0, .int .i64 0] 48) = X1 at *
        generalize X.heap.size = b5 at *
        obtain ⟨X, rfl⟩ : ∃ Y, Y = X1 := ⟨X1, rfl⟩
        refine hK.out _ _ ?_ (fun hHeld => ?_); · ((try dsimp only); (first | exact HHK.out _ HB2 HB3 | exact HHK.out _ (hid HB2.out.drew) (hid HB3.out.drew)))
        clear hK K
        try simp only [Act.put,qA,qB,qC]
        refine st 12 rfl fun K hK => ?_
        have f0 := HP5.out.free 0
        have f1 := HP5.out.free 1
        have r0 := HP5.out.cell 0
        have r1 := HP5.out.cell 1
        simp only [List.getElem?_toArray, List.getElem?_cons_zero, List.getElem?_cons_succ] at r0 r1
        go_simp
        have l5 := L5.out
        have d5 := D56.out
        have HP6 := hid ((HP6.out.far (p := ⟨b5, 0, none⟩) (by simp only; omega) (.int .i64 x1)).far (p := ⟨b5, 1, none⟩) (by simp only; omega) (.int .i64 x2))
        have HP5 := hid ((HP5.out.set 0 (.int .i64 x1)).set 1 (.int .i64 x2))
        have HB2 := hid ((HB2.out.far (p := ⟨b5, 0, none⟩) (by simp only; omega) (.int .i64 x1)).far (p := ⟨b5, 1, none⟩) (by simp only; omega) (.int .i64 x2))
        have HB3 := hid ((HB3.out.far (p := ⟨b5, 0, none⟩) (by simp only; omega) (.int .i64 x1)).far (p := ⟨b5, 1, none⟩) (by simp only; omega) (.int .i64 x2))
        have HB4 := hid ((HB4.out.far (p := ⟨b5, 0, none⟩) (by simp only; omega) (.int .i64 x1)).far (p := ⟨b5, 1, none⟩) (by simp only; omega) (.int .i64 x2))
        have HW := hid ((HW.out.setCell (p := ⟨b5, 0, none⟩) (by simp only; omega) (.int .i64 x1)).setCell (p := ⟨b5, 1, none⟩) (by simp only; omega) (.int .i64 x2))
        clear f0 f1 r0 r1 hHeld
        generalize (X.setCell ⟨b5, 0, none⟩ (.int .i64 x1)).setCell ⟨b5, 1, none⟩ (.int .i64 x2) = X1 at *
        obtain ⟨X, rfl⟩ : ∃ Y, Y = X1 := ⟨X1, rfl⟩
        clear l5 d5
        refine hK.out _ _ ?_ (fun hHeld => ?_); · ((try dsimp only); (first | exact HHK.out _ HB2 HB3 | exact HHK.out _ (hid HB2.out.drew) (hid HB3.out.drew)))
        clear hK K
        try simp only [Act.put,qA,qB,qC]
        refine st 13 rfl fun K hK => ?_
        have f0 := HP6.out.free 0
        have f1 := HP6.out.free 1
        have r0 := HP6.out.cell 0
        have r1 := HP6.out.cell 1
        simp only [List.getElem?_toArray, List.getElem?_cons_zero, List.getElem?_cons_succ] at r0 r1
        go_simp
        have l5 := L6.out
        have d5 := D56.out
        have HP5 := hid ((HP5.out.far (p := ⟨b6, 0, none⟩) (by simp only; omega) (.int .i64 y1)).far (p := ⟨b6, 1, none⟩) (by simp only; omega) (.int .i64 y2))
        have HP6 := hid ((HP6.out.set 0 (.int .i64 y1)).set 1 (.int .i64 y2))
        have HB2 := hid ((HB2.out.far (p := ⟨b6, 0, none⟩) (by simp only; omega) (.int .i64 y1)).far (p := ⟨b6, 1, none⟩) (by simp only; omega) (.int .i64 y2))
        have HB3 := hid ((HB3.out.far (p := ⟨b6, 0, none⟩) (by simp only; omega) (.int .i64 y1)).far (p := ⟨b6, 1, none⟩) (by simp only; omega) (.int .i64 y2))
        have HB4 := hid ((HB4.out.far (p := ⟨b6, 0, none⟩) (by simp only; omega) (.int .i64 y1)).far (p := ⟨b6, 1, none⟩) (by simp only; omega) (.int .i64 y2))
        have HW := hid ((HW.out.setCell (p := ⟨b6, 0, none⟩) (by simp only; omega) (.int .i64 y1)).setCell (p := ⟨b6, 1, none⟩) (by simp only; omega) (.int .i64 y2))
        clear f0 f1 r0 r1 hHeld
        generalize (X.setCell ⟨b6, 0, none⟩ (.int .i64 y1)).setCell ⟨b6, 1, none⟩ (.int .i64 y2) = X1 at *
        obtain ⟨X, rfl⟩ : ∃ Y, Y = X1 := ⟨X1, rfl⟩
        clear l5 d5
        refine hK.out _ _ ?_ (fun hHeld => ?_); · ((try dsimp only); (first | exact HHK.out _ HB2 HB3 | exact HHK.out _ (hid HB2.out.drew) (hid HB3.out.drew)))
        clear hK K
        try simp only [Act.put,qA,qB,qC]
        refine wpAnyH_done (by kernel_rfl) ?_ _
        go_wp2_with fail
        go_meet
        case rel => exact ⟨b5, b6, rfl, rfl, by simpa using HP5, by simpa using HP6, HB4, HW⟩
    · go_simp
      have bb := (Below.refl X.heap.size X).alloc (Nat.le_refl _) (.cells #[.int .i64 0, .int .i64 0] 48)
      have L5 := hid (show w.heap.size + 1 + 1 < X.heap.size from HB4.out.lt)
      try have D56 := hid (show ¬ X.heap.size = b6 from by have := HP6.out.lt; omega)
      have HP5 := hid (Blk.new X 48 #[.int .i64 0, .int .i64 0])
      have HB2 := hid (HB2.out.keep bb); have HB3 := hid (HB3.out.keep bb); have HB4 := hid (HB4.out.keep bb); have HW := hid (below_call HW.out bb HW.out.size)
      try have HP6 := hid (HP6.out.keep bb)
      clear bb hHeld
      generalize X.alloc (.cells #[.int .i64 0, .int .i64 0] 48) = X1 at *
      generalize X.heap.size = b5 at *
      obtain ⟨X, rfl⟩ : ∃ Y, Y = X1 := ⟨X1, rfl⟩
      refine hK.out _ _ ?_ (fun hHeld => ?_); · ((try dsimp only); (first | exact HHK.out _ HB2 HB3 | exact HHK.out _ (hid HB2.out.drew) (hid HB3.out.drew)))
      clear hK K
      try simp only [Act.put,qA,qB,qC]
      refine wpAnyH_ready (rs := [9, 11]) (by kernel_rfl) (by simp) ?_
      refine AllReadyH.cons rfl (fun K hK => ?_) (AllReadyH.cons rfl (fun K hK => ?_) (AllReadyH.nil))
      · go_simp
        refine (HF2.out _).mono ?_; rintro e X ⟨rfl, bb⟩
        have HB2 := hid (HB2.out.keep bb); have HB3 := hid (HB3.out.keep bb); have HB4 := hid (HB4.out.keep bb); have HW := hid (below_call HW.out bb HW.out.size)
        try have HP5 := hid (HP5.out.keep bb)
        try have HP6 := hid (HP6.out.keep bb)
        clear bb hHeld
        refine hK.out _ _ ?_ (fun hHeld => ?_); · ((try dsimp only); (first | exact HHK.out _ HB2 HB3 | exact HHK.out _ (hid HB2.out.drew) (hid HB3.out.drew)))
        clear hK K
        try simp only [Act.put,qA,qB,qC]
        refine st 11 rfl fun K hK => ?_
        go_simp
        have bb := (Below.refl X.heap.size X).alloc (Nat.le_refl _) (.cells #[.int .i64 0, .int .i64 0] 48)
        have L6 := hid (show w.heap.size + 1 + 1 < X.heap.size from HB4.out.lt)
        try have D56 := hid (show ¬ b5 = X.heap.size from by have := HP5.out.lt; omega)
        have HP6 := hid (Blk.new X 48 #[.int .i64 0, .int .i64 0])
        have HB2 := hid (HB2.out.keep bb); have HB3 := hid (HB3.out.keep bb); have HB4 := hid (HB4.out.keep bb); have HW := hid (below_call HW.out bb HW.out.size)
        try have HP5 := hid (HP5.out.keep bb)
        clear bb hHeld
        generalize X.alloc (.cells #[.int .i64 0, .int .i64 0] 48) = X1 at *
        generalize X.heap.size = b6 at *
        obtain ⟨X, rfl⟩ : ∃ Y, Y = X1 := ⟨X1, rfl⟩
        refine hK.out _ _ ?_ (fun hHeld => ?_); · ((try dsimp only); (first | exact HHK.out _ HB2 HB3 | exact HHK.out _ (hid HB2.out.drew) (hid HB3.out.drew)))
        clear hK K
        try simp only [Act.put,qA,qB,qC]
        refine st 12 rfl fun K hK => ?_
        have f0 := HP5.out.free 0
        have f1 := HP5.out.free 1
        have r0 := HP5.out.cell 0
        have r1 := HP5.out.cell 1
        simp only [List.getElem?_toArray, List.getElem?_cons_zero, List.getElem?_cons_succ] at r0 r1
        go_simp
        have l5 := L5.out
        have d5 := D56.out
        have HP6 := hid ((HP6.out.far (p := ⟨b5, 0, none⟩) (by simp only; omega) (.int .i64 x1)).far (p := ⟨b5, 1, none⟩) (by simp only; omega) (.int .i64 x2))
        have HP5 := hid ((HP5.out.set 0 (.int .i64 x1)).set 1 (.int .i64 x2))
        have HB2 := hid ((HB2.out.far (p := ⟨b5, 0, none⟩) (by simp only; omega) (.int .i64 x1)).far (p := ⟨b5, 1, none⟩) (by simp only; omega) (.int .i64 x2))
        have HB3 := hid ((HB3.out.far (p := ⟨b5, 0, none⟩) (by simp only; omega) (.int .i64 x1)).far (p := ⟨b5, 1, none⟩) (by simp only; omega) (.int .i64 x2))
        have HB4 := hid ((HB4.out.far (p := ⟨b5, 0, none⟩) (by simp only; omega) (.int .i64 x1)).far (p := ⟨b5, 1, none⟩) (by simp only; omega) (.int .i64 x2))
        have HW := hid ((HW.out.setCell (p := ⟨b5, 0, none⟩) (by simp only; omega) (.int .i64 x1)).setCell (p := ⟨b5, 1, none⟩) (by simp only; omega) (.int .i64 x2))
        clear f0 f1 r0 r1 hHeld
        generalize (X.setCell ⟨b5, 0, none⟩ (.int .i64 x1)).setCell ⟨b5, 1, none⟩ (.int .i64 x2) = X1 at *
        obtain ⟨X, rfl⟩ : ∃ Y, Y = X1 := ⟨X1, rfl⟩
        clear l5 d5
        refine hK.out _ _ ?_ (fun hHeld => ?_); · ((try dsimp only); (first | exact HHK.out _ HB2 HB3 | exact HHK.out _ (hid HB2.out.drew) (hid HB3.out.drew)))
        clear hK K
        try simp only [Act.put,qA,qB,qC]
        refine st 13 rfl fun K hK => ?_
        have f0 := HP6.out.free 0
        have f1 := HP6.out.free 1
        have r0 := HP6.out.cell 0
        have r1 := HP6.out.cell 1
        simp only [List.getElem?_toArray, List.getElem?_cons_zero, List.getElem?_cons_succ] at r0 r1
        go_simp
        have l5 := L6.out
        have d5 := D56.out
        have HP5 := hid ((HP5.out.far (p := ⟨b6, 0, none⟩) (by simp only; omega) (.int .i64 y1)).far (p := ⟨b6, 1, none⟩) (by simp only; omega) (.int .i64 y2))
        have HP6 := hid ((HP6.out.set 0 (.int .i64 y1)).set 1 (.int .i64 y2))
        have HB2 := hid ((HB2.out.far (p := ⟨b6, 0, none⟩) (by simp only; omega) (.int .i64 y1)).far (p := ⟨b6, 1, none⟩) (by simp only; omega) (.int .i64 y2))
        have HB3 := hid ((HB3.out.far (p := ⟨b6, 0, none⟩) (by simp only; omega) (.int .i64 y1)).far (p := ⟨b6, 1, none⟩) (by simp only; omega) (.int .i64 y2))
        have HB4 := hid ((HB4.out.far (p := ⟨b6, 0, none⟩) (by simp only; omega) (.int .i64 y1)).far (p := ⟨b6, 1, none⟩) (by simp only; omega) (.int .i64 y2))
        have HW := hid ((HW.out.setCell (p := ⟨b6, 0, none⟩) (by simp only; omega) (.int .i64 y1)).setCell (p := ⟨b6, 1, none⟩) (by simp only; omega) (.int .i64 y2))
        clear f0 f1 r0 r1 hHeld
        generalize (X.setCell ⟨b6, 0, none⟩ (.int .i64 y1)).setCell ⟨b6, 1, none⟩ (.int .i64 y2) = X1 at *
        obtain ⟨X, rfl⟩ : ∃ Y, Y = X1 := ⟨X1, rfl⟩
        clear l5 d5
        refine hK.out _ _ ?_ (fun hHeld => ?_); · ((try dsimp only); (first | exact HHK.out _ HB2 HB3 | exact HHK.out _ (hid HB2.out.drew) (hid HB3.out.drew)))
        clear hK K
        try simp only [Act.put,qA,qB,qC]
        refine wpAnyH_done (by kernel_rfl) ?_ _
        go_wp2_with fail
        go_meet
        case rel => exact ⟨b5, b6, rfl, rfl, by simpa using HP5, by simpa using HP6, HB4, HW⟩
      · go_simp
        have bb := (Below.refl X.heap.size X).alloc (Nat.le_refl _) (.cells #[.int .i64 0, .int .i64 0] 48)
        have L6 := hid (show w.heap.size + 1 + 1 < X.heap.size from HB4.out.lt)
        try have D56 := hid (show ¬ b5 = X.heap.size from by have := HP5.out.lt; omega)
        have HP6 := hid (Blk.new X 48 #[.int .i64 0, .int .i64 0])
        have HB2 := hid (HB2.out.keep bb); have HB3 := hid (HB3.out.keep bb); have HB4 := hid (HB4.out.keep bb); have HW := hid (below_call HW.out bb HW.out.size)
        try have HP5 := hid (HP5.out.keep bb)
        clear bb hHeld
        generalize X.alloc (.cells #[.int .i64 0, .int .i64 0] 48) = X1 at *
        generalize X.heap.size = b6 at *
        obtain ⟨X, rfl⟩ : ∃ Y, Y = X1 := ⟨X1, rfl⟩
        refine hK.out _ _ ?_ (fun hHeld => ?_); · ((try dsimp only); (first | exact HHK.out _ HB2 HB3 | exact HHK.out _ (hid HB2.out.drew) (hid HB3.out.drew)))
        clear hK K
        try simp only [Act.put,qA,qB,qC]
        refine st 9 rfl fun K hK => ?_
        go_simp
        refine (HF2.out _).mono ?_; rintro e X ⟨rfl, bb⟩
        have HB2 := hid (HB2.out.keep bb); have HB3 := hid (HB3.out.keep bb); have HB4 := hid (HB4.out.keep bb); have HW := hid (below_call HW.out bb HW.out.size)
        try have HP5 := hid (HP5.out.keep bb)
        try have HP6 := hid (HP6.out.keep bb)
        clear bb hHeld
        refine hK.out _ _ ?_ (fun hHeld => ?_); · ((try dsimp only); (first | exact HHK.out _ HB2 HB3 | exact HHK.out _ (hid HB2.out.drew) (hid HB3.out.drew)))
        clear hK K
        try simp only [Act.put,qA,qB,qC]
        refine st 12 rfl fun K hK => ?_
        have f0 := HP5.out.free 0
        have f1 := HP5.out.free 1
        have r0 := HP5.out.cell 0
        have r1 := HP5.out.cell 1
        simp only [List.getElem?_toArray, List.getElem?_cons_zero, List.getElem?_cons_succ] at r0 r1
        go_simp
        have l5 := L5.out
        have d5 := D56.out
        have HP6 := hid ((HP6.out.far (p := ⟨b5, 0, none⟩) (by simp only; omega) (.int .i64 x1)).far (p := ⟨b5, 1, none⟩) (by simp only; omega) (.int .i64 x2))
        have HP5 := hid ((HP5.out.set 0 (.int .i64 x1)).set 1 (.int .i64 x2))
        have HB2 := hid ((HB2.out.far (p := ⟨b5, 0, none⟩) (by simp only; omega) (.int .i64 x1)).far (p := ⟨b5, 1, none⟩) (by simp only; omega) (.int .i64 x2))
        have HB3 := hid ((HB3.out.far (p := ⟨b5, 0, none⟩) (by simp only; omega) (.int .i64 x1)).far (p := ⟨b5, 1, none⟩) (by simp only; omega) (.int .i64 x2))
        have HB4 := hid ((HB4.out.far (p := ⟨b5, 0, none⟩) (by simp only; omega) (.int .i64 x1)).far (p := ⟨b5, 1, none⟩) (by simp only; omega) (.int .i64 x2))
        have HW := hid ((HW.out.setCell (p := ⟨b5, 0, none⟩) (by simp only; omega) (.int .i64 x1)).setCell (p := ⟨b5, 1, none⟩) (by simp only; omega) (.int .i64 x2))
        clear f0 f1 r0 r1 hHeld
        generalize (X.setCell ⟨b5, 0, none⟩ (.int .i64 x1)).setCell ⟨b5, 1, none⟩ (.int .i64 x2) = X1 at *
        obtain ⟨X, rfl⟩ : ∃ Y, Y = X1 := ⟨X1, rfl⟩
        clear l5 d5
        refine hK.out _ _ ?_ (fun hHeld => ?_); · ((try dsimp only); (first | exact HHK.out _ HB2 HB3 | exact HHK.out _ (hid HB2.out.drew) (hid HB3.out.drew)))
        clear hK K
        try simp only [Act.put,qA,qB,qC]
        refine st 13 rfl fun K hK => ?_
        have f0 := HP6.out.free 0
        have f1 := HP6.out.free 1
        have r0 := HP6.out.cell 0
        have r1 := HP6.out.cell 1
        simp only [List.getElem?_toArray, List.getElem?_cons_zero, List.getElem?_cons_succ] at r0 r1
        go_simp
        have l5 := L6.out
        have d5 := D56.out
        have HP5 := hid ((HP5.out.far (p := ⟨b6, 0, none⟩) (by simp only; omega) (.int .i64 y1)).far (p := ⟨b6, 1, none⟩) (by simp only; omega) (.int .i64 y2))
        have HP6 := hid ((HP6.out.set 0 (.int .i64 y1)).set 1 (.int .i64 y2))
        have HB2 := hid ((HB2.out.far (p := ⟨b6, 0, none⟩) (by simp only; omega) (.int .i64 y1)).far (p := ⟨b6, 1, none⟩) (by simp only; omega) (.int .i64 y2))
        have HB3 := hid ((HB3.out.far (p := ⟨b6, 0, none⟩) (by simp only; omega) (.int .i64 y1)).far (p := ⟨b6, 1, none⟩) (by simp only; omega) (.int .i64 y2))
        have HB4 := hid ((HB4.out.far (p := ⟨b6, 0, none⟩) (by simp only; omega) (.int .i64 y1)).far (p := ⟨b6, 1, none⟩) (by simp only; omega) (.int .i64 y2))
        have HW := hid ((HW.out.setCell (p := ⟨b6, 0, none⟩) (by simp only; omega) (.int .i64 y1)).setCell (p := ⟨b6, 1, none⟩) (by simp only; omega) (.int .i64 y2))
        clear f0 f1 r0 r1 hHeld
        generalize (X.setCell ⟨b6, 0, none⟩ (.int .i64 y1)).setCell ⟨b6, 1, none⟩ (.int .i64 y2) = X1 at *
        obtain ⟨X, rfl⟩ : ∃ Y, Y = X1 := ⟨X1, rfl⟩
        clear l5 d5
        refine hK.out _ _ ?_ (fun hHeld => ?_); · ((try dsimp only); (first | exact HHK.out _ HB2 HB3 | exact HHK.out _ (hid HB2.out.drew) (hid HB3.out.drew)))
        clear hK K
        try simp only [Act.put,qA,qB,qC]
        refine wpAnyH_done (by kernel_rfl) ?_ _
        go_wp2_with fail
        go_meet
        case rel => exact ⟨b5, b6, rfl, rfl, by simpa using HP5, by simpa using HP6, HB4, HW⟩
    · go_simp
      have bb := (Below.refl X.heap.size X).alloc (Nat.le_refl _) (.cells #[.int .i64 0, .int .i64 0] 48)
      have L6 := hid (show w.heap.size + 1 + 1 < X.heap.size from HB4.out.lt)
      try have D56 := hid (show ¬ b5 = X.heap.size from by have := HP5.out.lt; omega)
      have HP6 := hid (Blk.new X 48 #[.int .i64 0, .int .i64 0])
      have HB2 := hid (HB2.out.keep bb); have HB3 := hid (HB3.out.keep bb); have HB4 := hid (HB4.out.keep bb); have HW := hid (below_call HW.out bb HW.out.size)
      try have HP5 := hid (HP5.out.keep bb)
      clear bb hHeld
      generalize X.alloc (.cells #[.int .i64 0, .int .i64 0] 48) = X1 at *
      generalize X.heap.size = b6 at *
      obtain ⟨X, rfl⟩ : ∃ Y, Y = X1 := ⟨X1, rfl⟩
      refine hK.out _ _ ?_ (fun hHeld => ?_); · ((try dsimp only); (first | exact HHK.out _ HB2 HB3 | exact HHK.out _ (hid HB2.out.drew) (hid HB3.out.drew)))
      clear hK K
      try simp only [Act.put,qA,qB,qC]
      refine wpAnyH_ready (rs := [9, 10]) (by kernel_rfl) (by simp) ?_
      refine AllReadyH.cons rfl (fun K hK => ?_) (AllReadyH.cons rfl (fun K hK => ?_) (AllReadyH.nil))
      · go_simp
        refine (HF2.out _).mono ?_; rintro e X ⟨rfl, bb⟩
        have HB2 := hid (HB2.out.keep bb); have HB3 := hid (HB3.out.keep bb); have HB4 := hid (HB4.out.keep bb); have HW := hid (below_call HW.out bb HW.out.size)
        try have HP5 := hid (HP5.out.keep bb)
        try have HP6 := hid (HP6.out.keep bb)
        clear bb hHeld
        refine hK.out _ _ ?_ (fun hHeld => ?_); · ((try dsimp only); (first | exact HHK.out _ HB2 HB3 | exact HHK.out _ (hid HB2.out.drew) (hid HB3.out.drew)))
        clear hK K
        try simp only [Act.put,qA,qB,qC]
        refine st 10 rfl fun K hK => ?_
        go_simp
        have bb := (Below.refl X.heap.size X).alloc (Nat.le_refl _) (.cells #[.int .i64 0, .int .i64 0] 48)
        have L5 := hid (show w.heap.size + 1 + 1 < X.heap.size from HB4.out.lt)
        try have D56 := hid (show ¬ X.heap.size = b6 from by have := HP6.out.lt; omega)
        have HP5 := hid (Blk.new X 48 #[.int .i64 0, .int .i64 0])
        have HB2 := hid (HB2.out.keep bb); have HB3 := hid (HB3.out.keep bb); have HB4 := hid (HB4.out.keep bb); have HW := hid (below_call HW.out bb HW.out.size)
        try have HP6 := hid (HP6.out.keep bb)
        clear bb hHeld
        generalize X.alloc (.cells #[.int .i64 0, .int .i64 0] 48) = X1 at *
        generalize X.heap.size = b5 at *
        obtain ⟨X, rfl⟩ : ∃ Y, Y = X1 := ⟨X1, rfl⟩
        refine hK.out _ _ ?_ (fun hHeld => ?_); · ((try dsimp only); (first | exact HHK.out _ HB2 HB3 | exact HHK.out _ (hid HB2.out.drew) (hid HB3.out.drew)))
        clear hK K
        try simp only [Act.put,qA,qB,qC]
        refine st 12 rfl fun K hK => ?_
        have f0 := HP5.out.free 0
        have f1 := HP5.out.free 1
        have r0 := HP5.out.cell 0
        have r1 := HP5.out.cell 1
        simp only [List.getElem?_toArray, List.getElem?_cons_zero, List.getElem?_cons_succ] at r0 r1
        go_simp
        have l5 := L5.out
        have d5 := D56.out
        have HP6 := hid ((HP6.out.far (p := ⟨b5, 0, none⟩) (by simp only; omega) (.int .i64 x1)).far (p := ⟨b5, 1, none⟩) (by simp only; omega) (.int .i64 x2))
        have HP5 := hid ((HP5.out.set 0 (.int .i64 x1)).set 1 (.int .i64 x2))
        have HB2 := hid ((HB2.out.far (p := ⟨b5, 0, none⟩) (by simp only; omega) (.int .i64 x1)).far (p := ⟨b5, 1, none⟩) (by simp only; omega) (.int .i64 x2))
        have HB3 := hid ((HB3.out.far (p := ⟨b5, 0, none⟩) (by simp only; omega) (.int .i64 x1)).far (p := ⟨b5, 1, none⟩) (by simp only; omega) (.int .i64 x2))
        have HB4 := hid ((HB4.out.far (p := ⟨b5, 0, none⟩) (by simp only; omega) (.int .i64 x1)).far (p := ⟨b5, 1, none⟩) (by simp only; omega) (.int .i64 x2))
        have HW := hid ((HW.out.setCell (p := ⟨b5, 0, none⟩) (by simp only; omega) (.int .i64 x1)).setCell (p := ⟨b5, 1, none⟩) (by simp only; omega) (.int .i64 x2))
        clear f0 f1 r0 r1 hHeld
        generalize (X.setCell ⟨b5, 0, none⟩ (.int .i64 x1)).setCell ⟨b5, 1, none⟩ (.int .i64 x2) = X1 at *
        obtain ⟨X, rfl⟩ : ∃ Y, Y = X1 := ⟨X1, rfl⟩
        clear l5 d5
        refine hK.out _ _ ?_ (fun hHeld => ?_); · ((try dsimp only); (first | exact HHK.out _ HB2 HB3 | exact HHK.out _ (hid HB2.out.drew) (hid HB3.out.drew)))
        clear hK K
        try simp only [Act.put,qA,qB,qC]
        refine st 13 rfl fun K hK => ?_
        have f0 := HP6.out.free 0
        have f1 := HP6.out.free 1
        have r0 := HP6.out.cell 0
        have r1 := HP6.out.cell 1
        simp only [List.getElem?_toArray, List.getElem?_cons_zero, List.getElem?_cons_succ] at r0 r1
        go_simp
        have l5 := L6.out
        have d5 := D56.out
        have HP5 := hid ((HP5.out.far (p := ⟨b6, 0, none⟩) (by simp only; omega) (.int .i64 y1)).far (p := ⟨b6, 1, none⟩) (by simp only; omega) (.int .i64 y2))
        have HP6 := hid ((HP6.out.set 0 (.int .i64 y1)).set 1 (.int .i64 y2))
        have HB2 := hid ((HB2.out.far (p := ⟨b6, 0, none⟩) (by simp only; omega) (.int .i64 y1)).far (p := ⟨b6, 1, none⟩) (by simp only; omega) (.int .i64 y2))
        have HB3 := hid ((HB3.out.far (p := ⟨b6, 0, none⟩) (by simp only; omega) (.int .i64 y1)).far (p := ⟨b6, 1, none⟩) (by simp only; omega) (.int .i64 y2))
        have HB4 := hid ((HB4.out.far (p := ⟨b6, 0, none⟩) (by simp only; omega) (.int .i64 y1)).far (p := ⟨b6, 1, none⟩) (by simp only; omega) (.int .i64 y2))
        have HW := hid ((HW.out.setCell (p := ⟨b6, 0, none⟩) (by simp only; omega) (.int .i64 y1)).setCell (p := ⟨b6, 1, none⟩) (by simp only; omega) (.int .i64 y2))
        clear f0 f1 r0 r1 hHeld
        generalize (X.setCell ⟨b6, 0, none⟩ (.int .i64 y1)).setCell ⟨b6, 1, none⟩ (.int .i64 y2) = X1 at *
        obtain ⟨X, rfl⟩ : ∃ Y, Y = X1 := ⟨X1, rfl⟩
        clear l5 d5
        refine hK.out _ _ ?_ (fun hHeld => ?_); · ((try dsimp only); (first | exact HHK.out _ HB2 HB3 | exact HHK.out _ (hid HB2.out.drew) (hid HB3.out.drew)))
        clear hK K
        try simp only [Act.put,qA,qB,qC]
        refine wpAnyH_done (by kernel_rfl) ?_ _
        go_wp2_with fail
        go_meet
        case rel => exact ⟨b5, b6, rfl, rfl, by simpa using HP5, by simpa using HP6, HB4, HW⟩
      · go_simp
        have bb := (Below.refl X.heap.size X).alloc (Nat.le_refl _) (.cells #[.int .i64 0, .int .i64 0] 48)
        have L5 := hid (show w.heap.size + 1 + 1 < X.heap.size from HB4.out.lt)
        try have D56 := hid (show ¬ X.heap.size = b6 from by have := HP6.out.lt; omega)
        have HP5 := hid (Blk.new X 48 #[.int .i64 0, .int .i64 0])
        have HB2 := hid (HB2.out.keep bb); have HB3 := hid (HB3.out.keep bb); have HB4 := hid (HB4.out.keep bb); have HW := hid (below_call HW.out bb HW.out.size)
        try have HP6 := hid (HP6.out.keep bb)
        clear bb hHeld
        generalize X.alloc (.cells #[.int .i64 0, .int .i64 0] 48) = X1 at *
        generalize X.heap.size = b5 at *
        obtain ⟨X, rfl⟩ : ∃ Y, Y = X1 := ⟨X1, rfl⟩
        refine hK.out _ _ ?_ (fun hHeld => ?_); · ((try dsimp only); (first | exact HHK.out _ HB2 HB3 | exact HHK.out _ (hid HB2.out.drew) (hid HB3.out.drew)))
        clear hK K
        try simp only [Act.put,qA,qB,qC]
        refine st 9 rfl fun K hK => ?_
        go_simp
        refine (HF2.out _).mono ?_; rintro e X ⟨rfl, bb⟩
        have HB2 := hid (HB2.out.keep bb); have HB3 := hid (HB3.out.keep bb); have HB4 := hid (HB4.out.keep bb); have HW := hid (below_call HW.out bb HW.out.size)
        try have HP5 := hid (HP5.out.keep bb)
        try have HP6 := hid (HP6.out.keep bb)
        clear bb hHeld
        refine hK.out _ _ ?_ (fun hHeld => ?_); · ((try dsimp only); (first | exact HHK.out _ HB2 HB3 | exact HHK.out _ (hid HB2.out.drew) (hid HB3.out.drew)))
        clear hK K
        try simp only [Act.put,qA,qB,qC]
        refine st 12 rfl fun K hK => ?_
        have f0 := HP5.out.free 0
        have f1 := HP5.out.free 1
        have r0 := HP5.out.cell 0
        have r1 := HP5.out.cell 1
        simp only [List.getElem?_toArray, List.getElem?_cons_zero, List.getElem?_cons_succ] at r0 r1
        go_simp
        have l5 := L5.out
        have d5 := D56.out
        have HP6 := hid ((HP6.out.far (p := ⟨b5, 0, none⟩) (by simp only; omega) (.int .i64 x1)).far (p := ⟨b5, 1, none⟩) (by simp only; omega) (.int .i64 x2))
        have HP5 := hid ((HP5.out.set 0 (.int .i64 x1)).set 1 (.int .i64 x2))
        have HB2 := hid ((HB2.out.far (p := ⟨b5, 0, none⟩) (by simp only; omega) (.int .i64 x1)).far (p := ⟨b5, 1, none⟩) (by simp only; omega) (.int .i64 x2))
        have HB3 := hid ((HB3.out.far (p := ⟨b5, 0, none⟩) (by simp only; omega) (.int .i64 x1)).far (p := ⟨b5, 1, none⟩) (by simp only; omega) (.int .i64 x2))
        have HB4 := hid ((HB4.out.far (p := ⟨b5, 0, none⟩) (by simp only; omega) (.int .i64 x1)).far (p := ⟨b5, 1, none⟩) (by simp only; omega) (.int .i64 x2))
        have HW := hid ((HW.out.setCell (p := ⟨b5, 0, none⟩) (by simp only; omega) (.int .i64 x1)).setCell (p := ⟨b5, 1, none⟩) (by simp only; omega) (.int .i64 x2))
        clear f0 f1 r0 r1 hHeld
        generalize (X.setCell ⟨b5, 0, none⟩ (.int .i64 x1)).setCell ⟨b5, 1, none⟩ (.int .i64 x2) = X1 at *
        obtain ⟨X, rfl⟩ : ∃ Y, Y = X1 := ⟨X1, rfl⟩
        clear l5 d5
        refine hK.out _ _ ?_ (fun hHeld => ?_); · ((try dsimp only); (first | exact HHK.out _ HB2 HB3 | exact HHK.out _ (hid HB2.out.drew) (hid HB3.out.drew)))
        clear hK K
        try simp only [Act.put,qA,qB,qC]
        refine st 13 rfl fun K hK => ?_
        have f0 := HP6.out.free 0
        have f1 := HP6.out.free 1
        have r0 := HP6.out.cell 0
        have r1 := HP6.out.cell 1
        simp only [List.getElem?_toArray, List.getElem?_cons_zero, List.getElem?_cons_succ] at r0 r1
        go_simp
        have l5 := L6.out
        have d5 := D56.out
        have HP5 := hid ((HP5.out.far (p := ⟨b6, 0, none⟩) (by simp only; omega) (.int .i64 y1)).far (p := ⟨b6, 1, none⟩) (by simp only; omega) (.int .i64 y2))
        have HP6 := hid ((HP6.out.set 0 (.int .i64 y1)).set 1 (.int .i64 y2))
        have HB2 := hid ((HB2.out.far (p := ⟨b6, 0, none⟩) (by simp only; omega) (.int .i64 y1)).far (p := ⟨b6, 1, none⟩) (by simp only; omega) (.int .i64 y2))
        have HB3 := hid ((HB3.out.far (p := ⟨b6, 0, none⟩) (by simp only; omega) (.int .i64 y1)).far (p := ⟨b6, 1, none⟩) (by simp only; omega) (.int .i64 y2))
        have HB4 := hid ((HB4.out.far (p := ⟨b6, 0, none⟩) (by simp only; omega) (.int .i64 y1)).far (p := ⟨b6, 1, none⟩) (by simp only; omega) (.int .i64 y2))
        have HW := hid ((HW.out.setCell (p := ⟨b6, 0, none⟩) (by simp only; omega) (.int .i64 y1)).setCell (p := ⟨b6, 1, none⟩) (by simp only; omega) (.int .i64 y2))
        clear f0 f1 r0 r1 hHeld
        generalize (X.setCell ⟨b6, 0, none⟩ (.int .i64 y1)).setCell ⟨b6, 1, none⟩ (.int .i64 y2) = X1 at *
        obtain ⟨X, rfl⟩ : ∃ Y, Y = X1 := ⟨X1, rfl⟩
        clear l5 d5
        refine hK.out _ _ ?_ (fun hHeld => ?_); · ((try dsimp only); (first | exact HHK.out _ HB2 HB3 | exact HHK.out _ (hid HB2.out.drew) (hid HB3.out.drew)))
        clear hK K
        try simp only [Act.put,qA,qB,qC]
        refine wpAnyH_done (by kernel_rfl) ?_ _
        go_wp2_with fail
        go_meet
        case rel => exact ⟨b5, b6, rfl, rfl, by simpa using HP5, by simpa using HP6, HB4, HW⟩
  · go_simp
    have bb := (Below.refl X.heap.size X).alloc (Nat.le_refl _) (.cells #[.int .i64 0, .int .i64 0] 48)
    have L5 := hid (show w.heap.size + 1 + 1 < X.heap.size from HB4.out.lt)
    try have D56 := hid (show ¬ X.heap.size = b6 from by have := HP6.out.lt; omega)
    have HP5 := hid (Blk.new X 48 #[.int .i64 0, .int .i64 0])
    have HB2 := hid (HB2.out.keep bb); have HB3 := hid (HB3.out.keep bb); have HB4 := hid (HB4.out.keep bb); have HW := hid (below_call HW.out bb HW.out.size)
    try have HP6 := hid (HP6.out.keep bb)
    clear bb hHeld
    generalize X.alloc (.cells #[.int .i64 0, .int .i64 0] 48) = X1 at *
    generalize X.heap.size = b5 at *
    obtain ⟨X, rfl⟩ : ∃ Y, Y = X1 := ⟨X1, rfl⟩
    refine hK.out _ _ ?_ (fun hHeld => ?_); · ((try dsimp only); (first | exact HHK.out _ HB2 HB3 | exact HHK.out _ (hid HB2.out.drew) (hid HB3.out.drew)))
    clear hK K
    try simp only [Act.put,qA,qB,qC]
    refine wpAnyH_ready (rs := [4, 11]) (by kernel_rfl) (by simp) ?_
    refine AllReadyH.cons rfl (fun K hK => ?_) (AllReadyH.cons rfl (fun K hK => ?_) (AllReadyH.nil))
    · go_simp
      refine (HF1.out _).mono ?_; rintro e X ⟨rfl, bb⟩
      have HB2 := hid (HB2.out.keep bb); have HB3 := hid (HB3.out.keep bb); have HB4 := hid (HB4.out.keep bb); have HW := hid (below_call HW.out bb HW.out.size)
      try have HP5 := hid (HP5.out.keep bb)
      try have HP6 := hid (HP6.out.keep bb)
      clear bb hHeld
      refine hK.out _ _ ?_ (fun hHeld => ?_); · ((try dsimp only); (first | exact HHK.out _ HB2 HB3 | exact HHK.out _ (hid HB2.out.drew) (hid HB3.out.drew)))
      clear hK K
      try simp only [Act.put,qA,qB,qC]
      refine wpAnyH_ready (rs := [9, 11]) (by kernel_rfl) (by simp) ?_
      refine AllReadyH.cons rfl (fun K hK => ?_) (AllReadyH.cons rfl (fun K hK => ?_) (AllReadyH.nil))
      · go_simp
        refine (HF2.out _).mono ?_; rintro e X ⟨rfl, bb⟩
        have HB2 := hid (HB2.out.keep bb); have HB3 := hid (HB3.out.keep bb); have HB4 := hid (HB4.out.keep bb); have HW := hid (below_call HW.out bb HW.out.size)
        try have HP5 := hid (HP5.out.keep bb)
        try have HP6 := hid (HP6.out.keep bb)
        clear bb hHeld
        refine hK.out _ _ ?_ (fun hHeld => ?_); · ((try dsimp only); (first | exact HHK.out _ HB2 HB3 | exact HHK.out _ (hid HB2.out.drew) (hid HB3.out.drew)))
        clear hK K
        try simp only [Act.put,qA,qB,qC]
        refine st 11 rfl fun K hK => ?_
        go_simp
        have bb := (Below.refl X.heap.size X).alloc (Nat.le_refl _) (.cells #[.int .i64 0, .int .i64 0] 48)
        have L6 := hid (show w.heap.size + 1 + 1 < X.heap.size from HB4.out.lt)
        try have D56 := hid (show ¬ b5 = X.heap.size from by have := HP5.out.lt; omega)
        have HP6 := hid (Blk.new X 48 #[.int .i64 0, .int .i64 0])
        have HB2 := hid (HB2.out.keep bb); have HB3 := hid (HB3.out.keep bb); have HB4 := hid (HB4.out.keep bb); have HW := hid (below_call HW.out bb HW.out.size)
        try have HP5 := hid (HP5.out.keep bb)
        clear bb hHeld
        generalize X.alloc (.cells #[.int .i64 0, .int .i64 0] 48) = X1 at *
        generalize X.heap.size = b6 at *
        obtain ⟨X, rfl⟩ : ∃ Y, Y = X1 := ⟨X1, rfl⟩
        refine hK.out _ _ ?_ (fun hHeld => ?_); · ((try dsimp only); (first | exact HHK.out _ HB2 HB3 | exact HHK.out _ (hid HB2.out.drew) (hid HB3.out.drew)))
        clear hK K
        try simp only [Act.put,qA,qB,qC]
        refine st 12 rfl fun K hK => ?_
        have f0 := HP5.out.free 0
        have f1 := HP5.out.free 1
        have r0 := HP5.out.cell 0
        have r1 := HP5.out.cell 1
        simp only [List.getElem?_toArray, List.getElem?_cons_zero, List.getElem?_cons_succ] at r0 r1
        go_simp
        have l5 := L5.out
        have d5 := D56.out
        have HP6 := hid ((HP6.out.far (p := ⟨b5, 0, none⟩) (by simp only; omega) (.int .i64 x1)).far (p := ⟨b5, 1, none⟩) (by simp only; omega) (.int .i64 x2))
        have HP5 := hid ((HP5.out.set 0 (.int .i64 x1)).set 1 (.int .i64 x2))
        have HB2 := hid ((HB2.out.far (p := ⟨b5, 0, none⟩) (by simp only; omega) (.int .i64 x1)).far (p := ⟨b5, 1, none⟩) (by simp only; omega) (.int .i64 x2))
        have HB3 := hid ((HB3.out.far (p := ⟨b5, 0, none⟩) (by simp only; omega) (.int .i64 x1)).far (p := ⟨b5, 1, none⟩) (by simp only; omega) (.int .i64 x2))
        have HB4 := hid ((HB4.out.far (p := ⟨b5, 0, none⟩) (by simp only; omega) (.int .i64 x1)).far (p := ⟨b5, 1, none⟩) (by simp only; omega) (.int .i64 x2))
        have HW := hid ((HW.out.setCell (p := ⟨b5, 0, none⟩) (by simp only; omega) (.int .i64 x1)).setCell (p := ⟨b5, 1, none⟩) (by simp only; omega) (.int .i64 x2))
        clear f0 f1 r0 r1 hHeld
        generalize (X.setCell ⟨b5, 0, none⟩ (.int .i64 x1)).setCell ⟨b5, 1, none⟩ (.int .i64 x2) = X1 at *
        obtain ⟨X, rfl⟩ : ∃ Y, Y = X1 := ⟨X1, rfl⟩
        clear l5 d5
        refine hK.out _ _ ?_ (fun hHeld => ?_); · ((try dsimp only); (first | exact HHK.out _ HB2 HB3 | exact HHK.out _ (hid HB2.out.drew) (hid HB3.out.drew)))
        clear hK K
        try simp only [Act.put,qA,qB,qC]
        refine st 13 rfl fun K hK => ?_
        have f0 := HP6.out.free 0
        have f1 := HP6.out.free 1
        have r0 := HP6.out.cell 0
        have r1 := HP6.out.cell 1
        simp only [List.getElem?_toArray, List.getElem?_cons_zero, List.getElem?_cons_succ] at r0 r1
        go_simp
        have l5 := L6.out
        have d5 := D56.out
        have HP5 := hid ((HP5.out.far (p := ⟨b6, 0, none⟩) (by simp only; omega) (.int .i64 y1)).far (p := ⟨b6, 1, none⟩) (by simp only; omega) (.int .i64 y2))
        have HP6 := hid ((HP6.out.set 0 (.int .i64 y1)).set 1 (.int .i64 y2))
        have HB2 := hid ((HB2.out.far (p := ⟨b6, 0, none⟩) (by simp only; omega) (.int .i64 y1)).far (p := ⟨b6, 1, none⟩) (by simp only; omega) (.int .i64 y2))
        have HB3 := hid ((HB3.out.far (p := ⟨b6, 0, none⟩) (by simp only; omega) (.int .i64 y1)).far (p := ⟨b6, 1, none⟩) (by simp only; omega) (.int .i64 y2))
        have HB4 := hid ((HB4.out.far (p := ⟨b6, 0, none⟩) (by simp only; omega) (.int .i64 y1)).far (p := ⟨b6, 1, none⟩) (by simp only; omega) (.int .i64 y2))
        have HW := hid ((HW.out.setCell (p := ⟨b6, 0, none⟩) (by simp only; omega) (.int .i64 y1)).setCell (p := ⟨b6, 1, none⟩) (by simp only; omega) (.int .i64 y2))
        clear f0 f1 r0 r1 hHeld
        generalize (X.setCell ⟨b6, 0, none⟩ (.int .i64 y1)).setCell ⟨b6, 1, none⟩ (.int .i64 y2) = X1 at *
        obtain ⟨X, rfl⟩ : ∃ Y, Y = X1 := ⟨X1, rfl⟩
        clear l5 d5
        refine hK.out _ _ ?_ (fun hHeld => ?_); · ((try dsimp only); (first | exact HHK.out _ HB2 HB3 | exact HHK.out _ (hid HB2.out.drew) (hid HB3.out.drew)))
        clear hK K
        try simp only [Act.put,qA,qB,qC]
        refine wpAnyH_done (by kernel_rfl) ?_ _
        go_wp2_with fail
        go_meet
        case rel => exact ⟨b5, b6, rfl, rfl, by simpa using HP5, by simpa using HP6, HB4, HW⟩
      · go_simp
        have bb := (Below.refl X.heap.size X).alloc (Nat.le_refl _) (.cells #[.int .i64 0, .int .i64 0] 48)
        have L6 := hid (show w.heap.size + 1 + 1 < X.heap.size from HB4.out.lt)
        try have D56 := hid (show ¬ b5 = X.heap.size from by have := HP5.out.lt; omega)
        have HP6 := hid (Blk.new X 48 #[.int .i64 0, .int .i64 0])
        have HB2 := hid (HB2.out.keep bb); have HB3 := hid (HB3.out.keep bb); have HB4 := hid (HB4.out.keep bb); have HW := hid (below_call HW.out bb HW.out.size)
        try have HP5 := hid (HP5.out.keep bb)
        clear bb hHeld
        generalize X.alloc (.cells #[.int .i64 0, .int .i64 0] 48) = X1 at *
        generalize X.heap.size = b6 at *
        obtain ⟨X, rfl⟩ : ∃ Y, Y = X1 := ⟨X1, rfl⟩
        refine hK.out _ _ ?_ (fun hHeld => ?_); · ((try dsimp only); (first | exact HHK.out _ HB2 HB3 | exact HHK.out _ (hid HB2.out.drew) (hid HB3.out.drew)))
        clear hK K
        try simp only [Act.put,qA,qB,qC]
        refine st 9 rfl fun K hK => ?_
        go_simp
        refine (HF2.out _).mono ?_; rintro e X ⟨rfl, bb⟩
        have HB2 := hid (HB2.out.keep bb); have HB3 := hid (HB3.out.keep bb); have HB4 := hid (HB4.out.keep bb); have HW := hid (below_call HW.out bb HW.out.size)
        try have HP5 := hid (HP5.out.keep bb)
        try have HP6 := hid (HP6.out.keep bb)
        clear bb hHeld
        refine hK.out _ _ ?_ (fun hHeld => ?_); · ((try dsimp only); (first | exact HHK.out _ HB2 HB3 | exact HHK.out _ (hid HB2.out.drew) (hid HB3.out.drew)))
        clear hK K
        try simp only [Act.put,qA,qB,qC]
        refine st 12 rfl fun K hK => ?_
        have f0 := HP5.out.free 0
        have f1 := HP5.out.free 1
        have r0 := HP5.out.cell 0
        have r1 := HP5.out.cell 1
        simp only [List.getElem?_toArray, List.getElem?_cons_zero, List.getElem?_cons_succ] at r0 r1
        go_simp
        have l5 := L5.out
        have d5 := D56.out
        have HP6 := hid ((HP6.out.far (p := ⟨b5, 0, none⟩) (by simp only; omega) (.int .i64 x1)).far (p := ⟨b5, 1, none⟩) (by simp only; omega) (.int .i64 x2))
        have HP5 := hid ((HP5.out.set 0 (.int .i64 x1)).set 1 (.int .i64 x2))
        have HB2 := hid ((HB2.out.far (p := ⟨b5, 0, none⟩) (by simp only; omega) (.int .i64 x1)).far (p := ⟨b5, 1, none⟩) (by simp only; omega) (.int .i64 x2))
        have HB3 := hid ((HB3.out.far (p := ⟨b5, 0, none⟩) (by simp only; omega) (.int .i64 x1)).far (p := ⟨b5, 1, none⟩) (by simp only; omega) (.int .i64 x2))
        have HB4 := hid ((HB4.out.far (p := ⟨b5, 0, none⟩) (by simp only; omega) (.int .i64 x1)).far (p := ⟨b5, 1, none⟩) (by simp only; omega) (.int .i64 x2))
        have HW := hid ((HW.out.setCell (p := ⟨b5, 0, none⟩) (by simp only; omega) (.int .i64 x1)).setCell (p := ⟨b5, 1, none⟩) (by simp only; omega) (.int .i64 x2))
        clear f0 f1 r0 r1 hHeld
        generalize (X.setCell ⟨b5, 0, none⟩ (.int .i64 x1)).setCell ⟨b5, 1, none⟩ (.int .i64 x2) = X1 at *
        obtain ⟨X, rfl⟩ : ∃ Y, Y = X1 := ⟨X1, rfl⟩
        clear l5 d5
        refine hK.out _ _ ?_ (fun hHeld => ?_); · ((try dsimp only); (first | exact HHK.out _ HB2 HB3 | exact HHK.out _ (hid HB2.out.drew) (hid HB3.out.drew)))
        clear hK K
        try simp only [Act.put,qA,qB,qC]
        refine st 13 rfl fun K hK => ?_
        have f0 := HP6.out.free 0
        have f1 := HP6.out.free 1
        have r0 := HP6.out.cell 0
        have r1 := HP6.out.cell 1
        simp only [List.getElem?_toArray, List.getElem?_cons_zero, List.getElem?_cons_succ] at r0 r1
        go_simp
        have l5 := L6.out
        have d5 := D56.out
        have HP5 := hid ((HP5.out.far (p := ⟨b6, 0, none⟩) (by simp only; omega) (.int .i64 y1)).far (p := ⟨b6, 1, none⟩) (by simp only; omega) (.int .i64 y2))
        have HP6 := hid ((HP6.out.set 0 (.int .i64 y1)).set 1 (.int .i64 y2))
        have HB2 := hid ((HB2.out.far (p := ⟨b6, 0, none⟩) (by simp only; omega) (.int .i64 y1)).far (p := ⟨b6, 1, none⟩) (by simp only; omega) (.int .i64 y2))
        have HB3 := hid ((HB3.out.far (p := ⟨b6, 0, none⟩) (by simp only; omega) (.int .i64 y1)).far (p := ⟨b6, 1, none⟩) (by simp only; omega) (.int .i64 y2))
        have HB4 := hid ((HB4.out.far (p := ⟨b6, 0, none⟩) (by simp only; omega) (.int .i64 y1)).far (p := ⟨b6, 1, none⟩) (by simp only; omega) (.int .i64 y2))
        have HW := hid ((HW.out.setCell (p := ⟨b6, 0, none⟩) (by simp only; omega) (.int .i64 y1)).setCell (p := ⟨b6, 1, none⟩) (by simp only; omega) (.int .i64 y2))
        clear f0 f1 r0 r1 hHeld
        generalize (X.setCell ⟨b6, 0, none⟩ (.int .i64 y1)).setCell ⟨b6, 1, none⟩ (.int .i64 y2) = X1 at *
        obtain ⟨X, rfl⟩ : ∃ Y, Y = X1 := ⟨X1, rfl⟩
        clear l5 d5
        refine hK.out _ _ ?_ (fun hHeld => ?_); · ((try dsimp only); (first | exact HHK.out _ HB2 HB3 | exact HHK.out _ (hid HB2.out.drew) (hid HB3.out.drew)))
        clear hK K
        try simp only [Act.put,qA,qB,qC]
        refine wpAnyH_done (by kernel_rfl) ?_ _
        go_wp2_with fail
        go_meet
        case rel => exact ⟨b5, b6, rfl, rfl, by simpa using HP5, by simpa using HP6, HB4, HW⟩
    · go_simp
      have bb := (Below.refl X.heap.size X).alloc (Nat.le_refl _) (.cells #[.int .i64 0, .int .i64 0] 48)
      have L6 := hid (show w.heap.size + 1 + 1 < X.heap.size from HB4.out.lt)
      try have D56 := hid (show ¬ b5 = X.heap.size from by have := HP5.out.lt; omega)
      have HP6 := hid (Blk.new X 48 #[.int .i64 0, .int .i64 0])
      have HB2 := hid (HB2.out.keep bb); have HB3 := hid (HB3.out.keep bb); have HB4 := hid (HB4.out.keep bb); have HW := hid (below_call HW.out bb HW.out.size)
      try have HP5 := hid (HP5.out.keep bb)
      clear bb hHeld
      generalize X.alloc (.cells #[.int .i64 0, .int .i64 0] 48) = X1 at *
      generalize X.heap.size = b6 at *
      obtain ⟨X, rfl⟩ : ∃ Y, Y = X1 := ⟨X1, rfl⟩
      refine hK.out _ _ ?_ (fun hHeld => ?_); · ((try dsimp only); (first | exact HHK.out _ HB2 HB3 | exact HHK.out _ (hid HB2.out.drew) (hid HB3.out.drew)))
      clear hK K
      try simp only [Act.put,qA,qB,qC]
      refine st 4 rfl fun K hK => ?_
      go_simp
      refine (HF1.out _).mono ?_; rintro e X ⟨rfl, bb⟩
      have HB2 := hid (HB2.out.keep bb); have HB3 := hid (HB3.out.keep bb); have HB4 := hid (HB4.out.keep bb); have HW := hid (below_call HW.out bb HW.out.size)
      try have HP5 := hid (HP5.out.keep bb)
      try have HP6 := hid (HP6.out.keep bb)
      clear bb hHeld
      refine hK.out _ _ ?_ (fun hHeld => ?_); · ((try dsimp only); (first | exact HHK.out _ HB2 HB3 | exact HHK.out _ (hid HB2.out.drew) (hid HB3.out.drew)))
      clear hK K
      try simp only [Act.put,qA,qB,qC]
      refine st 9 rfl fun K hK => ?_
      go_simp
      refine (HF2.out _).mono ?_; rintro e X ⟨rfl, bb⟩
      have HB2 := hid (HB2.out.keep bb); have HB3 := hid (HB3.out.keep bb); have HB4 := hid (HB4.out.keep bb); have HW := hid (below_call HW.out bb HW.out.size)
      try have HP5 := hid (HP5.out.keep bb)
      try have HP6 := hid (HP6.out.keep bb)
      clear bb hHeld
      refine hK.out _ _ ?_ (fun hHeld => ?_); · ((try dsimp only); (first | exact HHK.out _ HB2 HB3 | exact HHK.out _ (hid HB2.out.drew) (hid HB3.out.drew)))
      clear hK K
      try simp only [Act.put,qA,qB,qC]
      refine st 12 rfl fun K hK => ?_
      have f0 := HP5.out.free 0
      have f1 := HP5.out.free 1
      have r0 := HP5.out.cell 0
      have r1 := HP5.out.cell 1
      simp only [List.getElem?_toArray, List.getElem?_cons_zero, List.getElem?_cons_succ] at r0 r1
      go_simp
      have l5 := L5.out
      have d5 := D56.out
      have HP6 := hid ((HP6.out.far (p := ⟨b5, 0, none⟩) (by simp only; omega) (.int .i64 x1)).far (p := ⟨b5, 1, none⟩) (by simp only; omega) (.int .i64 x2))
      have HP5 := hid ((HP5.out.set 0 (.int .i64 x1)).set 1 (.int .i64 x2))
      have HB2 := hid ((HB2.out.far (p := ⟨b5, 0, none⟩) (by simp only; omega) (.int .i64 x1)).far (p := ⟨b5, 1, none⟩) (by simp only; omega) (.int .i64 x2))
      have HB3 := hid ((HB3.out.far (p := ⟨b5, 0, none⟩) (by simp only; omega) (.int .i64 x1)).far (p := ⟨b5, 1, none⟩) (by simp only; omega) (.int .i64 x2))
      have HB4 := hid ((HB4.out.far (p := ⟨b5, 0, none⟩) (by simp only; omega) (.int .i64 x1)).far (p := ⟨b5, 1, none⟩) (by simp only; omega) (.int .i64 x2))
      have HW := hid ((HW.out.setCell (p := ⟨b5, 0, none⟩) (by simp only; omega) (.int .i64 x1)).setCell (p := ⟨b5, 1, none⟩) (by simp only; omega) (.int .i64 x2))
      clear f0 f1 r0 r1 hHeld
      generalize (X.setCell ⟨b5, 0, none⟩ (.int .i64 x1)).setCell ⟨b5, 1, none⟩ (.int .i64 x2) = X1 at *
      obtain ⟨X, rfl⟩ : ∃ Y, Y = X1 := ⟨X1, rfl⟩
      clear l5 d5
      refine hK.out _ _ ?_ (fun hHeld => ?_); · ((try dsimp only); (first | exact HHK.out _ HB2 HB3 | exact HHK.out _ (hid HB2.out.drew) (hid HB3.out.drew)))
      clear hK K
      try simp only [Act.put,qA,qB,qC]
      refine st 13 rfl fun K hK => ?_
      have f0 := HP6.out.free 0
      have f1 := HP6.out.free 1
      have r0 := HP6.out.cell 0
      have r1 := HP6.out.cell 1
      simp only [List.getElem?_toArray, List.getElem?_cons_zero, List.getElem?_cons_succ] at r0 r1
      go_simp
      have l5 := L6.out
      have d5 := D56.out
      have HP5 := hid ((HP5.out.far (p := ⟨b6, 0, none⟩) (by simp only; omega) (.int .i64 y1)).far (p := ⟨b6, 1, none⟩) (by simp only; omega) (.int .i64 y2))
      have HP6 := hid ((HP6.out.set 0 (.int .i64 y1)).set 1 (.int .i64 y2))
      have HB2 := hid ((HB2.out.far (p := ⟨b6, 0, none⟩) (by simp only; omega) (.int .i64 y1)).far (p := ⟨b6, 1, none⟩) (by simp only; omega) (.int .i64 y2))
      have HB3 := hid ((HB3.out.far (p := ⟨b6, 0, none⟩) (by simp only; omega) (.int .i64 y1)).far (p := ⟨b6, 1, none⟩) (by simp only; omega) (.int .i64 y2))
      have HB4 := hid ((HB4.out.far (p := ⟨b6, 0, none⟩) (by simp only; omega) (.int .i64 y1)).far (p := ⟨b6, 1, none⟩) (by simp only; omega) (.int .i64 y2))
      have HW := hid ((HW.out.setCell (p := ⟨b6, 0, none⟩) (by simp only; omega) (.int .i64 y1)).setCell (p := ⟨b6, 1, none⟩) (by simp only; omega) (.int .i64 y2))
      clear f0 f1 r0 r1 hHeld
      generalize (X.setCell ⟨b6, 0, none⟩ (.int .i64 y1)).setCell ⟨b6, 1, none⟩ (.int .i64 y2) = X1 at *
      obtain ⟨X, rfl⟩ : ∃ Y, Y = X1 := ⟨X1, rfl⟩
      clear l5 d5
      refine hK.out _ _ ?_ (fun hHeld => ?_); · ((try dsimp only); (first | exact HHK.out _ HB2 HB3 | exact HHK.out _ (hid HB2.out.drew) (hid HB3.out.drew)))
      clear hK K
      try simp only [Act.put,qA,qB,qC]
      refine wpAnyH_done (by kernel_rfl) ?_ _
      go_wp2_with fail
      go_meet
      case rel => exact ⟨b5, b6, rfl, rfl, by simpa using HP5, by simpa using HP6, HB4, HW⟩
  · go_simp
    have bb := (Below.refl X.heap.size X).alloc (Nat.le_refl _) (.cells #[.int .i64 0, .int .i64 0] 48)
    have L6 := hid (show w.heap.size + 1 + 1 < X.heap.size from HB4.out.lt)
    try have D56 := hid (show ¬ b5 = X.heap.size from by have := HP5.out.lt; omega)
    have HP6 := hid (Blk.new X 48 #[.int .i64 0, .int .i64 0])
    have HB2 := hid (HB2.out.keep bb); have HB3 := hid (HB3.out.keep bb); have HB4 := hid (HB4.out.keep bb); have HW := hid (below_call HW.out bb HW.out.size)
    try have HP5 := hid (HP5.out.keep bb)
    clear bb hHeld
    generalize X.alloc (.cells #[.int .i64 0, .int .i64 0] 48) = X1 at *
    generalize X.heap.size = b6 at *
    obtain ⟨X, rfl⟩ : ∃ Y, Y = X1 := ⟨X1, rfl⟩
    refine hK.out _ _ ?_ (fun hHeld => ?_); · ((try dsimp only); (first | exact HHK.out _ HB2 HB3 | exact HHK.out _ (hid HB2.out.drew) (hid HB3.out.drew)))
    clear hK K
    try simp only [Act.put,qA,qB,qC]
    refine wpAnyH_ready (rs := [4, 10]) (by kernel_rfl) (by simp) ?_
    refine AllReadyH.cons rfl (fun K hK => ?_) (AllReadyH.cons rfl (fun K hK => ?_) (AllReadyH.nil))
    · go_simp
      refine (HF1.out _).mono ?_; rintro e X ⟨rfl, bb⟩
      have HB2 := hid (HB2.out.keep bb); have HB3 := hid (HB3.out.keep bb); have HB4 := hid (HB4.out.keep bb); have HW := hid (below_call HW.out bb HW.out.size)
      try have HP5 := hid (HP5.out.keep bb)
      try have HP6 := hid (HP6.out.keep bb)
      clear bb hHeld
      refine hK.out _ _ ?_ (fun hHeld => ?_); · ((try dsimp only); (first | exact HHK.out _ HB2 HB3 | exact HHK.out _ (hid HB2.out.drew) (hid HB3.out.drew)))
      clear hK K
      try simp only [Act.put,qA,qB,qC]
      refine wpAnyH_ready (rs := [9, 10]) (by kernel_rfl) (by simp) ?_
      refine AllReadyH.cons rfl (fun K hK => ?_) (AllReadyH.cons rfl (fun K hK => ?_) (AllReadyH.nil))
      · go_simp
        refine (HF2.out _).mono ?_; rintro e X ⟨rfl, bb⟩
        have HB2 := hid (HB2.out.keep bb); have HB3 := hid (HB3.out.keep bb); have HB4 := hid (HB4.out.keep bb); have HW := hid (below_call HW.out bb HW.out.size)
        try have HP5 := hid (HP5.out.keep bb)
        try have HP6 := hid (HP6.out.keep bb)
        clear bb hHeld
        refine hK.out _ _ ?_ (fun hHeld => ?_); · ((try dsimp only); (first | exact HHK.out _ HB2 HB3 | exact HHK.out _ (hid HB2.out.drew) (hid HB3.out.drew)))
        clear hK K
        try simp only [Act.put,qA,qB,qC]
        refine st 10 rfl fun K hK => ?_
        go_simp
        have bb := (Below.refl X.heap.size X).alloc (Nat.le_refl _) (.cells #[.int .i64 0, .int .i64 0] 48)
        have L5 := hid (show w.heap.size + 1 + 1 < X.heap.size from HB4.out.lt)
        try have D56 := hid (show ¬ X.heap.size = b6 from by have := HP6.out.lt; omega)
        have HP5 := hid (Blk.new X 48 #[.int .i64 0, .int .i64 0])
        have HB2 := hid (HB2.out.keep bb); have HB3 := hid (HB3.out.keep bb); have HB4 := hid (HB4.out.keep bb); have HW := hid (below_call HW.out bb HW.out.size)
        try have HP6 := hid (HP6.out.keep bb)
        clear bb hHeld
        generalize X.alloc (.cells #[.int .i64 0, .int .i64 0] 48) = X1 at *
        generalize X.heap.size = b5 at *
        obtain ⟨X, rfl⟩ : ∃ Y, Y = X1 := ⟨X1, rfl⟩
        refine hK.out _ _ ?_ (fun hHeld => ?_); · ((try dsimp only); (first | exact HHK.out _ HB2 HB3 | exact HHK.out _ (hid HB2.out.drew) (hid HB3.out.drew)))
        clear hK K
        try simp only [Act.put,qA,qB,qC]
        refine st 12 rfl fun K hK => ?_
        have f0 := HP5.out.free 0
        have f1 := HP5.out.free 1
        have r0 := HP5.out.cell 0
        have r1 := HP5.out.cell 1
        simp only [List.getElem?_toArray, List.getElem?_cons_zero, List.getElem?_cons_succ] at r0 r1
        go_simp
        have l5 := L5.out
        have d5 := D56.out
        have HP6 := hid ((HP6.out.far (p := ⟨b5, 0, none⟩) (by simp only; omega) (.int .i64 x1)).far (p := ⟨b5, 1, none⟩) (by simp only; omega) (.int .i64 x2))
        have HP5 := hid ((HP5.out.set 0 (.int .i64 x1)).set 1 (.int .i64 x2))
        have HB2 := hid ((HB2.out.far (p := ⟨b5, 0, none⟩) (by simp only; omega) (.int .i64 x1)).far (p := ⟨b5, 1, none⟩) (by simp only; omega) (.int .i64 x2))
        have HB3 := hid ((HB3.out.far (p := ⟨b5, 0, none⟩) (by simp only; omega) (.int .i64 x1)).far (p := ⟨b5, 1, none⟩) (by simp only; omega) (.int .i64 x2))
        have HB4 := hid ((HB4.out.far (p := ⟨b5, 0, none⟩) (by simp only; omega) (.int .i64 x1)).far (p := ⟨b5, 1, none⟩) (by simp only; omega) (.int .i64 x2))
        have HW := hid ((HW.out.setCell (p := ⟨b5, 0, none⟩) (by simp only; omega) (.int .i64 x1)).setCell (p := ⟨b5, 1, none⟩) (by simp only; omega) (.int .i64 x2))
        clear f0 f1 r0 r1 hHeld
        generalize (X.setCell ⟨b5, 0, none⟩ (.int .i64 x1)).setCell ⟨b5, 1, none⟩ (.int .i64 x2) = X1 at *
        obtain ⟨X, rfl⟩ : ∃ Y, Y = X1 := ⟨X1, rfl⟩
        clear l5 d5
        refine hK.out _ _ ?_ (fun hHeld => ?_); · ((try dsimp only); (first | exact HHK.out _ HB2 HB3 | exact HHK.out _ (hid HB2.out.drew) (hid HB3.out.drew)))
        clear hK K
        try simp only [Act.put,qA,qB,qC]
        refine st 13 rfl fun K hK => ?_
        have f0 := HP6.out.free 0
        have f1 := HP6.out.free 1
        have r0 := HP6.out.cell 0
        have r1 := HP6.out.cell 1
        simp only [List.getElem?_toArray, List.getElem?_cons_zero, List.getElem?_cons_succ] at r0 r1
        go_simp
        have l5 := L6.out
        have d5 := D56.out
        have HP5 := hid ((HP5.out.far (p := ⟨b6, 0, none⟩) (by simp only; omega) (.int .i64 y1)).far (p := ⟨b6, 1, none⟩) (by simp only; omega) (.int .i64 y2))
        have HP6 := hid ((HP6.out.set 0 (.int .i64 y1)).set 1 (.int .i64 y2))
        have HB2 := hid ((HB2.out.far (p := ⟨b6, 0, none⟩) (by simp only; omega) (.int .i64 y1)).far (p := ⟨b6, 1, none⟩) (by simp only; omega) (.int .i64 y2))
        have HB3 := hid ((HB3.out.far (p := ⟨b6, 0, none⟩) (by simp only; omega) (.int .i64 y1)).far (p := ⟨b6, 1, none⟩) (by simp only; omega) (.int .i64 y2))
        have HB4 := hid ((HB4.out.far (p := ⟨b6, 0, none⟩) (by simp only; omega) (.int .i64 y1)).far (p := ⟨b6, 1, none⟩) (by simp only; omega) (.int .i64 y2))
        have HW := hid ((HW.out.setCell (p := ⟨b6, 0, none⟩) (by simp only; omega) (.int .i64 y1)).setCell (p := ⟨b6, 1, none⟩) (by simp only; omega) (.int .i64 y2))
        clear f0 f1 r0 r1 hHeld
        generalize (X.setCell ⟨b6, 0, none⟩ (.int .i64 y1)).setCell ⟨b6, 1, none⟩ (.int .i64 y2) = X1 at *
        obtain ⟨X, rfl⟩ : ∃ Y, Y = X1 := ⟨X1, rfl⟩
        clear l5 d5
        refine hK.out _ _ ?_ (fun hHeld => ?_); · ((try dsimp only); (first | exact HHK.out _ HB2 HB3 | exact HHK.out _ (hid HB2.out.drew) (hid HB3.out.drew)))
        clear hK K
        try simp only [Act.put,qA,qB,qC]
        refine wpAnyH_done (by kernel_rfl) ?_ _
        go_wp2_with fail
        go_meet
        case rel => exact ⟨b5, b6, rfl, rfl, by simpa using HP5, by simpa using HP6, HB4, HW⟩
      · go_simp
        have bb := (Below.refl X.heap.size X).alloc (Nat.le_refl _) (.cells #[.int .i64 0, .int .i64 0] 48)
        have L5 := hid (show w.heap.size + 1 + 1 < X.heap.size from HB4.out.lt)
        try have D56 := hid (show ¬ X.heap.size = b6 from by have := HP6.out.lt; omega)
        have HP5 := hid (Blk.new X 48 #[.int .i64 0, .int .i64 0])
        have HB2 := hid (HB2.out.keep bb); have HB3 := hid (HB3.out.keep bb); have HB4 := hid (HB4.out.keep bb); have HW := hid (below_call HW.out bb HW.out.size)
        try have HP6 := hid (HP6.out.keep bb)
        clear bb hHeld
        generalize X.alloc (.cells #[.int .i64 0, .int .i64 0] 48) = X1 at *
        generalize X.heap.size = b5 at *
        obtain ⟨X, rfl⟩ : ∃ Y, Y = X1 := ⟨X1, rfl⟩
        refine hK.out _ _ ?_ (fun hHeld => ?_); · ((try dsimp only); (first | exact HHK.out _ HB2 HB3 | exact HHK.out _ (hid HB2.out.drew) (hid HB3.out.drew)))
        clear hK K
        try simp only [Act.put,qA,qB,qC]
        refine st 9 rfl fun K hK => ?_
        go_simp
        refine (HF2.out _).mono ?_; rintro e X ⟨rfl, bb⟩
        have HB2 := hid (HB2.out.keep bb); have HB3 := hid (HB3.out.keep bb); have HB4 := hid (HB4.out.keep bb); have HW := hid (below_call HW.out bb HW.out.size)
        try have HP5 := hid (HP5.out.keep bb)
        try have HP6 := hid (HP6.out.keep bb)
        clear bb hHeld
        refine hK.out _ _ ?_ (fun hHeld => ?_); · ((try dsimp only); (first | exact HHK.out _ HB2 HB3 | exact HHK.out _ (hid HB2.out.drew) (hid HB3.out.drew)))
        clear hK K
        try simp only [Act.put,qA,qB,qC]
        refine st 12 rfl fun K hK => ?_
        have f0 := HP5.out.free 0
        have f1 := HP5.out.free 1
        have r0 := HP5.out.cell 0
        have r1 := HP5.out.cell 1
        simp only [List.getElem?_toArray, List.getElem?_cons_zero, List.getElem?_cons_succ] at r0 r1
        go_simp
        have l5 := L5.out
        have d5 := D56.out
        have HP6 := hid ((HP6.out.far (p := ⟨b5, 0, none⟩) (by simp only; omega) (.int .i64 x1)).far (p := ⟨b5, 1, none⟩) (by simp only; omega) (.int .i64 x2))
        have HP5 := hid ((HP5.out.set 0 (.int .i64 x1)).set 1 (.int .i64 x2))
        have HB2 := hid ((HB2.out.far (p := ⟨b5, 0, none⟩) (by simp only; omega) (.int .i64 x1)).far (p := ⟨b5, 1, none⟩) (by simp only; omega) (.int .i64 x2))
        have HB3 := hid ((HB3.out.far (p := ⟨b5, 0, none⟩) (by simp only; omega) (.int .i64 x1)).far (p := ⟨b5, 1, none⟩) (by simp only; omega) (.int .i64 x2))
        have HB4 := hid ((HB4.out.far (p := ⟨b5, 0, none⟩) (by simp only; omega) (.int .i64 x1)).far (p := ⟨b5, 1, none⟩) (by simp only; omega) (.int .i64 x2))
        have HW := hid ((HW.out.setCell (p := ⟨b5, 0, none⟩) (by simp only; omega) (.int .i64 x1)).setCell (p := ⟨b5, 1, none⟩) (by simp only; omega) (.int .i64 x2))
        clear f0 f1 r0 r1 hHeld
        generalize (X.setCell ⟨b5, 0, none⟩ (.int .i64 x1)).setCell ⟨b5, 1, none⟩ (.int .i64 x2) = X1 at *
        obtain ⟨X, rfl⟩ : ∃ Y, Y = X1 := ⟨X1, rfl⟩
        clear l5 d5
        refine hK.out _ _ ?_ (fun hHeld => ?_); · ((try dsimp only); (first | exact HHK.out _ HB2 HB3 | exact HHK.out _ (hid HB2.out.drew) (hid HB3.out.drew)))
        clear hK K
        try simp only [Act.put,qA,qB,qC]
        refine st 13 rfl fun K hK => ?_
        have f0 := HP6.out.free 0
        have f1 := HP6.out.free 1
        have r0 := HP6.out.cell 0
        have r1 := HP6.out.cell 1
        simp only [List.getElem?_toArray, List.getElem?_cons_zero, List.getElem?_cons_succ] at r0 r1
        go_simp
        have l5 := L6.out
        have d5 := D56.out
        have HP5 := hid ((HP5.out.far (p := ⟨b6, 0, none⟩) (by simp only; omega) (.int .i64 y1)).far (p := ⟨b6, 1, none⟩) (by simp only; omega) (.int .i64 y2))
        have HP6 := hid ((HP6.out.set 0 (.int .i64 y1)).set 1 (.int .i64 y2))
        have HB2 := hid ((HB2.out.far (p := ⟨b6, 0, none⟩) (by simp only; omega) (.int .i64 y1)).far (p := ⟨b6, 1, none⟩) (by simp only; omega) (.int .i64 y2))
        have HB3 := hid ((HB3.out.far (p := ⟨b6, 0, none⟩) (by simp only; omega) (.int .i64 y1)).far (p := ⟨b6, 1, none⟩) (by simp only; omega) (.int .i64 y2))
        have HB4 := hid ((HB4.out.far (p := ⟨b6, 0, none⟩) (by simp only; omega) (.int .i64 y1)).far (p := ⟨b6, 1, none⟩) (by simp only; omega) (.int .i64 y2))
        have HW := hid ((HW.out.setCell (p := ⟨b6, 0, none⟩) (by simp only; omega) (.int .i64 y1)).setCell (p := ⟨b6, 1, none⟩) (by simp only; omega) (.int .i64 y2))
        clear f0 f1 r0 r1 hHeld
        generalize (X.setCell ⟨b6, 0, none⟩ (.int .i64 y1)).setCell ⟨b6, 1, none⟩ (.int .i64 y2) = X1 at *
        obtain ⟨X, rfl⟩ : ∃ Y, Y = X1 := ⟨X1, rfl⟩
        clear l5 d5
        refine hK.out _ _ ?_ (fun hHeld => ?_); · ((try dsimp only); (first | exact HHK.out _ HB2 HB3 | exact HHK.out _ (hid HB2.out.drew) (hid HB3.out.drew)))
        clear hK K
        try simp only [Act.put,qA,qB,qC]
        refine wpAnyH_done (by kernel_rfl) ?_ _
        go_wp2_with fail
        go_meet
        case rel => exact ⟨b5, b6, rfl, rfl, by simpa using HP5, by simpa using HP6, HB4, HW⟩
    · go_simp
      have bb := (Below.refl X.heap.size X).alloc (Nat.le_refl _) (.cells #[.int .i64 0, .int .i64 0] 48)
      have L5 := hid (show w.heap.size + 1 + 1 < X.heap.size from HB4.out.lt)
      try have D56 := hid (show ¬ X.heap.size = b6 from by have := HP6.out.lt; omega)
      have HP5 := hid (Blk.new X 48 #[.int .i64 0, .int .i64 0])
      have HB2 := hid (HB2.out.keep bb); have HB3 := hid (HB3.out.keep bb); have HB4 := hid (HB4.out.keep bb); have HW := hid (below_call HW.out bb HW.out.size)
      try have HP6 := hid (HP6.out.keep bb)
      clear bb hHeld
      generalize X.alloc (.cells #[.int .i64 0, .int .i64 0] 48) = X1 at *
      generalize X.heap.size = b5 at *
      obtain ⟨X, rfl⟩ : ∃ Y, Y = X1 := ⟨X1, rfl⟩
      refine hK.out _ _ ?_ (fun hHeld => ?_); · ((try dsimp only); (first | exact HHK.out _ HB2 HB3 | exact HHK.out _ (hid HB2.out.drew) (hid HB3.out.drew)))
      clear hK K
      try simp only [Act.put,qA,qB,qC]
      refine st 4 rfl fun K hK => ?_
      go_simp
      refine (HF1.out _).mono ?_; rintro e X ⟨rfl, bb⟩
      have HB2 := hid (HB2.out.keep bb); have HB3 := hid (HB3.out.keep bb); have HB4 := hid (HB4.out.keep bb); have HW := hid (below_call HW.out bb HW.out.size)
      try have HP5 := hid (HP5.out.keep bb)
      try have HP6 := hid (HP6.out.keep bb)
      clear bb hHeld
      refine hK.out _ _ ?_ (fun hHeld => ?_); · ((try dsimp only); (first | exact HHK.out _ HB2 HB3 | exact HHK.out _ (hid HB2.out.drew) (hid HB3.out.drew)))
      clear hK K
      try simp only [Act.put,qA,qB,qC]
      refine st 9 rfl fun K hK => ?_
      go_simp
      refine (HF2.out _).mono ?_; rintro e X ⟨rfl, bb⟩
      have HB2 := hid (HB2.out.keep bb); have HB3 := hid (HB3.out.keep bb); have HB4 := hid (HB4.out.keep bb); have HW := hid (below_call HW.out bb HW.out.size)
      try have HP5 := hid (HP5.out.keep bb)
      try have HP6 := hid (HP6.out.keep bb)
      clear bb hHeld
      refine hK.out _ _ ?_ (fun hHeld => ?_); · ((try dsimp only); (first | exact HHK.out _ HB2 HB3 | exact HHK.out _ (hid HB2.out.drew) (hid HB3.out.drew)))
      clear hK K
      try simp only [Act.put,qA,qB,qC]
      refine st 12 rfl fun K hK => ?_
      have f0 := HP5.out.free 0
      have f1 := HP5.out.free 1
      have r0 := HP5.out.cell 0
      have r1 := HP5.out.cell 1
      simp only [List.getElem?_toArray, List.getElem?_cons_zero, List.getElem?_cons_succ] at r0 r1
      go_simp
      have l5 := L5.out
      have d5 := D56.out
      have HP6 := hid ((HP6.out.far (p := ⟨b5, 0, none⟩) (by simp only; omega) (.int .i64 x1)).far (p := ⟨b5, 1, none⟩) (by simp only; omega) (.int .i64 x2))
      have HP5 := hid ((HP5.out.set 0 (.int .i64 x1)).set 1 (.int .i64 x2))
      have HB2 := hid ((HB2.out.far (p := ⟨b5, 0, none⟩) (by simp only; omega) (.int .i64 x1)).far (p := ⟨b5, 1, none⟩) (by simp only; omega) (.int .i64 x2))
      have HB3 := hid ((HB3.out.far (p := ⟨b5, 0, none⟩) (by simp only; omega) (.int .i64 x1)).far (p := ⟨b5, 1, none⟩) (by simp only; omega) (.int .i64 x2))
      have HB4 := hid ((HB4.out.far (p := ⟨b5, 0, none⟩) (by simp only; omega) (.int .i64 x1)).far (p := ⟨b5, 1, none⟩) (by simp only; omega) (.int .i64 x2))
      have HW := hid ((HW.out.setCell (p := ⟨b5, 0, none⟩) (by simp only; omega) (.int .i64 x1)).setCell (p := ⟨b5, 1, none⟩) (by simp only; omega) (.int .i64 x2))
      clear f0 f1 r0 r1 hHeld
      generalize (X.setCell ⟨b5, 0, none⟩ (.int .i64 x1)).setCell ⟨b5, 1, none⟩ (.int .i64 x2) = X1 at *
      obtain ⟨X, rfl⟩ : ∃ Y, Y = X1 := ⟨X1, rfl⟩
      clear l5 d5
      refine hK.out _ _ ?_ (fun hHeld => ?_); · ((try dsimp only); (first | exact HHK.out _ HB2 HB3 | exact HHK.out _ (hid HB2.out.drew) (hid HB3.out.drew)))
      clear hK K
      try simp only [Act.put,qA,qB,qC]
      refine st 13 rfl fun K hK => ?_
      have f0 := HP6.out.free 0
      have f1 := HP6.out.free 1
      have r0 := HP6.out.cell 0
      have r1 := HP6.out.cell 1
      simp only [List.getElem?_toArray, List.getElem?_cons_zero, List.getElem?_cons_succ] at r0 r1
      go_simp
      have l5 := L6.out
      have d5 := D56.out
      have HP5 := hid ((HP5.out.far (p := ⟨b6, 0, none⟩) (by simp only; omega) (.int .i64 y1)).far (p := ⟨b6, 1, none⟩) (by simp only; omega) (.int .i64 y2))
      have HP6 := hid ((HP6.out.set 0 (.int .i64 y1)).set 1 (.int .i64 y2))
      have HB2 := hid ((HB2.out.far (p := ⟨b6, 0, none⟩) (by simp only; omega) (.int .i64 y1)).far (p := ⟨b6, 1, none⟩) (by simp only; omega) (.int .i64 y2))
      have HB3 := hid ((HB3.out.far (p := ⟨b6, 0, none⟩) (by simp only; omega) (.int .i64 y1)).far (p := ⟨b6, 1, none⟩) (by simp only; omega) (.int .i64 y2))
      have HB4 := hid ((HB4.out.far (p := ⟨b6, 0, none⟩) (by simp only; omega) (.int .i64 y1)).far (p := ⟨b6, 1, none⟩) (by simp only; omega) (.int .i64 y2))
      have HW := hid ((HW.out.setCell (p := ⟨b6, 0, none⟩) (by simp only; omega) (.int .i64 y1)).setCell (p := ⟨b6, 1, none⟩) (by simp only; omega) (.int .i64 y2))
      clear f0 f1 r0 r1 hHeld
      generalize (X.setCell ⟨b6, 0, none⟩ (.int .i64 y1)).setCell ⟨b6, 1, none⟩ (.int .i64 y2) = X1 at *
      obtain ⟨X, rfl⟩ : ∃ Y, Y = X1 := ⟨X1, rfl⟩
      clear l5 d5
      refine hK.out _ _ ?_ (fun hHeld => ?_); · ((try dsimp only); (first | exact HHK.out _ HB2 HB3 | exact HHK.out _ (hid HB2.out.drew) (hid HB3.out.drew)))
      clear hK K
      try simp only [Act.put,qA,qB,qC]
      refine wpAnyH_done (by kernel_rfl) ?_ _
      go_wp2_with fail
      go_meet
      case rel => exact ⟨b5, b6, rfl, rfl, by simpa using HP5, by simpa using HP6, HB4, HW⟩
 case rest =>
  obtain ⟨b5, b6, rfl, rfl, HP5, HP6, HB4, HW⟩ := hcut
  clear HF1 HF2 HB2 HB3
  have r0 := HP5.out.cell 0
  have r1 := HP5.out.cell 1
  have s0 := HP6.out.cell 0
  have s1 := HP6.out.cell 1
  have f0 := HB4.out.free 0
  have f1 := HB4.out.free 1
  have q0 := HB4.out.cell 0
  have q1 := HB4.out.cell 1
  simp only [List.getElem?_toArray, List.getElem?_cons_zero, List.getElem?_cons_succ] at r0 r1 s0 s1 q0 q1
  go_wp2
  exact bodyPost_ret (results_row1 rfl _ _ (w.heap.size + 1 + 1) 48 #[.int .i64 (x1 * y1), .int .i64 (x2 * y2)] (0, 0) _ rfl ((HB4.out.set 0 _).set 1 _) Tryz.underlying48 rfl (by kernel_rfl)) rfl ⟨rfl, (HW.out.setCell (by simp; omega) _).setCell (by simp; omega) _⟩
set_option maxRecDepth 100000 in
set_option maxHeartbeats 4000000 in
theorem overF (a b : Int × Int) (ha : sml a) (hb : sml b) (h0 : b.1 ≠ 0) (w : World) :
 Calls Tryz.prog 256 #[frV a, frV b] w fun e w' => e = .returned (frV (overP a b)) ∧ Below w.heap.size w w' := by
 have hs := fr_flip hb h0
 obtain ⟨a1, a2⟩ := a
 obtain ⟨b1, b2⟩ := b
 have HB := sml_mid hb
 simp only at HB hs h0
 unfold overP
 simp only
 have HF1 := hid fun W => fracF b2 b1 HB.2.1 HB.1 h0 W
 have HF2 := hid fun W => timesF (a1, a2) (fr b2 b1) ha hs W
 unfold frV at HF1 HF2 ⊢
 simp only at HF1 HF2
 generalize fr b2 b1 = x at *
 generalize timesP (a1, a2) x = z at *
 obtain ⟨HB2, HB3, HB4, HW⟩ := three_new w 48 #[.int .i64 a1, .int .i64 a2] 48 #[.int .i64 b1, .int .i64 b2] 48 #[.int .i64 0, .int .i64 0] 0
 clear ha hb HB hs h0
 go_enter Tryz.func256, Tryz.ntmps256
 go_wp2_with fail
 have hHK : ∀ X, Hid (Blk X w.heap.size 48 #[.int .i64 a1, .int .i64 a2]) → Hid (Blk X (w.heap.size + 1) 48 #[.int .i64 b1, .int .i64 b2]) → X.cell? ⟨w.heap.size, 0, none⟩ = some (.int .i64 a1) ∧ X.cell? ⟨w.heap.size, 1, none⟩ = some (.int .i64 a2) ∧ X.cell? ⟨w.heap.size + 1, 0, none⟩ = some (.int .i64 b1) ∧ X.cell? ⟨w.heap.size + 1, 1, none⟩ = some (.int .i64 b2) := fun X h1 h2 => ⟨h1.out.cell 0, h1.out.cell 1, h2.out.cell 0, h2.out.cell 1⟩
 have HHK := hid hHK
 clear hHK
 have h0 : ∀ W : World, W.drewN 0 = W := fun W => rfl
 rw [h0] at HB2 HB3 HB4 HW
 clear h0
 generalize (((w.alloc (.cells #[.int .i64 a1, .int .i64 a2] 48)).alloc (.cells #[.int .i64 b1, .int .i64 b2] 48)).alloc (.cells #[.int .i64 0, .int .i64 0] 48)) = X at *
 refine wp_region_held_drew (S := (fun w' => w'.cell? ⟨w.heap.size, 0, none⟩ = some (.int .i64 a1) ∧ w'.cell? ⟨w.heap.size, 1, none⟩ = some (.int .i64 a2) ∧ w'.cell? ⟨w.heap.size + 1, 0, none⟩ = some (.int .i64 b1) ∧ w'.cell? ⟨w.heap.size + 1, 1, none⟩ = some (.int .i64 b2))) (by kernel_rfl) (by (try dsimp only); (first | exact HHK.out _ HB2 HB3 | exact HHK.out _ (hid HB2.out.drew) (hid HB3.out.drew))) (fun hHeld => ?_)
 have HB2 := hid HB2.out.drew; have HB3 := hid HB3.out.drew; have HB4 := hid HB4.out.drew; have HW := hid HW.out.drew
 generalize X.drew = X1 at *
 obtain ⟨X, rfl⟩ : ∃ Y, Y = X1 := ⟨X1, rfl⟩
 refine tk ?_ 0 (some 5) rfl rfl ?_ ?_; rotate_left; · (intro w hSw; (try dsimp only at hSw); go_simp <;> with_reducible rfl)
 try simp only [Act.put,qA,qB,qC]
 refine tk ?_ 1 (some 6) rfl rfl ?_ ?_; rotate_left; · (intro w hSw; (try dsimp only at hSw); go_simp <;> with_reducible rfl)
 try simp only [Act.put,qA,qB,qC]
 refine tk ?_ 2 (some 7) rfl rfl ?_ ?_; rotate_left; · (intro w hSw; (try dsimp only at hSw); go_simp <;> with_reducible rfl)
 try simp only [Act.put,qA,qB,qC]
 refine tk ?_ 3 (some 8) rfl rfl ?_ ?_; rotate_left; · (intro w hSw; (try dsimp only at hSw); go_simp <;> with_reducible rfl)
 try simp only [Act.put,qA,qB,qC]
 refine tk ?_ 4 (some 9) rfl rfl ?_ ?_; rotate_left; · (intro w hSw; (try dsimp only at hSw); go_simp <;> with_reducible rfl)
 try simp only [Act.put,qA,qB,qC]
 refine st 5 rfl fun K hK => ?_
 go_simp
 refine (HF1.out _).mono ?_; rintro e X ⟨rfl, bb⟩
 have HB2 := hid (HB2.out.keep bb); have HB3 := hid (HB3.out.keep bb); have HB4 := hid (HB4.out.keep bb); have HW := hid (below_call HW.out bb HW.out.size)
 clear bb hHeld
 refine hK.out _ _ ?_ (fun hHeld => ?_); · ((try dsimp only); (first | exact HHK.out _ HB2 HB3 | exact HHK.out _ (hid HB2.out.drew) (hid HB3.out.drew)))
 clear hK K
 try simp only [Act.put,qA,qB,qC]
 refine st 6 rfl fun K hK => ?_
 go_simp
 refine (HF2.out _).mono ?_; rintro e X ⟨rfl, bb⟩
 have HB2 := hid (HB2.out.keep bb); have HB3 := hid (HB3.out.keep bb); have HB4 := hid (HB4.out.keep bb); have HW := hid (below_call HW.out bb HW.out.size)
 clear bb hHeld
 refine hK.out _ _ ?_ (fun hHeld => ?_); · ((try dsimp only); (first | exact HHK.out _ HB2 HB3 | exact HHK.out _ (hid HB2.out.drew) (hid HB3.out.drew)))
 clear hK K
 try simp only [Act.put,qA,qB,qC]
 refine st 7 rfl fun K hK => ?_
 have f0 := HB4.out.free 0
 have f1 := HB4.out.free 1
 have q0 := HB4.out.cell 0
 have q1 := HB4.out.cell 1
 simp only [List.getElem?_toArray, List.getElem?_cons_zero, List.getElem?_cons_succ] at q0 q1
 go_simp
 have HB2 := hid ((HB2.out.far (p := ⟨w.heap.size + 1 + 1, 0, none⟩) (by simp only; omega) (.int .i64 z.1)).far (p := ⟨w.heap.size + 1 + 1, 1, none⟩) (by simp only; omega) (.int .i64 z.2))
 have HB3 := hid ((HB3.out.far (p := ⟨w.heap.size + 1 + 1, 0, none⟩) (by simp only; omega) (.int .i64 z.1)).far (p := ⟨w.heap.size + 1 + 1, 1, none⟩) (by simp only; omega) (.int .i64 z.2))
 clear f0 f1 q0 q1 hHeld
 refine hK.out _ _ ?_ (fun hHeld => ?_); · ((try dsimp only); (first | exact HHK.out _ HB2 HB3 | exact HHK.out _ (hid HB2.out.drew) (hid HB3.out.drew)))
 clear hK K
 try simp only [Act.put,qA,qB,qC]
 refine wpAnyH_done (by kernel_rfl) ?_ _
 go_wp2
 exact bodyPost_ret (results_row1 rfl _ _ (w.heap.size + 1 + 1) 48 #[.int .i64 z.1, .int .i64 z.2] (0, 0) _ rfl ((HB4.out.set 0 _).set 1 _) Tryz.underlying48 rfl (by kernel_rfl)) rfl ⟨rfl, (HW.out.setCell (by simp; omega) _).setCell (by simp; omega) _⟩
theorem plus_tw (x y k : Int) (hx : rg x) (hy : rg y) (hk : k = 1 ∨ k = -1) (w : World) :
 Calls Tryz.prog 211 #[frV (tw x), .int .i64 k, frV (tw y)] w fun e w' => e = .returned (frV (tw (x + k * y))) ∧ Below w.heap.size w w' := by
 have h := plusF (tw x) (tw y) k (sml_tw hx) (sml_tw hy) hk w
 rwa [tw_sum] at h
theorem times_tw (b y : Int) (hb : b = 12 ∨ b = -12) (hy : rg y) (w : World) :
 Calls Tryz.prog 257 #[frV (tw b), frV (tw y)] w fun e w' => e = .returned (frV (tw (sg b y))) ∧ Below w.heap.size w w' := by
 have h := timesF (tw b) (tw y) (sml_tw (by unfold rg; omega)) (sml_tw hy) w
 rwa [tw_times hb hy] at h
theorem over_tw (b y : Int) (hb : b = 12 ∨ b = -12) (hy : rg y) (w : World) :
 Calls Tryz.prog 256 #[frV (tw y), frV (tw b)] w fun e w' => e = .returned (frV (tw (sg b y))) ∧ Below w.heap.size w w' := by
 have h := overF (tw y) (tw b) (sml_tw hy) (sml_tw (by unfold rg; omega)) (by rcases hb with rfl | rfl <;> decide) w
 rwa [tw_over hb hy] at h
theorem whole_tw (n : Int) (w : World) :
 Calls Tryz.prog 238 #[.int .i64 n] w fun e w' => e = .returned (frV (tw (12 * n))) ∧ Below w.heap.size w w' := by
 have h := wholeF n w
 have e : tw (12 * n) = (n, 1) := by
  have := fr_ratio (N := 12 * n) (D := 12) (n := n) (d := 1) (by decide) (by decide) (by omega)
  unfold tw
  rw [this]
  simp [fr]
 rwa [e]
theorem frac_tw (n : Int) (hn : rg n) (w : World) :
 Calls Tryz.prog 179 #[.int .i64 n, .int .i64 12] w fun e w' => e = .returned (frV (tw n)) ∧ Below w.heap.size w w' :=
 fracF n 12 (by unfold rg at hn; unfold mid; omega) (by unfold mid; omega) (by decide) w
end Go.Proofs.YtnibidmlkbcfkaaGreatDoor
