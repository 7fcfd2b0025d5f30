/- Walk of bets.Agrees at a belief that is a corner. Conditions: bets that a table of three worlds takes; the belief agrees with them. -/
import Derived.Test.YtapeledneokgpaaGreatDoorP32
import Derived.Laws.StructEq
namespace Go.Proofs.YtapeledneokgpaaGreatDoor
open Go.RowKit Go.Maps
def okTn (x : Nat) : Bool := decide (0 ≤ (tw x).1) && decide ((tw x).1 ≤ (tw x).2) && decide (1 ≤ (tw x).2) && decide ((tw x).2 ≤ 12) && decide (Int.gcd (tw x).1 (tw x).2 = 1) && decide (12 % (tw x).2 = 0)
set_option maxRecDepth 100000 in
theorem okTn_all : (List.range 13).all okTn = true := by kernel_rfl
theorem tn_bd {x : Int} (h : 0 ≤ x ∧ x ≤ 12) : 0 ≤ (tw x).1 ∧ (tw x).1 ≤ (tw x).2 ∧ 1 ≤ (tw x).2 ∧ (tw x).2 ≤ 12 ∧ Int.gcd (tw x).1 (tw x).2 = 1 ∧ 12 % (tw x).2 = 0 := by
 have h1 := List.all_eq_true.1 okTn_all x.toNat (List.mem_range.2 (by omega))
 unfold okTn at h1
 rw [show ((x.toNat : Nat) : Int) = x by omega] at h1
 simp only [Bool.and_eq_true, decide_eq_true_eq] at h1
 exact ⟨h1.1.1.1.1.1, h1.1.1.1.1.2, h1.1.1.1.2, h1.1.1.2, h1.1.2, h1.2⟩
def lcmB (a d : Nat) : Bool := !(decide (0 < a) && decide (12 % a = 0) && decide (0 < d) && decide (12 % d = 0)) || (decide (0 < Int.gcd a d) && decide ((d : Int) % (Int.gcd a d : Nat) = 0) && decide (0 < (d : Int) / (Int.gcd a d : Nat)) && decide ((d : Int) / (Int.gcd a d : Nat) ≤ 12) && decide (12 % ((a : Int) * ((d : Int) / (Int.gcd a d : Nat))) = 0))
set_option maxRecDepth 100000 in
theorem lcmB_all : (List.range 13).all (fun a => (List.range 13).all fun d => lcmB a d) = true := by kernel_rfl
theorem lcm_bd {a d : Int} (ha : 0 < a ∧ a ≤ 12 ∧ 12 % a = 0) (hd : 0 < d ∧ d ≤ 12 ∧ 12 % d = 0) : 0 < Int.gcd a d ∧ d % (Int.gcd a d : Nat) = 0 ∧ 0 < d / (Int.gcd a d : Nat) ∧ d / (Int.gcd a d : Nat) ≤ 12 ∧ 12 % (a * (d / (Int.gcd a d : Nat))) = 0 := by
 have h1 := List.all_eq_true.1 (List.all_eq_true.1 lcmB_all a.toNat (List.mem_range.2 (by omega))) d.toNat (List.mem_range.2 (by omega))
 unfold lcmB at h1
 have e1 : ((a.toNat : Nat) : Int) = a := by omega
 have e2 : ((d.toNat : Nat) : Int) = d := by omega
 have f1 : decide (0 < a.toNat) = true := decide_eq_true (by omega)
 have f2 : decide (0 < d.toNat) = true := decide_eq_true (by omega)
 have f3 : decide (12 % a.toNat = 0) = true := decide_eq_true (by
  have := ha.2.2
  rw [← e1] at this
  exact_mod_cast this)
 have f4 : decide (12 % d.toNat = 0) = true := decide_eq_true (by
  have := hd.2.2
  rw [← e2] at this
  exact_mod_cast this)
 rw [f1, f2, f3, f4, e1, e2] at h1
 simp only [Bool.and_true, Bool.not_true, Bool.false_or, Bool.and_eq_true, decide_eq_true_eq] at h1
 exact ⟨h1.1.1.1.1, h1.1.1.1.2, h1.1.1.2, h1.1.2, h1.2⟩
set_option maxRecDepth 100000 in
set_option maxHeartbeats 1000000 in
theorem lowestT (x : Int) (hx : 0 ≤ x ∧ x ≤ 12) (w : World) :
 Calls Tryz.prog 157 #[frV (tw x), .int .i64 10000000000] w fun r w' => r = .returned (.bool true) ∧ Below w.heap.size w w' := by
 obtain ⟨h1, h2, h3, h4, h5, h6⟩ := tn_bd hx
 unfold frV
 generalize tw x = X at *
 obtain ⟨a, d⟩ := X
 simp only at *
 have HG := hid fun W => gcdF a d (by unfold mid; omega) (by unfold mid; omega) W
 rw [h5] at HG
 have HB := hid ((Below.refl w.heap.size w).alloc (Nat.le_refl _) (.cells #[.int .i64 a, .int .i64 d] 48))
 have H2 := hid (Blk.new w 48 #[.int .i64 a, .int .i64 d])
 have p0 := H2.out.cell 0
 have p1 := H2.out.cell 1
 simp only [List.getElem?_toArray, List.getElem?_cons_zero, List.getElem?_cons_succ] at p0 p1
 have g1 : decide (1 ≤ d) = true := decide_eq_true h3
 have g2 : decide (d ≤ 10000000000) = true := decide_eq_true (by omega)
 clear h1 h2 h3 h4 h5 h6 hx
 go_enter Tryz.func157, Tryz.ntmps157
 go_wp2_with fail
 refine (HG.out _).mono ?_; rintro r w2 ⟨rfl, n2, rfl⟩
 go_wp2
 go_ret
 exact ⟨rfl, below_drewN HB.out n2⟩
set_option maxRecDepth 100000 in
set_option maxHeartbeats 1000000 in
theorem chanceT (x : Int) (hx : 0 ≤ x ∧ x ≤ 12) (w : World) :
 Calls Tryz.prog 102 #[frV (tw x), .int .i64 10000000000] w fun r w' => r = .returned (.bool true) ∧ Below w.heap.size w w' := by
 have HL := hid fun W => lowestT x hx W
 obtain ⟨h1, h2, h3, h4, h5, h6⟩ := tn_bd hx
 unfold frV at HL ⊢
 generalize tw x = X at *
 obtain ⟨a, d⟩ := X
 simp only at *
 have HB := hid ((Below.refl w.heap.size w).alloc (Nat.le_refl _) (.cells #[.int .i64 a, .int .i64 d] 48))
 have H2 := hid (Blk.new w 48 #[.int .i64 a, .int .i64 d])
 have p0 := H2.out.cell 0
 have p1 := H2.out.cell 1
 simp only [List.getElem?_toArray, List.getElem?_cons_zero, List.getElem?_cons_succ] at p0 p1
 have g1 : decide (0 ≤ a) = true := decide_eq_true h1
 have g2 : decide (a ≤ d) = true := decide_eq_true h2
 clear h1 h2 h3 h4 h5 h6 hx
 go_enter Tryz.func102, Tryz.ntmps102
 go_wp2_with fail
 refine (HL.out _).mono ?_; rintro r w2 ⟨rfl, b2⟩
 have HB := hid (below_call HB.out b2 HB.out.size)
 have p0 := cell_keep b2 p0
 have p1 := cell_keep b2 p1
 clear b2 HL
 go_wp2
 go_ret
 exact ⟨rfl, HB.out⟩
set_option maxRecDepth 100000 in
set_option maxHeartbeats 4000000 in
theorem commonT (b : List Int) (A : Option Addr) (c : Nat) (w : World) (hs : Sl2 w A 3 c (b.map tw)) (hb : ∀ x ∈ b, 0 ≤ x ∧ x ≤ 12) :
 Calls Tryz.prog 63 #[.slice A 3 c] w fun r w' => r = .returned (.bool true) ∧ Below w.heap.size w w' := by
 have HS := hid hs
 have HBB := hid hb
 clear hs hb
 go_enter Tryz.func63, Tryz.ntmps63
 go_wp2_with fail
 go_loopg [3, 9] 3 (fun gk v i wr => ∃ (k : Nat) (al : Int), gk + k = 3 ∧ i = .int .i64 k ∧ v = .int .i64 al ∧ Hid (0 < al ∧ al ≤ 12 ∧ 12 % al = 0) ∧ Hid (Below w.heap.size w wr))
 case atStart => exact ⟨0, 1, rfl, rfl, rfl, hid ⟨by omega, by omega, by decide⟩, hid (Below.refl _ _)⟩
 case round =>
  obtain ⟨k, al, hk, rfl, rfl, HAL, HB⟩ := hrel
  have HK := hid hk
  by_cases hlt : k < 3
  · have HLT := hid hlt
    obtain ⟨g, o, u, rfl, lb, e1, c0, c1⟩ := (HS.out.below HB.out).at hlt
    rw [List.getElem?_map] at e1
    obtain ⟨x, hx, rfl⟩ := Option.map_eq_some_iff.1 e1
    have e2 : o + k * 2 + 1 = o + (k * 2 + 1) := by omega
    rw [← e2] at c1
    have hxb := HBB.out x (List.mem_of_getElem? hx)
    have HCH := hid fun W => chanceT x hxb W
    obtain ⟨h1, h2, h3, h4, h5, h6⟩ := tn_bd hxb
    unfold frV at HCH
    generalize tw x = X at *
    obtain ⟨a, d⟩ := X
    simp only at *
    have hk3 : (k : Int) < 3 := by omega
    have hal := HAL.out
    obtain ⟨l1, l2, l3, l4, l5⟩ := lcm_bd hal ⟨by omega, h4, h6⟩
    have HGC := hid fun W => gcdF al d (by unfold mid; omega) (by unfold mid; omega) W
    have t1 := Int.tdiv_eq_ediv_of_dvd (Int.dvd_of_emod_eq_zero l2)
    have hG0 : (((Int.gcd al d : Nat) : Int) == 0) = false := by rw [beq_eq_false_iff_ne]; omega
    have hGp : 0 < ((Int.gcd al d : Nat) : Int) := by omega
    generalize ((Int.gcd al d : Nat) : Int) = G at *
    have hQ0 : (d / G == 0) = false := by rw [beq_eq_false_iff_ne]; omega
    have hle : al * (d / G) ≤ 12 := Int.le_of_dvd (by decide) (Int.dvd_of_emod_eq_zero l5)
    have hpo : 0 < al * (d / G) := Int.mul_pos hal.1 l3
    have hq : 833333333 ≤ (10000000000 : Int).tdiv (d / G) ∧ (10000000000 : Int).tdiv (d / G) ≤ 10000000000 := by
     rw [Int.tdiv_eq_ediv_of_nonneg (by decide)]
     constructor
     · exact (Int.le_ediv_iff_mul_le l3).2 (by omega)
     · exact Int.ediv_le_self _ (by decide)
    have HNX := hid (And.intro hpo (And.intro hle l5))
    have hgt : decide (al > (10000000000 : Int).tdiv (d / G)) = false := decide_eq_false (by omega)
    have hgt2 : decide ((10000000000 : Int).tdiv (d / G) < al) = false := decide_eq_false (by omega)
    have i1 := Go.IntWalk.i64_in (al * (d / G)) (by omega)
    have i2 : wrap64 (al * (d / G)) = al * (d / G) := by simp only [wrap64]; omega
    have hGn : ¬ G = 0 := by omega
    have i3 : IntKind.i64.wrap (d / G) = d / G := Go.IntWalk.i64_in (d / G) (by omega)
    have HA := hid (HB.out.alloc HB.out.size (.cells #[.int .i64 a, .int .i64 d] 48))
    have H5 := hid (Blk.new wr 48 #[.int .i64 a, .int .i64 d])
    have p0 := H5.out.cell 0
    have p1 := H5.out.cell 1
    simp only [List.getElem?_toArray, List.getElem?_cons_zero, List.getElem?_cons_succ] at p0 p1
    have hd12 : 1 ≤ d ∧ d ≤ 12 := ⟨h3, h4⟩
    clear hk e1 hx hxb h1 h2 h3 h5 h6 lb e2 l2 l5 HB HAL
    go_wp2_with fail
    generalize wr.alloc (.cells #[.int .i64 a, .int .i64 d] 48) = W5 at *
    refine (HCH.out _).mono ?_; rintro r w2 ⟨rfl, b2⟩
    have HA := hid (below_call HA.out b2 HA.out.size)
    have H5 := hid (H5.out.keep b2)
    have p1 := H5.out.cell 1
    simp only [List.getElem?_toArray, List.getElem?_cons_zero, List.getElem?_cons_succ] at p1
    clear b2 HCH p0 c0 c1
    go_wp2_with fail
    refine wp_region_held_drew (S := (fun w' => w'.cell? ⟨wr.heap.size, 1, none⟩ = some (.int .i64 d))) (by kernel_rfl) (by (try dsimp only); (exact p1)) (fun hHeld => ?_)
    refine tk ?_ 0 (some 16) rfl rfl ?_ ?_; rotate_left; · (intro w hSw; (try dsimp only at hSw); go_simp <;> with_reducible rfl)
    try simp only [Act.put, pA0, pA1, pA2]
    refine tk ?_ 1 (some 17) rfl rfl ?_ ?_; rotate_left; · (intro w hSw; (try dsimp only at hSw); go_simp <;> with_reducible rfl)
    try simp only [Act.put, pA0, pA1, pA2]
    refine tk ?_ 2 (some 18) rfl rfl ?_ ?_; rotate_left; · (intro w hSw; (try dsimp only at hSw); go_simp <;> with_reducible rfl)
    try simp only [Act.put, pA0, pA1, pA2]
    refine tk ?_ 3 (some 19) rfl rfl ?_ ?_; rotate_left; · (intro w hSw; (try dsimp only at hSw); go_simp <;> with_reducible rfl)
    try simp only [Act.put, pA0, pA1, pA2]
    refine tk ?_ 4 (some 20) rfl rfl ?_ ?_; rotate_left; · (intro w hSw; (try dsimp only at hSw); go_simp <;> with_reducible rfl)
    try simp only [Act.put, pA0, pA1, pA2]
    refine wpAnyH_ready (rs := [5]) (by kernel_rfl) (by simp) ?_
    refine AllReadyH.cons rfl (fun K hK => ?_) AllReadyH.nil
    go_simp
    refine (HGC.out _).mono ?_
    rintro r w3 ⟨rfl, n3, rfl⟩
    refine hK.out _ _ ?_ (fun hHeld => ?_); · ((try dsimp only); (exact p1))
    clear hK K
    try simp only [Act.put, pA0, pA1, pA2]
    refine tk ?_ 6 (some 22) rfl rfl ?_ ?_; rotate_left; · (intro w hSw; (try dsimp only at hSw); go_simp <;> with_reducible rfl)
    try simp only [Act.put, pA0, pA1, pA2]
    refine tk ?_ 7 (some 6) rfl rfl ?_ ?_; rotate_left; · (intro w hSw; (try dsimp only at hSw); go_simp <;> with_reducible rfl)
    try simp only [Act.put, pA0, pA1, pA2]
    refine wpAnyH_done (by kernel_rfl) ?_ _
    go_wp2
    go_roundg (gk - 1)
    case measure => have := HK.out; have := HLT.out; omega
    case rel => exact ⟨k + 1, al * (d / G), by have := HK.out; have := HLT.out; omega, by go_num, rfl, HNX, hid (below_drewN HA.out (1 + n3))⟩
  · obtain rfl : k = 3 := by have := HK.out; omega
    clear hk hlt
    go_wp2
    go_ret
    exact ⟨rfl, HB.out⟩
theorem eqFr (a b c d : Int) (w : World) : (Op.equalIn 10000 48 (.agg #[.int .i64 a, .int .i64 b]) (.agg #[.int .i64 c, .int .i64 d])).run Tryz.prog w = .ok (a == c && b == d) w := by
 have u3 := Tryz.underlying3
 have a3 := Tryz.isAgg3
 have z3 := Tryz.sizeOf3
 rw [show (10000 : Nat) = 9999 + 1 from rfl, run_equalIn_agg w 9999 48 _ _ (by kernel_rfl) (by kernel_rfl)]
 simp only [Program.fieldsOf, Tryz.underlying48]
 go_simp
 by_cases h1 : a = c <;> by_cases h2 : b = d <;> simp [h1, h2]
attribute [local go_sem] eqFr
set_option maxRecDepth 100000 in
set_option maxHeartbeats 2000000 in
theorem agrees1T (b : List Int) (hb : ∀ x ∈ b, 0 ≤ x ∧ x ≤ 12) (u : Int × Int) (hu : evOf u.1 b = u.2) (hu2 : 0 ≤ u.2 ∧ u.2 ≤ 12) (A : Option Addr) (c bb : Nat) (w : World) (hs : Sl2 w A 3 c (b.map tw)) (hc : w.cell? ⟨bb, 0, none⟩ = some (.slice A 3 c)) :
 Calls Tryz.prog 106 #[btV u, .pointer (some ⟨bb, 0, none⟩)] w fun r w' => r = .returned (.bool true) ∧ Below w.heap.size w w' := by
 have bA := (Below.refl w.heap.size w).alloc (Nat.le_refl _) (.cells #[.int .i64 u.1, .int .i64 u.2] 65)
 have HB := hid bA
 have HS := hid (hs.below bA)
 have k0 := cell_keep bA hc
 have H2 := Blk.new w 65 #[.int .i64 u.1, .int .i64 u.2]
 have k1 := H2.cell 0
 have k2 := H2.cell 1
 simp only [List.getElem?_toArray, List.getElem?_cons_zero, List.getElem?_cons_succ] at k1 k2
 have HOF := hid fun W (h : Sl2 W A 3 c (b.map tw)) => ofB u.1 b A c W h hb
 rw [hu] at HOF
 have HFR := hid fun W => frac_tw u.2 (by unfold rg; omega) W
 unfold frV at HOF HFR
 unfold btV
 obtain ⟨ev, ct⟩ := u
 simp only at *
 generalize tw ct = P at *
 clear hs hb hu hu2 hc H2 bA
 go_enter Tryz.func106, Tryz.ntmps106
 go_wp2_with fail
 generalize w.alloc (.cells #[.int .i64 ev, .int .i64 ct] 65) = X at *
 have HK := hid (And.intro k0 (And.intro k1 k2))
 clear k0 k1 k2
 refine wp_region_held_drew (S := (fun w' => w'.cell? ⟨bb, 0, none⟩ = some (.slice A 3 c) ∧ w'.cell? ⟨w.heap.size, 0, none⟩ = some (.int .i64 ev) ∧ w'.cell? ⟨w.heap.size, 1, none⟩ = some (.int .i64 ct))) (by kernel_rfl) (by (try dsimp only); (exact HK.out)) (fun hHeld => ?_)
 have bd := (Below.refl X.heap.size X).drew
 have HB := hid (below_call HB.out bd HB.out.size); have HS := hid (HS.out.below bd); have HK := hid (And.intro (cell_keep bd HK.out.1) (And.intro (cell_keep bd HK.out.2.1) (cell_keep bd HK.out.2.2)))
 clear bd
 generalize X.drew = X1 at *
 obtain ⟨X, rfl⟩ : ∃ Y, Y = X1 := ⟨X1, rfl⟩
 refine tk ?_ 0 (some 4) rfl rfl ?_ ?_; rotate_left; · (intro w hSw; (try dsimp only at hSw); go_simp <;> with_reducible rfl)
 try simp only [Act.put, pA0, pA1, pA2]
 refine tk ?_ 1 (some 5) rfl rfl ?_ ?_; rotate_left; · (intro w hSw; (try dsimp only at hSw); go_simp <;> with_reducible rfl)
 try simp only [Act.put, pA0, pA1, pA2]
 refine tk ?_ 2 (some 6) rfl rfl ?_ ?_; rotate_left; · (intro w hSw; (try dsimp only at hSw); go_simp <;> with_reducible rfl)
 try simp only [Act.put, pA0, pA1, pA2]
 refine tk ?_ 4 (some 8) rfl rfl ?_ ?_; rotate_left; · (intro w hSw; (try dsimp only at hSw); go_simp <;> with_reducible rfl)
 try simp only [Act.put, pA0, pA1, pA2]
 refine tk ?_ 5 (some 9) rfl rfl ?_ ?_; rotate_left; · (intro w hSw; (try dsimp only at hSw); go_simp <;> with_reducible rfl)
 try simp only [Act.put, pA0, pA1, pA2]
 refine wpAnyH_ready (rs := [3]) (by kernel_rfl) (by simp) ?_
 refine AllReadyH.cons rfl (fun K hK => ?_) AllReadyH.nil
 go_simp
 refine (HOF.out _ HS.out).mono ?_
 rintro r X ⟨rfl, bb1⟩
 have HB := hid (below_call HB.out bb1 HB.out.size); have HS := hid (HS.out.below bb1); have HK := hid (And.intro (cell_keep bb1 HK.out.1) (And.intro (cell_keep bb1 HK.out.2.1) (cell_keep bb1 HK.out.2.2)))
 clear bb1 hHeld
 refine hK.out _ _ ?_ (fun hHeld => ?_); · ((try dsimp only); (exact HK.out))
 clear hK K
 try simp only [Act.put, pA0, pA1, pA2]
 refine wpAnyH_ready (rs := [6]) (by kernel_rfl) (by simp) ?_
 refine AllReadyH.cons rfl (fun K hK => ?_) AllReadyH.nil
 go_simp
 refine (HFR.out _).mono ?_
 rintro r X ⟨rfl, bb1⟩
 have HB := hid (below_call HB.out bb1 HB.out.size); have HS := hid (HS.out.below bb1); have HK := hid (And.intro (cell_keep bb1 HK.out.1) (And.intro (cell_keep bb1 HK.out.2.1) (cell_keep bb1 HK.out.2.2)))
 clear bb1 hHeld
 refine hK.out _ _ ?_ (fun hHeld => ?_); · ((try dsimp only); (exact HK.out))
 clear hK K
 try simp only [Act.put, pA0, pA1, pA2]
 refine tk ?_ 7 (some 11) rfl rfl ?_ ?_; rotate_left; · (intro w hSw; (try dsimp only at hSw); go_simp <;> with_reducible rfl)
 try simp only [Act.put, pA0, pA1, pA2]
 refine tk ?_ 8 (some 3) rfl rfl ?_ ?_; rotate_left; · (intro w hSw; (try dsimp only at hSw); go_simp <;> with_reducible rfl)
 try simp only [Act.put, pA0, pA1, pA2]
 refine wpAnyH_done (by kernel_rfl) ?_ _
 go_wp2
 go_ret
 exact ⟨by simp, HB.out⟩
set_option maxRecDepth 100000 in
set_option maxHeartbeats 2000000 in
theorem every1T (b : List Int) (hb : ∀ x ∈ b, 0 ≤ x ∧ x ≤ 12) (u : Int × Int) (hu : evOf u.1 b = u.2) (hu2 : 0 ≤ u.2 ∧ u.2 ≤ 12) (A : Option Addr) (c bb fb : Nat) (w : World) (hs : Sl2 w A 3 c (b.map tw)) (hc : w.cell? ⟨bb, 0, none⟩ = some (.slice A 3 c))
 (hf : w.cell? ⟨fb, 0, none⟩ = some (.func (.func 106) #[] #[.pointer (some ⟨bb, 0, none⟩)])) :
 Calls Tryz.prog 158 #[btV u, .pointer (some ⟨fb, 0, none⟩)] w fun r w' => r = .returned (.bool false) ∧ Below w.heap.size w w' := by
 have bA := (Below.refl w.heap.size w).alloc (Nat.le_refl _) (.cells #[.int .i64 u.1, .int .i64 u.2] 65)
 have HB := hid bA
 have k0 := cell_keep bA hf
 have H2 := Blk.new w 65 #[.int .i64 u.1, .int .i64 u.2]
 have k1 := H2.cell 0
 have k2 := H2.cell 1
 simp only [List.getElem?_toArray, List.getElem?_cons_zero, List.getElem?_cons_succ] at k1 k2
 have HA := hid (agrees1T b hb u hu hu2 A c bb _ (hs.below bA) (cell_keep bA hc))
 have he : ∀ args W, (callFunc 106 args).run Tryz.prog W = .ok (.enter 106 args) W := fun args W => enters Tryz.func106 (by kernel_rfl) rfl args W
 unfold btV at HA ⊢
 clear hs hb hu hu2 hc H2 bA hf
 go_enter Tryz.func158, Tryz.ntmps158
 go_wp2_with fail
 refine (HA.out).mono ?_; rintro r w2 ⟨rfl, b2⟩
 have HB := hid (below_call HB.out b2 HB.out.size)
 clear b2 HA
 go_wp2
 go_ret
 exact ⟨rfl, HB.out⟩
set_option maxRecDepth 100000 in
set_option maxHeartbeats 2000000 in
theorem everyT (b : List Int) (hb : ∀ x ∈ b, 0 ≤ x ∧ x ≤ 12) (l : List (Int × Int)) (hl : ∀ u ∈ l, evOf u.1 b = u.2 ∧ 0 ≤ u.2 ∧ u.2 ≤ 12) (A B : Option Addr) (c n m bb : Nat) (w : World) (hs : Sl2 w A 3 c (b.map tw)) (hc : w.cell? ⟨bb, 0, none⟩ = some (.slice A 3 c)) (hls : Sl2 w B n m l) :
 Calls Tryz.prog 105 #[.slice B n m, .func (.func 106) #[] #[.pointer (some ⟨bb, 0, none⟩)]] w fun r w' => r = .returned (.bool true) ∧ Below w.heap.size w w' := by
 have bA := (Below.refl w.heap.size w).alloc (Nat.le_refl _) (.cells #[.func (.func 106) #[] #[.pointer (some ⟨bb, 0, none⟩)]] 158)
 have HB := hid bA
 have H3 := Blk.new w 158 #[.func (.func 106) #[] #[.pointer (some ⟨bb, 0, none⟩)]]
 have k0 := H3.cell 0
 simp only [List.getElem?_toArray, List.getElem?_cons_zero] at k0
 have HA := hid (betAny 158 [.pointer (some ⟨w.heap.size, 0, none⟩)] B n m l (fun _ => false) _ #[.pointer (some ⟨w.heap.size, 0, none⟩)] rfl (hls.below bA) (fun u hu W hW => every1T b hb u (hl u hu).1 (hl u hu).2 A c bb w.heap.size W ((hs.below bA).below hW) (cell_keep hW (cell_keep bA hc)) (cell_keep hW k0))
  (fun args W => enters Tryz.func158 (by kernel_rfl) rfl args W) (Nat.le_refl _))
 have hany : (l.any fun _ => false) = false := by simp
 rw [hany] at HA
 clear hs hb hc H3 bA k0 hl hls hany
 go_enter Tryz.func105, Tryz.ntmps105
 go_wp2_with fail
 refine (HA.out).mono ?_; rintro r w2 ⟨rfl, b2⟩
 have HB := hid (below_call HB.out b2 HB.out.size)
 clear b2 HA
 go_wp2
 go_ret
 exact ⟨rfl, HB.out⟩
set_option maxRecDepth 100000 in
set_option maxHeartbeats 4000000 in
theorem agreesT (b : List Int) (hb : ∀ x ∈ b, 0 ≤ x ∧ x ≤ 12) (l : List (Int × Int)) (hl : ∀ u ∈ l, evOf u.1 b = u.2 ∧ 0 ≤ u.2 ∧ u.2 ≤ 12) (h7 : evOf 7 b = 12) (A B : Option Addr) (c n m : Nat) (w : World) (hs : Sl2 w A 3 c (b.map tw)) (hls : Sl2 w B n m l) :
 Calls Tryz.prog 64 #[.agg #[.int .i64 3, .slice B n m], .slice A 3 c] w fun r w' => r = .returned (.bool true) ∧ Below w.heap.size w w' := by
 have b2 := (Below.refl w.heap.size w).alloc (Nat.le_refl _) (.cells #[.int .i64 3, .slice B n m] 114)
 have b3 := b2.alloc b2.size (.cells #[.slice A 3 c] 117)
 have HB := hid b3
 have HS := hid (hs.below b3)
 have H2 := ((Blk.new w 114 #[.int .i64 3, .slice B n m]).alloc (.cells #[.slice A 3 c] 117))
 have H3 := (Blk.new_at (w.alloc (.cells #[.int .i64 3, .slice B n m] 114)) 117 #[.slice A 3 c] (n := w.heap.size + 1) (by simp))
 have k0 := H2.cell 0
 have k1 := H2.cell 1
 have k2 := H3.cell 0
 simp only [List.getElem?_toArray, List.getElem?_cons_zero, List.getElem?_cons_succ] at k0 k1 k2
 have HOF := hid fun W (h : Sl2 W A 3 c (b.map tw)) => ofB 7 b A c W h hb
 rw [h7] at HOF
 have HWH := hid fun W => whole_tw 1 W
 have HEV := hid fun W (hW : Below w.heap.size w W) (hS : Sl2 W A 3 c (b.map tw)) (hc : W.cell? ⟨w.heap.size + 1, 0, none⟩ = some (.slice A 3 c)) => everyT b hb l hl A B c n m (w.heap.size + 1) W hS hc (hls.below hW)
 unfold frV at HOF HWH
 rw [show (12 * 1 : Int) = 12 from rfl] at HWH
 generalize tw 12 = P at *
 clear hs hls hl hb h7 H2 H3 b2 b3
 go_enter Tryz.func64, Tryz.ntmps64
 go_wp2_with fail
 generalize (w.alloc (.cells #[.int .i64 3, .slice B n m] 114)).alloc (.cells #[.slice A 3 c] 117) = X at *
 have HK := hid (And.intro k0 (And.intro k1 k2))
 clear k0 k1 k2
 refine wp_region_held_drew (S := (fun w' => w'.cell? ⟨w.heap.size, 0, none⟩ = some (.int .i64 3) ∧ w'.cell? ⟨w.heap.size, 1, none⟩ = some (.slice B n m) ∧ w'.cell? ⟨w.heap.size + 1, 0, none⟩ = some (.slice A 3 c))) (by kernel_rfl) (by (try dsimp only); (exact HK.out)) (fun hHeld => ?_)
 have bd := (Below.refl X.heap.size X).drew
 have HB := hid (below_call HB.out bd HB.out.size); have HS := hid (HS.out.below bd); have HK := hid (And.intro (cell_keep bd HK.out.1) (And.intro (cell_keep bd HK.out.2.1) (cell_keep bd HK.out.2.2)))
 clear bd
 generalize X.drew = X1 at *
 obtain ⟨X, rfl⟩ : ∃ Y, Y = X1 := ⟨X1, rfl⟩
 refine tk ?_ 0 (some 5) rfl rfl ?_ ?_; rotate_left; · (intro w hSw; (try dsimp only at hSw); go_simp <;> with_reducible rfl)
 try simp only [Act.put, pA0, pA1, pA2]
 refine tk ?_ 1 (some 6) rfl rfl ?_ ?_; rotate_left; · (intro w hSw; (try dsimp only at hSw); go_simp <;> with_reducible rfl)
 try simp only [Act.put, pA0, pA1, pA2]
 refine tk ?_ 2 (some 7) rfl rfl ?_ ?_; rotate_left; · (intro w hSw; (try dsimp only at hSw); go_simp <;> with_reducible rfl)
 try simp only [Act.put, pA0, pA1, pA2]
 refine tk ?_ 3 (some 8) rfl rfl ?_ ?_; rotate_left; · (intro w hSw; (try dsimp only at hSw); go_simp <;> with_reducible rfl)
 try simp only [Act.put, pA0, pA1, pA2]
 refine tk ?_ 4 (some 9) rfl rfl ?_ ?_; rotate_left; · (intro w hSw; (try dsimp only at hSw); go_simp <;> with_reducible rfl)
 try simp only [Act.put, pA0, pA1, pA2]
 refine wpAnyH_ready (rs := [5]) (by kernel_rfl) (by simp) ?_
 refine AllReadyH.cons rfl (fun K hK => ?_) AllReadyH.nil
 go_simp
 refine (HOF.out _ HS.out).mono ?_
 rintro r X ⟨rfl, bb1⟩
 have HB := hid (below_call HB.out bb1 HB.out.size); have HS := hid (HS.out.below bb1); have HK := hid (And.intro (cell_keep bb1 HK.out.1) (And.intro (cell_keep bb1 HK.out.2.1) (cell_keep bb1 HK.out.2.2)))
 clear bb1 hHeld
 refine hK.out _ _ ?_ (fun hHeld => ?_); · ((try dsimp only); (exact HK.out))
 clear hK K
 try simp only [Act.put, pA0, pA1, pA2]
 refine wpAnyH_ready (rs := [6]) (by kernel_rfl) (by simp) ?_
 refine AllReadyH.cons rfl (fun K hK => ?_) AllReadyH.nil
 go_simp
 refine (HWH.out _).mono ?_
 rintro r X ⟨rfl, bb1⟩
 have HB := hid (below_call HB.out bb1 HB.out.size); have HS := hid (HS.out.below bb1); have HK := hid (And.intro (cell_keep bb1 HK.out.1) (And.intro (cell_keep bb1 HK.out.2.1) (cell_keep bb1 HK.out.2.2)))
 clear bb1 hHeld
 refine hK.out _ _ ?_ (fun hHeld => ?_); · ((try dsimp only); (exact HK.out))
 clear hK K
 try simp only [Act.put, pA0, pA1, pA2]
 refine tk ?_ 7 (some 12) rfl rfl ?_ ?_; rotate_left; · (intro w hSw; (try dsimp only at hSw); go_simp <;> with_reducible rfl)
 try simp only [Act.put, pA0, pA1, pA2]
 refine wpAnyH_done (by kernel_rfl) ?_ _
 have e1 : (P.1 == P.1 && P.2 == P.2) = true := by simp
 have k1 := HK.out.2.1
 have HEV2 := hid (HEV.out _ HB.out HS.out HK.out.2.2)
 clear HEV HOF HWH hHeld
 go_wp2_with fail
 refine (HEV2.out).mono ?_
 rintro r w5 ⟨rfl, b5⟩
 have HB5 := hid (below_call HB.out b5 HB.out.size)
 clear b5 HEV2
 go_wp2
 go_ret
 exact ⟨rfl, HB5.out⟩
set_option maxRecDepth 100000 in
set_option maxHeartbeats 4000000 in
/-- A belief that is a corner agrees with the bets. -/
theorem AgreesT (b : List Int) (l : List (Int × Int)) (hok : BetOk l) (hag : Agr l b) (A B : Option Addr) (c n m : Nat) (w : World) (hs : Sl2 w A 3 c (b.map tw)) (hls : Sl2 w B n m l) :
 Calls Tryz.prog 32 #[.int .i64 3, .slice B n m, .slice A 3 c] w fun r w' => r = .returned (.tuple #[.bool true, .int .i64 0]) ∧ Below w.heap.size w w' := by
 have hb := agr_bd hag
 have hev : (∀ u ∈ l, evOf u.1 b = u.2 ∧ 0 ≤ u.2 ∧ u.2 ≤ 12) ∧ evOf 7 b = 12 := by
  have h0 := agr_ev hag
  obtain ⟨b0, b1, b2, rfl, n0, n1, n2, hsm, hr⟩ := hag
  refine ⟨fun u hu => ?_, ?_⟩
  · have h1 := hr u hu
    have h2 := h0 u.1
    have h3 : evOf u.1 [b0, b1, b2] = u.2 := h1
    omega
  · show bitV 7 (0 : Nat) * b0 + bitV 7 (1 : Nat) * b1 + bitV 7 (2 : Nat) * b2 = 12
    rw [show bitV 7 (0 : Nat) = 1 by decide, show bitV 7 (1 : Nat) = 1 by decide, show bitV 7 (2 : Nat) = 1 by decide]
    omega
 have b2 := (Below.refl w.heap.size w).alloc (Nat.le_refl _) (.cells #[.int .i64 3, .slice B n m] 114)
 have HB := hid b2
 have H2 := Blk.new w 114 #[.int .i64 3, .slice B n m]
 have k0 := H2.cell 0
 have k1 := H2.cell 1
 simp only [List.getElem?_toArray, List.getElem?_cons_zero, List.getElem?_cons_succ] at k0 k1
 have HV := hid (validT B n m l _ (hls.below b2) hok)
 have HC := hid fun W (hW : Below w.heap.size w W) => commonT b A c W (hs.below hW) hb
 have HAG := hid fun W (hW : Below w.heap.size w W) => agreesT b hb l hev.1 hev.2 A B c n m W (hs.below hW) (hls.below hW)
 clear hs hls hok hag hb hev H2 b2
 go_enter Tryz.func32, Tryz.ntmps32
 go_wp2_with fail
 refine (HV.out).mono ?_; rintro r w1 ⟨rfl, b1⟩
 have HB := hid (below_call HB.out b1 HB.out.size)
 have k0 := cell_keep b1 k0
 have k1 := cell_keep b1 k1
 have HC2 := hid (HC.out _ HB.out)
 clear HV b1 HC
 go_wp2_with fail
 refine (HC2.out).mono ?_; rintro r w2 ⟨rfl, b2⟩
 have HB := hid (below_call HB.out b2 HB.out.size)
 have k0 := cell_keep b2 k0
 have k1 := cell_keep b2 k1
 have HA2 := hid (HAG.out _ HB.out)
 clear HC2 b2 HAG
 go_wp2_with fail
 refine (HA2.out).mono ?_; rintro r w3 ⟨rfl, b3⟩
 have HB := hid (below_call HB.out b3 HB.out.size)
 clear HA2 b3
 go_wp2
 go_ret2
 exact ⟨rfl, HB.out⟩
end Go.Proofs.YtapeledneokgpaaGreatDoor
