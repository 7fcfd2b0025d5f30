/- Texts of this proof, one behind the other; each says its condition at its head. -/
import Derived.Test.YtnibidmlkbcfkaaGreatDoorT33
import Derived.Test.YtnibidmlkbcfkaaGreatDoorT28
import Derived.Test.YtnibidmlkbcfkaaGreatDoorT7
import Derived.Test.YtnibidmlkbcfkaaGreatDoorT5
import Derived.Test.YtnibidmlkbcfkaaGreatDoorT3
import Derived.Test.YtnibidmlkbcfkaaGreatDoorT31
import Derived.Test.YtnibidmlkbcfkaaGreatDoorT32
namespace Go.Proofs.YtnibidmlkbcfkaaGreatDoor
/- Walks of order's frac, before, Count and Chance. Condition: an order of one to six elements; the library's table stands. -/
section
open Go.RowKit Go.Maps
attribute [local go_sem ↓] shr_v and_shr
set_option maxRecDepth 100000 in
set_option maxHeartbeats 1000000 in
theorem fracO (p q : Nat) (hp : p ≤ 100000) (hq : q ≤ 100000) (h0 : 0 < q) (w : World) :
 Calls Tryz.prog 45 #[.int .i64 (p : Nat), .int .i64 (q : Nat)] w fun e w' => e = .returned (.agg #[.int .i64 ((p / Nat.gcd p q : Nat) : Int), .int .i64 ((q / Nat.gcd p q : Nat) : Int)]) ∧ Below w.heap.size w w' := by
 obtain ⟨G, hG⟩ : ∃ G, G = Nat.gcd p q := ⟨_, rfl⟩
 rw [← hG]
 have hGp : 0 < G := by rw [hG]; exact Nat.gcd_pos_of_pos_right p h0
 have HG := hid hG
 have HGP := hid hGp
 have HPQ := hid (And.intro hp hq)
 have H4 := hid (Blk.new w 48 #[.int .i64 0, .int .i64 0])
 have HB := hid ((Below.refl w.heap.size w).alloc (Nat.le_refl _) (.cells #[.int .i64 0, .int .i64 0] 48))
 clear hG hGp h0
 go_enter Tryz.func45, Tryz.ntmps45
 go_wp2
 go_loopg [5, 6] q (fun gk u v wr => ∃ x y : Nat, gk = y ∧ u = .int .i64 (x : Nat) ∧ v = .int .i64 (y : Nat) ∧ Hid (G = Nat.gcd x y) ∧ Hid (x ≤ 100000 ∧ y ≤ 100000) ∧ Hid (Blk wr w.heap.size 48 #[.int .i64 0, .int .i64 0]) ∧ Hid (Below w.heap.size w wr))
 case atStart => exact ⟨p, q, rfl, rfl, rfl, HG, HPQ, H4, HB⟩
 case round =>
  clear HG H4 HB
  obtain ⟨x, y, hk, rfl, rfl, HG, HXY, H4, HB⟩ := hrel
  have HK := hid hk
  clear hk
  by_cases h0 : y = 0
  · subst h0
    have hGx : G = x := by have := HG.out; rwa [Nat.gcd_zero_right] at this
    subst hGx
    have hG0 : (((G : Nat) : Int) == 0) = false := by have := HGP.out; rw [beq_eq_false_iff_ne]; omega
    have hGn : ¬ ((G : Nat) : Int) = 0 := by have := HGP.out; omega
    have hGn2 : ¬ G = 0 := by have := HGP.out; omega
    have t1 : (p : Int).tdiv (G : Int) = ((p / G : Nat) : Int) := by rw [Int.tdiv_eq_ediv_of_nonneg (by omega)]; rfl
    have t2 : (q : Int).tdiv (G : Int) = ((q / G : Nat) : Int) := by rw [Int.tdiv_eq_ediv_of_nonneg (by omega)]; rfl
    have hpd : p / G ≤ p := Nat.div_le_self _ _
    have hqd : q / G ≤ q := Nat.div_le_self _ _
    obtain ⟨pg, hpg⟩ : ∃ pg, pg = p / G := ⟨_, rfl⟩
    obtain ⟨qg, hqg⟩ : ∃ qg, qg = q / G := ⟨_, rfl⟩
    rw [← hpg] at t1 hpd
    rw [← hqg] at t2 hqd
    have HE := hid (And.intro hpg hqg)
    clear hpg hqg
    have f0 := H4.out.free 0
    have f1 := H4.out.free 1
    have r0 := H4.out.cell 0
    have r1 := H4.out.cell 1
    simp only [List.getElem?_toArray, List.getElem?_cons_zero, List.getElem?_cons_succ] at r0 r1
    have w1 : wrap64 (pg : Int) = (pg : Int) := by have := HPQ.out; simp only [wrap64]; omega
    have w2 : wrap64 (qg : Int) = (qg : Int) := by have := HPQ.out; simp only [wrap64]; omega
    go_wp2_with fail
    go_region
    all_goals go_wp2
    all_goals exact bodyPost_ret (results_row1 rfl _ _ w.heap.size 48 #[.int .i64 (pg : Nat), .int .i64 (qg : Nat)] (0, 0) _ rfl ((H4.out.drew.set 0 _).set 1 _) Tryz.underlying48 rfl (by kernel_rfl)) rfl ⟨by rw [HE.out.1, HE.out.2], (HB.out.drew.setCell (p := ⟨w.heap.size, 0, none⟩) (Nat.le_refl _) _).setCell (p := ⟨w.heap.size, 1, none⟩) (Nat.le_refl _) _⟩
  · have hy0 : ((y : Int) == 0) = false := by rw [beq_eq_false_iff_ne]; omega
    have hy1 : (y == 0) = false := by rw [beq_eq_false_iff_ne]; exact h0
    have hyn : ¬ (y : Int) = 0 := by omega
    have HY := hid (show 0 < y by omega)
    have tm : (x : Int).tmod (y : Int) = ((x % y : Nat) : Int) := by rw [Int.tmod_eq_emod_of_nonneg (by omega)]; rfl
    have hml : x % y < y := Nat.mod_lt _ (by omega)
    have HG2 := hid (show G = Nat.gcd y (x % y) by rw [HG.out, Nat.gcd_comm x y, Nat.gcd_rec y x, Nat.gcd_comm])
    have HML := hid hml
    have HX2 := hid (show y ≤ 100000 ∧ x % y ≤ 100000 by have := HXY.out; omega)
    generalize x % y = z at *
    clear hml
    go_wp2_with fail
    go_region
    all_goals go_wp2
    all_goals go_roundg z
    case measure => have := HK.out; have := HML.out; omega
    case rel => exact ⟨y, z, rfl, rfl, rfl, HG2, HX2, hid H4.out.drew, hid HB.out.drew⟩
set_option maxRecDepth 100000 in
set_option maxHeartbeats 2000000 in
theorem beforeF (n : Nat) (a : Nat → Nat → Bool) (i j : Nat) (hn1 : 1 ≤ n) (hn : n ≤ 6) (ho : OrdOk n a) (hi : i < n) (hj : j < n) (hij : i ≠ j) (w : World) (hT : Tab w) :
 Calls Tryz.prog 46 #[.agg (ordC n a), .int .i64 (i : Nat), .int .i64 (j : Nat)] w fun e w' => e = .returned (.int .i64 (befW n a i j : Nat)) ∧ Below w.heap.size w w' := by
 have bA := (Below.refl w.heap.size w).alloc (Nat.le_refl _) (.cells (ordC n a) 78)
 have HB := hid bA
 have H3 := hid (Blk.new w 78 (ordC n a))
 have ci := ordC_at H3.out (k := i) (by omega)
 have hbit := oc_bit a hi hj
 have fj : Fits (j : Int) := ⟨by omega, by omega⟩
 have hi6 : (i : Int) < 6 := by omega
 have HTA := hid (hT.below bA)
 have HCN := hid fun W (h : Tab W) => countedF n a hn1 hn ho W h
 have HFR := hid fun q hq W => freeF n a i j hn hi hj q hq W
 have HAD := hid fun W (h : Tab W) => ordAdd n a i j hn hi hj W h
 have HCA := hid fun (h1 : a i j = false) (h2 : a j i = false) W (h : Tab W) => countedF n (addA a i j) hn1 hn (addA_ok ho hi hj hij h1 h2) W h
 have o0 := H3.out.cell 0
 have o1 := H3.out.cell 1
 have o2 := H3.out.cell 2
 have o3 := H3.out.cell 3
 have o4 := H3.out.cell 4
 have o5 := H3.out.cell 5
 have o6 := H3.out.cell 6
 simp only [ordC, List.getElem?_toArray, List.getElem?_cons_zero, List.getElem?_cons_succ] at o0 o1 o2 o3 o4 o5 o6
 generalize hoc : oc n a i = oi at *
 clear hT bA ho
 unfold befW
 unfold ordC at HB HCN HFR HAD HCA HTA ci ⊢
 cases h1 : a i j with
 | true =>
  rw [h1, if_pos rfl] at hbit
  have hb1 : (bitV oi (j : Int) == 1) = true := by rw [hbit]; rfl
  rw [if_pos rfl]
  clear HFR HAD HCA hbit hoc
  generalize allW n a = aw at *
  go_enter Tryz.func46, Tryz.ntmps46
  go_wp2_with fail
  refine (HCN.out _ HTA.out).mono ?_; rintro e w2 ⟨rfl, b2⟩
  have HB2 := hid (below_call HB.out b2 HB.out.size)
  clear b2
  go_wp2
  go_ret
  exact ⟨rfl, HB2.out⟩
 | false =>
  rw [h1, if_neg Bool.false_ne_true] at hbit
  have hb1 : (bitV oi (j : Int) == 1) = false := by rw [hbit]; rfl
  rw [if_neg Bool.false_ne_true]
  cases h2 : a j i with
  | true =>
   rw [if_pos rfl]
   have HF := hid fun W => HFR.out false (by simp [h2]) W
   clear HFR HAD HCA HCN hbit hoc
   go_enter Tryz.func46, Tryz.ntmps46
   go_wp2_with fail
   refine (HF.out _).mono ?_; rintro e w2 ⟨rfl, b2⟩
   have HB2 := hid (below_call HB.out b2 HB.out.size)
   clear b2
   go_wp2
   go_ret
   exact ⟨rfl, HB2.out⟩
  | false =>
   rw [if_neg Bool.false_ne_true]
   have HF := hid fun W => HFR.out true (by simp [h1, h2, hij]) W
   have HCA := hid fun W h => HCA.out h1 h2 W h
   clear HFR HCN hbit hoc
   generalize allW n (addA a i j) = aw at *
   generalize oc n (addA a i j) 0 = z0 at *
   generalize oc n (addA a i j) 1 = z1 at *
   generalize oc n (addA a i j) 2 = z2 at *
   generalize oc n (addA a i j) 3 = z3 at *
   generalize oc n (addA a i j) 4 = z4 at *
   generalize oc n (addA a i j) 5 = z5 at *
   go_enter Tryz.func46, Tryz.ntmps46
   go_wp2_with fail
   refine (HF.out _).mono ?_; rintro e w2 ⟨rfl, b2⟩
   have HB2 := hid (below_call HB.out b2 HB.out.size)
   have o0 := cell_keep b2 o0
   have o1 := cell_keep b2 o1
   have o2 := cell_keep b2 o2
   have o3 := cell_keep b2 o3
   have o4 := cell_keep b2 o4
   have o5 := cell_keep b2 o5
   have o6 := cell_keep b2 o6
   have HT2 := hid (HTA.out.below b2)
   have HA2 := hid (HAD.out w2 HT2.out)
   clear b2 HF HAD
   go_wp2_with fail
   refine (HA2.out).mono ?_; rintro e w3 ⟨rfl, b3⟩
   have HB3 := hid (below_call HB2.out b3 HB2.out.size)
   have HC3 := hid (HCA.out w3 (HT2.out.below b3))
   clear b3 HA2
   go_wp2_with fail
   refine (HC3.out).mono ?_; rintro e w4 ⟨rfl, b4⟩
   have HB4 := hid (below_call HB3.out b4 HB3.out.size)
   clear b4 HC3
   go_wp2
   go_ret
   exact ⟨rfl, HB4.out⟩
set_option maxRecDepth 100000 in
set_option maxHeartbeats 2000000 in
theorem ordCountF (n : Nat) (a : Nat → Nat → Bool) (hn1 : 1 ≤ n) (hn : n ≤ 6) (ho : OrdOk n a) (A : Option Addr) (c : Nat) (w : World) (hs : Sl w A n c (intV (ordL n a))) (hT : Tab w) :
 Calls Tryz.prog 16 #[.slice A n c] w fun e w' => e = .returned (.tuple #[.int .i64 (allW n a : Nat), .int .i64 0]) ∧ Below w.heap.size w w' := by
 have HR := hid (ordRead n a A c w hn1 hn ho hs hT)
 have HT := hid hT
 have HCN := hid fun W (h : Tab W) => countedF n a hn1 hn ho W h
 unfold ordC at HR HCN
 clear hs hT ho
 generalize allW n a = aw at *
 generalize oc n a 0 = z0 at *
 generalize oc n a 1 = z1 at *
 generalize oc n a 2 = z2 at *
 generalize oc n a 3 = z3 at *
 generalize oc n a 4 = z4 at *
 generalize oc n a 5 = z5 at *
 go_enter Tryz.func16, Tryz.ntmps16
 go_wp2_with fail
 refine (HR.out).mono ?_; rintro e w2 ⟨rfl, b2⟩
 have bA := b2.alloc b2.size (.cells #[.int .i64 (n : Nat), .int .i64 z0, .int .i64 z1, .int .i64 z2, .int .i64 z3, .int .i64 z4, .int .i64 z5] 78)
 have HB := hid bA
 have HC := hid (HCN.out _ (HT.out.below bA))
 have H3 := Blk.new w2 78 #[.int .i64 (n : Nat), .int .i64 z0, .int .i64 z1, .int .i64 z2, .int .i64 z3, .int .i64 z4, .int .i64 z5]
 have o0 := H3.cell 0
 have o1 := H3.cell 1
 have o2 := H3.cell 2
 have o3 := H3.cell 3
 have o4 := H3.cell 4
 have o5 := H3.cell 5
 have o6 := H3.cell 6
 simp only [List.getElem?_toArray, List.getElem?_cons_zero, List.getElem?_cons_succ] at o0 o1 o2 o3 o4 o5 o6
 clear HR b2 bA H3 HCN
 go_wp2_with fail
 refine (HC.out).mono ?_; rintro e w3 ⟨rfl, b3⟩
 have HB3 := hid (below_call HB.out b3 HB.out.size)
 clear b3 HC
 go_wp2
 go_ret2
 exact ⟨rfl, HB3.out⟩
end
/- Walk of order's Chance. Condition: an order of one to six elements; the library's table stands. -/
section
open Go.RowKit Go.Maps
/-- The chance of one before another, in lowest terms. -/
def chaN (n : Nat) (a : Nat → Nat → Bool) (i j : Nat) : Nat × Nat := (befW n a i j / Nat.gcd (befW n a i j) (allW n a), allW n a / Nat.gcd (befW n a i j) (allW n a))
set_option maxRecDepth 100000 in
set_option maxHeartbeats 4000000 in
theorem chanceNo (n : Nat) (a : Nat → Nat → Bool) (i : Nat) (hn1 : 1 ≤ n) (hn : n ≤ 6) (ho : OrdOk n a) (hi : i < n) (A : Option Addr) (c : Nat) (w : World) (hs : Sl w A n c (intV (ordL n a))) (hT : Tab w) :
 Calls Tryz.prog 18 #[.slice A n c, .int .i64 (i : Nat), .int .i64 (i : Nat)] w fun e w' => e = .returned (.tuple #[.agg #[.int .i64 0, .int .i64 0], .int .i64 2]) ∧ Below w.heap.size w w' := by
 have b0 := (Below.refl w.heap.size w).alloc (Nat.le_refl _) (.cells #[.int .i64 0, .int .i64 0] 48)
 have HR := hid (ordRead n a A c _ hn1 hn ho (hs.below b0) (hT.below b0))
 have HEL := hid fun W => elementF n a i hi W
 have H6 := hid (Blk.new w 48 #[.int .i64 0, .int .i64 0])
 have HB := hid b0
 unfold ordC at HR HEL
 clear hs hT ho b0
 generalize oc n a 0 = z0 at *
 generalize oc n a 1 = z1 at *
 generalize oc n a 2 = z2 at *
 generalize oc n a 3 = z3 at *
 generalize oc n a 4 = z4 at *
 generalize oc n a 5 = z5 at *
 have hii : ((i : Int) == (i : Int)) = true := by simp
 go_enter Tryz.func18, Tryz.ntmps18
 go_wp2_with fail
 refine (HR.out).mono ?_; rintro e w2 ⟨rfl, b2⟩
 have bA := b2.alloc b2.size (.cells #[.int .i64 (n : Nat), .int .i64 z0, .int .i64 z1, .int .i64 z2, .int .i64 z3, .int .i64 z4, .int .i64 z5] 78)
 have H6 := hid (H6.out.keep bA)
 have HB := hid (below_call HB.out bA HB.out.size)
 have H8 := hid (Blk.new w2 78 #[.int .i64 (n : Nat), .int .i64 z0, .int .i64 z1, .int .i64 z2, .int .i64 z3, .int .i64 z4, .int .i64 z5])
 have o0 := H8.out.cell 0
 have o1 := H8.out.cell 1
 have o2 := H8.out.cell 2
 have o3 := H8.out.cell 3
 have o4 := H8.out.cell 4
 have o5 := H8.out.cell 5
 have o6 := H8.out.cell 6
 simp only [List.getElem?_toArray, List.getElem?_cons_zero, List.getElem?_cons_succ] at o0 o1 o2 o3 o4 o5 o6
 clear HR b2 bA
 go_wp2_with fail
 refine (HEL.out _).mono ?_; rintro e w3 ⟨rfl, b3⟩
 have H6 := hid (H6.out.keep b3); have HB := hid (below_call HB.out b3 HB.out.size); have H8 := hid (H8.out.keep b3)
 have o0 := H8.out.cell 0
 have o1 := H8.out.cell 1
 have o2 := H8.out.cell 2
 have o3 := H8.out.cell 3
 have o4 := H8.out.cell 4
 have o5 := H8.out.cell 5
 have o6 := H8.out.cell 6
 simp only [List.getElem?_toArray, List.getElem?_cons_zero, List.getElem?_cons_succ] at o0 o1 o2 o3 o4 o5 o6
 clear b3
 go_wp2_with fail
 refine (HEL.out _).mono ?_; rintro e w4 ⟨rfl, b4⟩
 have H6 := hid (H6.out.keep b4); have HB := hid (below_call HB.out b4 HB.out.size)
 clear b4 HEL o0 o1 o2 o3 o4 o5 o6
 have f0 := H6.out.free 0
 have f1 := H6.out.free 1
 have r0 := H6.out.cell 0
 have r1 := H6.out.cell 1
 simp only [List.getElem?_toArray, List.getElem?_cons_zero, List.getElem?_cons_succ] at r0 r1
 go_wp2
 exact bodyPost_ret (results_row_tmp rfl _ _ w.heap.size 48 #[.int .i64 0, .int .i64 0] (0, 0) _ rfl ((H6.out.set 0 _).set 1 _) Tryz.underlying48 rfl (by kernel_rfl)) rfl ⟨rfl, (HB.out.setCell (p := ⟨w.heap.size, 0, none⟩) (Nat.le_refl _) _).setCell (p := ⟨w.heap.size, 1, none⟩) (Nat.le_refl _) _⟩
set_option maxRecDepth 100000 in
set_option maxHeartbeats 4000000 in
theorem chanceF (n : Nat) (a : Nat → Nat → Bool) (i j : Nat) (hn1 : 1 ≤ n) (hn : n ≤ 6) (ho : OrdOk n a) (hi : i < n) (hj : j < n) (hij : i ≠ j) (A : Option Addr) (c : Nat) (w : World) (hs : Sl w A n c (intV (ordL n a))) (hT : Tab w) :
 Calls Tryz.prog 18 #[.slice A n c, .int .i64 (i : Nat), .int .i64 (j : Nat)] w fun e w' => e = .returned (.tuple #[.agg #[.int .i64 ((chaN n a i j).1 : Nat), .int .i64 ((chaN n a i j).2 : Nat)], .int .i64 0]) ∧ Below w.heap.size w w' := by
 have b0 := (Below.refl w.heap.size w).alloc (Nat.le_refl _) (.cells #[.int .i64 0, .int .i64 0] 48)
 have HR := hid (ordRead n a A c _ hn1 hn ho (hs.below b0) (hT.below b0))
 have HEL := hid fun W => elementF n a i hi W
 have HEJ := hid fun W => elementF n a j hj W
 have HT := hid hT
 have HBF := hid fun W (h : Tab W) => beforeF n a i j hn1 hn ho hi hj hij W h
 have HCN := hid fun W (h : Tab W) => countedF n a hn1 hn ho W h
 have hbs := befW_sum hn ho hi hj hij
 have hbd := allW_bd (a := a) hn
 have hpo := allW_pos hn ho
 have HFO := hid fun W => fracO (befW n a i j) (allW n a) (by omega) (by omega) hpo W
 have HCH := hid (show chaN n a i j = (befW n a i j / Nat.gcd (befW n a i j) (allW n a), allW n a / Nat.gcd (befW n a i j) (allW n a)) from rfl)
 have H6 := hid (Blk.new w 48 #[.int .i64 0, .int .i64 0])
 have HB := hid b0
 rw [HCH.out]
 simp only
 unfold ordC at HR HEL HEJ HBF HCN
 clear hs hT ho b0 hbs hbd hpo HCH
 generalize befW n a i j / Nat.gcd (befW n a i j) (allW n a) = fp at *
 generalize allW n a / Nat.gcd (befW n a i j) (allW n a) = fq at *
 generalize befW n a i j = bw at *
 generalize allW n a = aw at *
 generalize oc n a 0 = z0 at *
 generalize oc n a 1 = z1 at *
 generalize oc n a 2 = z2 at *
 generalize oc n a 3 = z3 at *
 generalize oc n a 4 = z4 at *
 generalize oc n a 5 = z5 at *
 have hii : ((i : Int) == (j : Int)) = false := by rw [beq_eq_false_iff_ne]; omega
 have hii2 : (i == j) = false := by rw [beq_eq_false_iff_ne]; exact hij
 go_enter Tryz.func18, Tryz.ntmps18
 go_wp2_with fail
 refine (HR.out).mono ?_; rintro e w2 ⟨rfl, b2⟩
 have bA := b2.alloc b2.size (.cells #[.int .i64 (n : Nat), .int .i64 z0, .int .i64 z1, .int .i64 z2, .int .i64 z3, .int .i64 z4, .int .i64 z5] 78)
 have H6 := hid (H6.out.keep bA)
 have HB := hid (below_call HB.out bA HB.out.size)
 have H8 := hid (Blk.new w2 78 #[.int .i64 (n : Nat), .int .i64 z0, .int .i64 z1, .int .i64 z2, .int .i64 z3, .int .i64 z4, .int .i64 z5])
 have o0 := H8.out.cell 0
 have o1 := H8.out.cell 1
 have o2 := H8.out.cell 2
 have o3 := H8.out.cell 3
 have o4 := H8.out.cell 4
 have o5 := H8.out.cell 5
 have o6 := H8.out.cell 6
 simp only [List.getElem?_toArray, List.getElem?_cons_zero, List.getElem?_cons_succ] at o0 o1 o2 o3 o4 o5 o6
 have HW2 := hid (show w.heap.size < w2.heap.size from Nat.lt_of_lt_of_le (by simp) b2.size)
 clear HR b2 bA
 go_wp2_with fail
 refine (HEL.out _).mono ?_; rintro e w3 ⟨rfl, b3⟩
 have H6 := hid (H6.out.keep b3); have HB := hid (below_call HB.out b3 HB.out.size); have H8 := hid (H8.out.keep b3)
 have o0 := H8.out.cell 0
 have o1 := H8.out.cell 1
 have o2 := H8.out.cell 2
 have o3 := H8.out.cell 3
 have o4 := H8.out.cell 4
 have o5 := H8.out.cell 5
 have o6 := H8.out.cell 6
 simp only [List.getElem?_toArray, List.getElem?_cons_zero, List.getElem?_cons_succ] at o0 o1 o2 o3 o4 o5 o6
 clear b3
 go_wp2_with fail
 refine (HEJ.out _).mono ?_; rintro e w4 ⟨rfl, b4⟩
 have H8 := hid (H8.out.keep b4)
 have H6 := hid (H6.out.keep b4); have HB := hid (below_call HB.out b4 HB.out.size)
 clear b4 HEL HEJ o0 o1 o2 o3 o4 o5 o6
 go_wp2_with fail
 have HTW := hid (HT.out.below HB.out)
 refine wp_region_held_drew (S := (fun w' => ∀ i, i < 7 → w'.cell? ⟨w2.heap.size, i, none⟩ = (#[Value.int .i64 (n : Nat), .int .i64 z0, .int .i64 z1, .int .i64 z2, .int .i64 z3, .int .i64 z4, .int .i64 z5] : Array Value)[i]?)) (by kernel_rfl) (by (try dsimp only); (first | exact fun i _ => H8.out.cell i | exact fun i _ => H8.out.drew.cell i)) (fun hHeld => ?_)
 have H8 := hid H8.out.drew; have H6 := hid H6.out.drew; have HB := hid HB.out.drew; have HTW := hid (HTW.out.below (Below.refl _ w4).drew)
 generalize w4.drew = X1 at *
 obtain ⟨X, rfl⟩ : ∃ Y, Y = X1 := ⟨X1, rfl⟩
 have o0 := H8.out.cell 0
 have o1 := H8.out.cell 1
 have o2 := H8.out.cell 2
 have o3 := H8.out.cell 3
 have o4 := H8.out.cell 4
 have o5 := H8.out.cell 5
 have o6 := H8.out.cell 6
 refine tk ?_ 0 (some 35) rfl rfl ?_ ?_; rotate_left; · (intro w hSw; (try dsimp only at hSw); go_simp <;> with_reducible rfl)
 try simp only [Act.put,qA,qB,qC]
 refine tk ?_ 1 (some 36) rfl rfl ?_ ?_; rotate_left; · (intro w hSw; (try dsimp only at hSw); go_simp <;> with_reducible rfl)
 try simp only [Act.put,qA,qB,qC]
 refine tk ?_ 2 (some 37) rfl rfl ?_ ?_; rotate_left; · (intro w hSw; (try dsimp only at hSw); go_simp <;> with_reducible rfl)
 try simp only [Act.put,qA,qB,qC]
 have o0 := H8.out.cell 0
 have o1 := H8.out.cell 1
 have o2 := H8.out.cell 2
 have o3 := H8.out.cell 3
 have o4 := H8.out.cell 4
 have o5 := H8.out.cell 5
 have o6 := H8.out.cell 6
 refine tk ?_ 4 (some 39) rfl rfl ?_ ?_; rotate_left; · (intro w hSw; (try dsimp only at hSw); go_simp <;> with_reducible rfl)
 try simp only [Act.put,qA,qB,qC]
 refine st 3 rfl fun K hK => ?_
 go_simp
 refine (HBF.out _ HTW.out).mono ?_; rintro e X ⟨rfl, bb⟩
 have H8 := hid (H8.out.keep bb); have H6 := hid (H6.out.keep bb); have HB := hid (below_call HB.out bb HB.out.size); have HTW := hid (HTW.out.below bb)
 clear bb hHeld
 refine hK.out _ _ ?_ (fun hHeld => ?_); · ((try dsimp only); (first | exact fun i _ => H8.out.cell i | exact fun i _ => H8.out.drew.cell i))
 clear hK K
 try simp only [Act.put,qA,qB,qC]
 refine st 5 rfl fun K hK => ?_
 go_simp
 refine (HCN.out _ HTW.out).mono ?_; rintro e X ⟨rfl, bb⟩
 have H8 := hid (H8.out.keep bb); have H6 := hid (H6.out.keep bb); have HB := hid (below_call HB.out bb HB.out.size); have HTW := hid (HTW.out.below bb)
 clear bb hHeld
 refine hK.out _ _ ?_ (fun hHeld => ?_); · ((try dsimp only); (first | exact fun i _ => H8.out.cell i | exact fun i _ => H8.out.drew.cell i))
 clear hK K
 try simp only [Act.put,qA,qB,qC]
 refine st 6 rfl fun K hK => ?_
 go_simp
 refine (HFO.out _).mono ?_; rintro e X ⟨rfl, bb⟩
 have H8 := hid (H8.out.keep bb); have H6 := hid (H6.out.keep bb); have HB := hid (below_call HB.out bb HB.out.size); have HTW := hid (HTW.out.below bb)
 clear bb hHeld
 refine hK.out _ _ ?_ (fun hHeld => ?_); · ((try dsimp only); (first | exact fun i _ => H8.out.cell i | exact fun i _ => H8.out.drew.cell i))
 clear hK K
 try simp only [Act.put,qA,qB,qC]
 refine st 7 rfl fun K hK => ?_
 have f0 := H6.out.free 0
 have f1 := H6.out.free 1
 have r0 := H6.out.cell 0
 have r1 := H6.out.cell 1
 simp only [List.getElem?_toArray, List.getElem?_cons_zero, List.getElem?_cons_succ] at r0 r1
 go_simp
 have H8 := hid ((H8.out.far (p := ⟨w.heap.size, 0, none⟩) (by have := HW2.out; simp; omega) (.int .i64 (fp : Nat))).far (p := ⟨w.heap.size, 1, none⟩) (by have := HW2.out; simp; omega) (.int .i64 (fq : Nat)))
 clear f0 f1 r0 r1 hHeld
 refine hK.out _ _ ?_ (fun hHeld => ?_); · ((try dsimp only); (first | exact fun i _ => H8.out.cell i | exact fun i _ => H8.out.drew.cell i))
 clear hK K
 try simp only [Act.put,qA,qB,qC]
 refine tk ?_ 8 (some 7) rfl rfl ?_ ?_; rotate_left; · (intro w hSw; (try dsimp only at hSw); go_simp <;> with_reducible rfl)
 try simp only [Act.put,qA,qB,qC]
 refine wpAnyH_done (by kernel_rfl) ?_ _
 go_wp2
 exact bodyPost_ret (results_row_tmp rfl _ _ w.heap.size 48 #[.int .i64 (fp : Nat), .int .i64 (fq : Nat)] (0, 0) _ rfl ((H6.out.set 0 _).set 1 _) Tryz.underlying48 rfl (by kernel_rfl)) rfl ⟨rfl, (HB.out.setCell (p := ⟨w.heap.size, 0, none⟩) (Nat.le_refl _) _).setCell (p := ⟨w.heap.size, 1, none⟩) (Nat.le_refl _) _⟩
end
/- Walk of told: a word and numbers. Conditions: the numbers are below a thousand; the library's variables stand. -/
section
open Go.RowKit Go.Maps
/-- A number as a word. -/
def itoaB (n : Nat) : ByteArray := ⟨(Lib.itoa (n : Int)).toArray⟩
/-- A word and numbers behind it, each behind a blank. -/
def numd (word : ByteArray) (l : List Nat) : ByteArray := l.foldl (fun o n => o ++ (⟨#[32]⟩ ++ itoaB n)) word
theorem numd_snoc (word : ByteArray) (l : List Nat) (i : Nat) : numd word (l ++ [i]) = numd word l ++ (⟨#[32]⟩ ++ itoaB i) := by simp [numd, List.foldl_append]
set_option maxRecDepth 100000 in
theorem itoaB_all : (List.range 1000).all (fun n => decide ((itoaB n).size ≤ 3)) = true := by kernel_rfl
theorem itoaB_size {n : Nat} (h : n < 1000) : (itoaB n).size ≤ 3 := of_decide_eq_true (List.all_eq_true.1 itoaB_all n (List.mem_range.2 h))
theorem numd_append (u v : ByteArray) : ∀ l : List Nat, u ++ numd v l = numd (u ++ v) l := fun l => by
 induction l generalizing v with
 | nil => rfl
 | cons n l ih =>
  show u ++ numd (v ++ (⟨#[32]⟩ ++ itoaB n)) l = numd (u ++ v ++ (⟨#[32]⟩ ++ itoaB n)) l
  rw [ih, ByteArray.append_assoc]
theorem numd_size {l : List Nat} (h : ∀ i ∈ l, i < 1000) : ∀ v : ByteArray, (numd v l).size ≤ v.size + 4 * l.length := by
 induction l with
 | nil => intro v; exact Nat.le_refl _
 | cons n l ih =>
  intro v
  have h1 := ih (fun i hi => h i (by simp [hi])) (v ++ (⟨#[32]⟩ ++ itoaB n))
  have h2 := itoaB_size (h n (by simp))
  have h4 : (v ++ ((⟨#[32]⟩ : ByteArray) ++ itoaB n)).size = v.size + (1 + (itoaB n).size) := by rw [ByteArray.size_append, ByteArray.size_append]; rfl
  show (numd (v ++ (⟨#[32]⟩ ++ itoaB n)) l).size ≤ _
  rw [List.length_cons]
  omega
set_option maxRecDepth 100000 in
set_option maxHeartbeats 2000000 in
theorem toldF (word : ByteArray) (A : Option Addr) (m c : Nat) (l : List Nat) (w : World) (ht : Sl w A m c (l.map fun i : Nat => Value.int .i64 i)) (hl : ∀ i ∈ l, i < 1000) (hw : word.size ≤ 1000) (hm2 : m ≤ 1000) (he : EnvN w) :
 Calls Tryz.prog 138 #[.int .i64 0, .string word, .slice A m c] w fun x w' => x = .returned (.tuple #[.string (numd word l), .int .i64 0]) ∧ Below w.heap.size w w' := by
 have HT := hid ht
 have HLL := hid (show l.length = m by have := ht.len; simpa using this)
 have HI := hid hl
 have HW := hid hw
 have HEN := hid he
 have hm : m ≤ 9223372036854775807 := by omega
 clear ht hl hw he
 go_enter Tryz.func138, Tryz.ntmps138
 go_wp2
 go_loopg [1, 15] m (fun gk v i wr => ∃ k : Nat, gk + k = m ∧ i = .int .i64 k ∧ v = .string (numd word (l.take k)) ∧ Hid ((numd word (l.take k)).size ≤ 1000 + 4 * k) ∧ Hid (Below w.heap.size w wr))
 case atStart => exact ⟨0, by omega, rfl, rfl, HW, hid (Below.refl _ _)⟩
 case round =>
  obtain ⟨k, hk, rfl, rfl, HSZ, HB⟩ := hrel
  have HK := hid hk
  by_cases hlt : k < m
  · have HLT := hid hlt
    obtain ⟨b, o, u, rfl, lb, e1, ca⟩ := (HT.out.below HB.out).at hlt
    rw [List.getElem?_map] at e1
    obtain ⟨i, hi, rfl⟩ := Option.map_eq_some_iff.1 e1
    have hin := HI.out i (List.mem_of_getElem? hi)
    have HST := hid (show numd word (l.take (k + 1)) = numd word (l.take k) ++ (⟨#[32]⟩ ++ itoaB i) by
     rw [List.take_add_one, hi, Option.toList_some, numd_snoc])
    have hz := itoaB_size hin
    have HIT := hid (itoaAny (i : Nat) (by omega) (by omega) wr (HEN.out.keep HB.out))
    have hsz := HSZ.out
    have hdef : (⟨(Lib.itoa (i : Int)).toArray⟩ : ByteArray) = itoaB i := rfl
    rw [hdef] at HIT
    generalize numd word (l.take k) = v at *
    generalize itoaB i = s at *
    have h1s : (⟨#[32]⟩ ++ s : ByteArray).size = 1 + s.size := by rw [ByteArray.size_append]; rfl
    have cat1 : ∀ W : World, (Op.stringOp .add ⟨#[32]⟩ s).run Tryz.prog W = .ok (.string (⟨#[32]⟩ ++ s)) W := fun W => run_string_add_sum W _ _ (by have : (ByteArray.mk #[32]).size = 1 := rfl; omega)
    have cat2 : ∀ W : World, (Op.stringOp .add v (⟨#[32]⟩ ++ s)).run Tryz.prog W = .ok (.string (v ++ (⟨#[32]⟩ ++ s))) W := fun W => run_string_add_sum W _ _ (by omega)
    have HS2 := hid (show (v ++ (⟨#[32]⟩ ++ s)).size ≤ 1000 + 4 * (k + 1) by rw [ByteArray.size_append]; omega)
    clear hk e1 hi lb hsz hdef
    go_wp2_with fail
    refine (HIT.out).mono ?_; rintro e w2 ⟨rfl, b2⟩
    have HB2 := hid (below_call HB.out b2 HB.out.size)
    clear HIT b2
    go_wp2
    go_roundg (gk - 1)
    case measure => have := HK.out; have := HLT.out; omega
    case rel => exact ⟨k + 1, by have := HK.out; have := HLT.out; omega, by go_num, by rw [HST.out], by rw [HST.out]; exact HS2, HB2⟩
  · obtain rfl : k = m := by have := HK.out; omega
    have e : l.take k = l := List.take_of_length_le (by have := HLL.out; omega)
    rw [e]
    clear hk e
    go_wp2
    go_ret2
    exact ⟨rfl, HB.out⟩
end
/- Walk of the question ways. Conditions: what a mint's books keep; the library's variables stand. -/
section
open Go.RowKit Go.Maps
def sWays : ByteArray := ⟨#[119, 97, 121, 115]⟩
/-- What 'ways' replies. -/
def replyWays (s : Bk) : ByteArray × Nat := if s.medals.length = 0 then (ByteArray.empty, 4) else (numd sWays [allW s.medals.length (bitsOf s.above)], 0)
theorem OrdI.bits {l : List Int} (h : OrdI l) : l = ordL l.length (bitsOf l) ∧ OrdOk l.length (bitsOf l) := by
 obtain ⟨b, h1, h2⟩ := h
 have h3 : ∀ i j, i < l.length → j < l.length → bitsOf l i j = b i j := fun i j hi hj => by
  conv => lhs; rw [h1]
  exact bits_ordL hi hj
 refine ⟨h1.trans (ordL_congr fun i j hi hj => (h3 i j hi hj).symm), fun i hi => by rw [h3 i i hi hi]; exact h2.1 i hi, fun i j k hi hj hk e1 e2 => ?_⟩
 rw [h3 i j hi hj] at e1
 rw [h3 j k hj hk] at e2
 rw [h3 i k hi hk]
 exact h2.2 i j k hi hj hk e1 e2
theorem toldOne (word : ByteArray) (q : Nat) (hq : q ≤ 720) (hw : word.size ≤ 1000) (w : World) (b : Nat) (h : Blk w b 3 #[.int .i64 (q : Nat)]) (he : EnvN w) :
 Calls Tryz.prog 138 #[.int .i64 0, .string word, .slice (some ⟨b, 0, none⟩) 1 1] w fun x w' => x = .returned (.tuple #[.string (numd word [q]), .int .i64 0]) ∧ Below w.heap.size w w' :=
 toldF word _ 1 1 [q] w (Sl.of_own (blk_own (base := 0) h (Nat.zero_le _) rfl (by omega))) (fun i hi => by rw [List.mem_singleton] at hi; subst hi; omega) hw (by omega) he
set_option maxRecDepth 100000 in
set_option maxHeartbeats 4000000 in
theorem waysQ (s : Bk) (hs : BkT s) : AskC 96 s [] [] (replyWays s) := by
 intro w G sb A c D d hst hA hD hE hT
 obtain ⟨M, mc, U, uc, Q, pc, T, tc, E, ec, g1, g2, g3, _, _, _, _, _, _, _, _, _⟩ := hst.ex
 have hal := hs.bk.1.abv
 have hml := hs.bk.1.med
 obtain ⟨ht1, ht2⟩ := hs.bk.2.bits
 have B1 := (Below.refl w.heap.size w).alloc (Nat.le_refl _) (.cells #[.slice A 0 c, .slice D 0 d] 124)
 have HB1 := hid B1
 have c0 := (g1.keep B1).cell 0
 have c1 := (g1.keep B1).cell 1
 simp only [stV, List.getElem?_toArray, List.getElem?_cons_zero, List.getElem?_cons_succ] at c0 c1
 have HU := hid (g3.below B1)
 have HTA := hid (hT.below B1)
 have HEN := hid (hE.keep B1)
 unfold replyWays
 generalize bitsOf s.above = a at *
 rw [hal] at ht1 ht2 c1 HU
 rw [ht1] at HU
 clear ht1 hs hst hA hD hE hT g1 g2 g3 hal B1
 generalize hn : s.medals.length = n at *
 have HOK := hid ht2
 clear ht2 hn
 by_cases h0 : n = 0
 · rw [if_pos h0]
   subst h0
   go_enter Tryz.func96, Tryz.ntmps96
   go_wp2
   go_ret2
   exact ⟨rfl, HB1.out⟩
 · rw [if_neg h0]
   have hz : ((n : Int) == 0) = false := by rw [beq_eq_false_iff_ne]; omega
   have hz2 : (n == 0) = false := by rw [beq_eq_false_iff_ne]; exact h0
   have HC := hid (ordCountF n a (by omega) hml HOK.out U uc _ HU.out HTA.out)
   have hbd := allW_bd (a := a) hml
   have HTO := hid fun W b (h : Blk W b 3 #[.int .i64 (allW n a : Nat)]) (he : EnvN W) => toldOne sWays (allW n a) hbd (by decide) W b h he
   generalize numd sWays [allW n a] = rep at *
   generalize allW n a = aw at *
   unfold sWays at HTO
   go_enter Tryz.func96, Tryz.ntmps96
   go_wp2_with fail
   refine (HC.out).mono ?_; rintro e w2 ⟨rfl, b2⟩
   have bA := b2.alloc b2.size (.cells #[.int .i64 (aw : Nat)] 3)
   have HB2 := hid (below_call HB1.out bA HB1.out.size)
   have HT2 := hid (HTO.out _ _ (Blk.new w2 3 #[.int .i64 (aw : Nat)]) (HEN.out.keep bA))
   clear b2 bA HC HTO
   go_wp2_with fail
   refine (HT2.out).mono ?_; rintro e w3 ⟨rfl, b3⟩
   have HB3 := hid (below_call HB2.out b3 HB2.out.size)
   clear b3 HT2
   go_wp2
   go_ret2
   exact ⟨rfl, HB3.out⟩
set_option maxRecDepth 100000 in
theorem mintWaysQ (R : Nat → Prop) (m : Nat) (d : Value) (L : List (Nat × Nat)) (k : Int) (s : Bk) (J : List ByteArray) (out : Bool) (w : World) (hm : MinM w R m d L k s J out) (hs : BkT s) (he : EnvN w) (hT : Tab w) :
 Calls Tryz.prog 11 #[.pointer (some ⟨m, 0, none⟩), .string sWays] w (AskR w (replyWays s)) := by
 refine mintAskF R m d L k s J out sWays (replyWays s) w hm fun sb hst => ?_
 exact askYes 0 0 96 (by decide) R sb s sWays [] [] (replyWays s) (by decide) w he hT hst (by kernel_rfl) (fun args W => enters Tryz.func96 (by kernel_rfl) rfl args W) (by kernel_rfl) (by kernel_rfl) (waysQ s hs)
end
/- Plain law of the first line of an order: every element is in it once, before all that are above it. No program in sight. -/
section
open Go.RowKit
/-- i can come first of the set s. -/
def minB (n : Nat) (a : Nat → Nat → Bool) (s i : Nat) : Bool := (List.range n).all fun j => !(a j i && s.testBit j)
def firstM (n : Nat) (a : Nat → Nat → Bool) (s : Nat) : Option Nat := (bitsL s).find? (minB n a s)
/-- The first line of a set. -/
def lnL (n : Nat) (a : Nat → Nat → Bool) : Nat → Nat → List Nat
 | 0, _ => []
 | f + 1, s => match firstM n a s with
  | none => []
  | some i => i :: lnL n a f (clr s i)
def lineO (n : Nat) (a : Nat → Nat → Bool) : List Nat := lnL n a n (2 ^ n - 1)
theorem min_iff {n : Nat} {a : Nat → Nat → Bool} {s i : Nat} : minB n a s i = true ↔ ∀ j, j < n → a j i = true → s.testBit j = false := by
 unfold minB
 rw [List.all_eq_true]
 constructor
 · intro h j hj e
   have := h j (List.mem_range.2 hj)
   rw [e] at this
   simpa using this
 · intro h j hj
   cases e : a j i with
   | false => simp
   | true => simp [h j (List.mem_range.1 hj) e]
theorem ord_turn {n : Nat} {a : Nat → Nat → Bool} (ho : OrdOk n a) : OrdOk n (fun i j => a j i) := ⟨ho.1, fun i j k hi hj hk h1 h2 => ho.2 k j i hk hj hi h2 h1⟩
theorem first_some {n : Nat} {a : Nat → Nat → Bool} (hn : n ≤ 6) (ho : OrdOk n a) {s : Nat} (hs : s < 2 ^ n) (h0 : s ≠ 0) : ∃ i, firstM n a s = some i ∧ s.testBit i = true ∧ minB n a s i = true := by
 have hne : bitsL s ≠ [] := by
  obtain ⟨i, hi⟩ := Nat.exists_testBit_of_ne_zero h0
  intro e
  have := (mem_bits (p64 hn hs)).2 hi
  rw [e] at this
  simp at this
 obtain ⟨k, hk, hm⟩ := max_of (ord_turn ho) (bitsL s) hne fun x hx => lt_six hs ((mem_bits (p64 hn hs)).1 hx)
 have hmin : minB n a s k = true := min_iff.2 fun j hj e => by
  cases e2 : s.testBit j with
  | false => rfl
  | true => rw [hm j ((mem_bits (p64 hn hs)).2 e2)] at e; cases e
 cases hf : firstM n a s with
 | none =>
  unfold firstM at hf
  rw [List.find?_eq_none] at hf
  exact absurd hmin (hf k hk)
 | some i =>
  refine ⟨i, rfl, ?_, ?_⟩
  · unfold firstM at hf
    exact (mem_bits (p64 hn hs)).1 (List.mem_of_find?_eq_some hf)
  · unfold firstM at hf
    exact List.find?_some hf
theorem ln_all {n : Nat} {a : Nat → Nat → Bool} (hn : n ≤ 6) (ho : OrdOk n a) : ∀ (f s : Nat), s < 2 ^ n → (bitsL s).length ≤ f → (∀ i, i ∈ lnL n a f s ↔ s.testBit i = true) ∧ (lnL n a f s).Nodup ∧ (lnL n a f s).Pairwise (fun u v => a v u = false) ∧ (lnL n a f s).length = (bitsL s).length := by
 intro f
 induction f with
 | zero =>
  intro s hs hl
  have hb : bitsL s = [] := List.eq_nil_of_length_eq_zero (by omega)
  refine ⟨fun i => ?_, List.nodup_nil, List.Pairwise.nil, by rw [hb]; rfl⟩
  rw [← mem_bits (p64 hn hs), hb]
  exact Iff.rfl
 | succ f ih =>
  intro s hs hl
  by_cases h0 : s = 0
  · subst h0
    have e : lnL n a (f + 1) 0 = [] := rfl
    rw [e]
    exact ⟨fun i => by simp, List.nodup_nil, List.Pairwise.nil, rfl⟩
  obtain ⟨i, h1, h2, h3⟩ := first_some hn ho hs h0
  obtain ⟨f1, f2, f3, f4⟩ := clr_facts (p64 hn hs) h2
  have e : lnL n a (f + 1) s = i :: lnL n a f (clr s i) := by
   conv => lhs; unfold lnL
   rw [h1]
  rw [e]
  obtain ⟨g1, g2, g3, g4⟩ := ih (clr s i) (by omega) (by omega)
  refine ⟨fun j => ?_, List.nodup_cons.2 ⟨fun h => ?_, g2⟩, List.pairwise_cons.2 ⟨fun v hv => ?_, g3⟩, by rw [List.length_cons, g4, f3]⟩
  · rw [List.mem_cons, g1, f4]
    by_cases ej : j = i
    · subst ej; simp [h2]
    · simp [ej]
  · rw [g1, f4] at h
    simp at h
  · rw [g1, f4] at hv
    simp only [Bool.and_eq_true] at hv
    cases e2 : a v i with
    | false => rfl
    | true =>
     have := min_iff.1 h3 v (lt_six hs hv.1) e2
     rw [hv.1] at this; cases this
theorem bits_full {n : Nat} (hn : n ≤ 6) : (bitsL (2 ^ n - 1)).length = n := by
 rcases (show n = 0 ∨ n = 1 ∨ n = 2 ∨ n = 3 ∨ n = 4 ∨ n = 5 ∨ n = 6 by omega) with rfl | rfl | rfl | rfl | rfl | rfl | rfl <;> decide +kernel
/-- The first line: all elements once, none behind one that is above it. -/
theorem lineO_all {n : Nat} {a : Nat → Nat → Bool} (hn : n ≤ 6) (ho : OrdOk n a) : (∀ i, i ∈ lineO n a ↔ i < n) ∧ (lineO n a).Nodup ∧ (lineO n a).Pairwise (fun u v => a v u = false) ∧ (lineO n a).length = n := by
 have hp := Nat.pow_pos (n := n) (show 0 < 2 by decide)
 obtain ⟨h1, h2, h3, h4⟩ := ln_all hn ho n (2 ^ n - 1) (by omega) (by rw [bits_full hn]; exact Nat.le_refl _)
 refine ⟨fun i => ?_, h2, h3, by unfold lineO; rw [h4, bits_full hn]⟩
 unfold lineO
 rw [h1, Nat.testBit_two_pow_sub_one, decide_eq_true_iff]
end
end Go.Proofs.YtnibidmlkbcfkaaGreatDoor
