/- Texts of this proof, one behind the other; each says its condition at its head. -/
import Derived.Test.YtnibidmlkbcfkaaGreatDoorR32
import Derived.Test.YtnibidmlkbcfkaaGreatDoorR28
import Derived.Test.YtnibidmlkbcfkaaGreatDoorR7
import Derived.Test.YtnibidmlkbcfkaaGreatDoorR5
import Derived.Test.YtnibidmlkbcfkaaGreatDoorR3
import Derived.Test.YtnibidmlkbcfkaaGreatDoorR23
import Derived.Test.YtnibidmlkbcfkaaGreatDoorR10
import Derived.Test.YtnibidmlkbcfkaaGreatDoorR25
import Derived.Test.YtnibidmlkbcfkaaGreatDoorR26
/- Walks of order's frac, before, Count and Chance. Condition: an order of one to six elements; the library's table stands. -/
namespace Go.Proofs.YtnibidmlkbcfkaaGreatDoor
open Go.RowKit Go.Maps
attribute [local go_sem ↓] shr_v and_shr
set_option maxRecDepth 100000 in
set_option maxHeartbeats 1000000 in
theorem fracO (p q : Nat) (hp : p ≤ 100000) (hq : q ≤ 100000) (h0 : 0 < q) (w : World) :
 Calls Tryz.prog 45 #[.int .i64 (p : Nat), .int .i64 (q : Nat)] w fun e w' => e = .returned (.agg #[.int .i64 ((p / Nat.gcd p q : Nat) : Int), .int .i64 ((q / Nat.gcd p q : Nat) : Int)]) ∧ Below w.heap.size w w' := by
 obtain ⟨G, hG⟩ : ∃ G, G = Nat.gcd p q := ⟨_, rfl⟩
 rw [← hG]
 have hGp : 0 < G := by rw [hG]; exact Nat.gcd_pos_of_pos_right p h0
 have HG := hid hG
 have HGP := hid hGp
 have HPQ := hid (And.intro hp hq)
 have H4 := hid (Blk.new w 48 #[.int .i64 0, .int .i64 0])
 have HB := hid ((Below.refl w.heap.size w).alloc (Nat.le_refl _) (.cells #[.int .i64 0, .int .i64 0] 48))
 clear hG hGp h0
 go_enter Tryz.func45, Tryz.ntmps45
 go_wp2
 go_loopg [5, 6] q (fun gk u v wr => ∃ x y : Nat, gk = y ∧ u = .int .i64 (x : Nat) ∧ v = .int .i64 (y : Nat) ∧ Hid (G = Nat.gcd x y) ∧ Hid (x ≤ 100000 ∧ y ≤ 100000) ∧ Hid (Blk wr w.heap.size 48 #[.int .i64 0, .int .i64 0]) ∧ Hid (Below w.heap.size w wr))
 case atStart => exact ⟨p, q, rfl, rfl, rfl, HG, HPQ, H4, HB⟩
 case round =>
  clear HG H4 HB
  obtain ⟨x, y, hk, rfl, rfl, HG, HXY, H4, HB⟩ := hrel
  have HK := hid hk
  clear hk
  by_cases h0 : y = 0
  · subst h0
    have hGx : G = x := by have := HG.out; rwa [Nat.gcd_zero_right] at this
    subst hGx
    have hG0 : (((G : Nat) : Int) == 0) = false := by have := HGP.out; rw [beq_eq_false_iff_ne]; omega
    have hGn : ¬ ((G : Nat) : Int) = 0 := by have := HGP.out; omega
    have hGn2 : ¬ G = 0 := by have := HGP.out; omega
    have t1 : (p : Int).tdiv (G : Int) = ((p / G : Nat) : Int) := by rw [Int.tdiv_eq_ediv_of_nonneg (by omega)]; rfl
    have t2 : (q : Int).tdiv (G : Int) = ((q / G : Nat) : Int) := by rw [Int.tdiv_eq_ediv_of_nonneg (by omega)]; rfl
    have hpd : p / G ≤ p := Nat.div_le_self _ _
    have hqd : q / G ≤ q := Nat.div_le_self _ _
    obtain ⟨pg, hpg⟩ : ∃ pg, pg = p / G := ⟨_, rfl⟩
    obtain ⟨qg, hqg⟩ : ∃ qg, qg = q / G := ⟨_, rfl⟩
    rw [← hpg] at t1 hpd
    rw [← hqg] at t2 hqd
    have HE := hid (And.intro hpg hqg)
    clear hpg hqg
    have f0 := H4.out.free 0
    have f1 := H4.out.free 1
    have r0 := H4.out.cell 0
    have r1 := H4.out.cell 1
    simp only [List.getElem?_toArray, List.getElem?_cons_zero, List.getElem?_cons_succ] at r0 r1
    have w1 : wrap64 (pg : Int) = (pg : Int) := by have := HPQ.out; simp only [wrap64]; omega
    have w2 : wrap64 (qg : Int) = (qg : Int) := by have := HPQ.out; simp only [wrap64]; omega
    go_wp2_with fail
    go_region
    all_goals go_wp2
    all_goals exact bodyPost_ret (results_row1 rfl _ _ w.heap.size 48 #[.int .i64 (pg : Nat), .int .i64 (qg : Nat)] (0, 0) _ rfl ((H4.out.drew.set 0 _).set 1 _) Tryz.underlying48 rfl (by kernel_rfl)) rfl ⟨by rw [HE.out.1, HE.out.2], (HB.out.drew.setCell (p := ⟨w.heap.size, 0, none⟩) (Nat.le_refl _) _).setCell (p := ⟨w.heap.size, 1, none⟩) (Nat.le_refl _) _⟩
  · have hy0 : ((y : Int) == 0) = false := by rw [beq_eq_false_iff_ne]; omega
    have hy1 : (y == 0) = false := by rw [beq_eq_false_iff_ne]; exact h0
    have hyn : ¬ (y : Int) = 0 := by omega
    have HY := hid (show 0 < y by omega)
    have tm : (x : Int).tmod (y : Int) = ((x % y : Nat) : Int) := by rw [Int.tmod_eq_emod_of_nonneg (by omega)]; rfl
    have hml : x % y < y := Nat.mod_lt _ (by omega)
    have HG2 := hid (show G = Nat.gcd y (x % y) by rw [HG.out, Nat.gcd_comm x y, Nat.gcd_rec y x, Nat.gcd_comm])
    have HML := hid hml
    have HX2 := hid (show y ≤ 100000 ∧ x % y ≤ 100000 by have := HXY.out; omega)
    generalize x % y = z at *
    clear hml
    go_wp2_with fail
    go_region
    all_goals go_wp2
    all_goals go_roundg z
    case measure => have := HK.out; have := HML.out; omega
    case rel => exact ⟨y, z, rfl, rfl, rfl, HG2, HX2, hid H4.out.drew, hid HB.out.drew⟩
set_option maxRecDepth 100000 in
set_option maxHeartbeats 2000000 in
theorem beforeF (n : Nat) (a : Nat → Nat → Bool) (i j : Nat) (hn1 : 1 ≤ n) (hn : n ≤ 6) (ho : OrdOk n a) (hi : i < n) (hj : j < n) (hij : i ≠ j) (w : World) (hT : Tab w) :
 Calls Tryz.prog 46 #[.agg (ordC n a), .int .i64 (i : Nat), .int .i64 (j : Nat)] w fun e w' => e = .returned (.int .i64 (befW n a i j : Nat)) ∧ Below w.heap.size w w' := by
 have bA := (Below.refl w.heap.size w).alloc (Nat.le_refl _) (.cells (ordC n a) 78)
 have HB := hid bA
 have H3 := hid (Blk.new w 78 (ordC n a))
 have ci := ordC_at H3.out (k := i) (by omega)
 have hbit := oc_bit a hi hj
 have fj : Fits (j : Int) := ⟨by omega, by omega⟩
 have hi6 : (i : Int) < 6 := by omega
 have HTA := hid (hT.below bA)
 have HCN := hid fun W (h : Tab W) => countedF n a hn1 hn ho W h
 have HFR := hid fun q hq W => freeF n a i j hn hi hj q hq W
 have HAD := hid fun W (h : Tab W) => ordAdd n a i j hn hi hj W h
 have HCA := hid fun (h1 : a i j = false) (h2 : a j i = false) W (h : Tab W) => countedF n (addA a i j) hn1 hn (addA_ok ho hi hj hij h1 h2) W h
 have o0 := H3.out.cell 0
 have o1 := H3.out.cell 1
 have o2 := H3.out.cell 2
 have o3 := H3.out.cell 3
 have o4 := H3.out.cell 4
 have o5 := H3.out.cell 5
 have o6 := H3.out.cell 6
 simp only [ordC, List.getElem?_toArray, List.getElem?_cons_zero, List.getElem?_cons_succ] at o0 o1 o2 o3 o4 o5 o6
 generalize hoc : oc n a i = oi at *
 clear hT bA ho
 unfold befW
 unfold ordC at HB HCN HFR HAD HCA HTA ci ⊢
 cases h1 : a i j with
 | true =>
  rw [h1, if_pos rfl] at hbit
  have hb1 : (bitV oi (j : Int) == 1) = true := by rw [hbit]; rfl
  rw [if_pos rfl]
  clear HFR HAD HCA hbit hoc
  generalize allW n a = aw at *
  go_enter Tryz.func46, Tryz.ntmps46
  go_wp2_with fail
  refine (HCN.out _ HTA.out).mono ?_; rintro e w2 ⟨rfl, b2⟩
  have HB2 := hid (below_call HB.out b2 HB.out.size)
  clear b2
  go_wp2
  go_ret
  exact ⟨rfl, HB2.out⟩
 | false =>
  rw [h1, if_neg Bool.false_ne_true] at hbit
  have hb1 : (bitV oi (j : Int) == 1) = false := by rw [hbit]; rfl
  rw [if_neg Bool.false_ne_true]
  cases h2 : a j i with
  | true =>
   rw [if_pos rfl]
   have HF := hid fun W => HFR.out false (by simp [h2]) W
   clear HFR HAD HCA HCN hbit hoc
   go_enter Tryz.func46, Tryz.ntmps46
   go_wp2_with fail
   refine (HF.out _).mono ?_; rintro e w2 ⟨rfl, b2⟩
   have HB2 := hid (below_call HB.out b2 HB.out.size)
   clear b2
   go_wp2
   go_ret
   exact ⟨rfl, HB2.out⟩
  | false =>
   rw [if_neg Bool.false_ne_true]
   have HF := hid fun W => HFR.out true (by simp [h1, h2, hij]) W
   have HCA := hid fun W h => HCA.out h1 h2 W h
   clear HFR HCN hbit hoc
   generalize allW n (addA a i j) = aw at *
   generalize oc n (addA a i j) 0 = z0 at *
   generalize oc n (addA a i j) 1 = z1 at *
   generalize oc n (addA a i j) 2 = z2 at *
   generalize oc n (addA a i j) 3 = z3 at *
   generalize oc n (addA a i j) 4 = z4 at *
   generalize oc n (addA a i j) 5 = z5 at *
   go_enter Tryz.func46, Tryz.ntmps46
   go_wp2_with fail
   refine (HF.out _).mono ?_; rintro e w2 ⟨rfl, b2⟩
   have HB2 := hid (below_call HB.out b2 HB.out.size)
   have o0 := cell_keep b2 o0
   have o1 := cell_keep b2 o1
   have o2 := cell_keep b2 o2
   have o3 := cell_keep b2 o3
   have o4 := cell_keep b2 o4
   have o5 := cell_keep b2 o5
   have o6 := cell_keep b2 o6
   have HT2 := hid (HTA.out.below b2)
   have HA2 := hid (HAD.out w2 HT2.out)
   clear b2 HF HAD
   go_wp2_with fail
   refine (HA2.out).mono ?_; rintro e w3 ⟨rfl, b3⟩
   have HB3 := hid (below_call HB2.out b3 HB2.out.size)
   have HC3 := hid (HCA.out w3 (HT2.out.below b3))
   clear b3 HA2
   go_wp2_with fail
   refine (HC3.out).mono ?_; rintro e w4 ⟨rfl, b4⟩
   have HB4 := hid (below_call HB3.out b4 HB3.out.size)
   clear b4 HC3
   go_wp2
   go_ret
   exact ⟨rfl, HB4.out⟩
set_option maxRecDepth 100000 in
set_option maxHeartbeats 2000000 in
theorem ordCountF (n : Nat) (a : Nat → Nat → Bool) (hn1 : 1 ≤ n) (hn : n ≤ 6) (ho : OrdOk n a) (A : Option Addr) (c : Nat) (w : World) (hs : Sl w A n c (intV (ordL n a))) (hT : Tab w) :
 Calls Tryz.prog 16 #[.slice A n c] w fun e w' => e = .returned (.tuple #[.int .i64 (allW n a : Nat), .int .i64 0]) ∧ Below w.heap.size w w' := by
 have HR := hid (ordRead n a A c w hn1 hn ho hs hT)
 have HT := hid hT
 have HCN := hid fun W (h : Tab W) => countedF n a hn1 hn ho W h
 unfold ordC at HR HCN
 clear hs hT ho
 generalize allW n a = aw at *
 generalize oc n a 0 = z0 at *
 generalize oc n a 1 = z1 at *
 generalize oc n a 2 = z2 at *
 generalize oc n a 3 = z3 at *
 generalize oc n a 4 = z4 at *
 generalize oc n a 5 = z5 at *
 go_enter Tryz.func16, Tryz.ntmps16
 go_wp2_with fail
 refine (HR.out).mono ?_; rintro e w2 ⟨rfl, b2⟩
 have bA := b2.alloc b2.size (.cells #[.int .i64 (n : Nat), .int .i64 z0, .int .i64 z1, .int .i64 z2, .int .i64 z3, .int .i64 z4, .int .i64 z5] 78)
 have HB := hid bA
 have HC := hid (HCN.out _ (HT.out.below bA))
 have H3 := Blk.new w2 78 #[.int .i64 (n : Nat), .int .i64 z0, .int .i64 z1, .int .i64 z2, .int .i64 z3, .int .i64 z4, .int .i64 z5]
 have o0 := H3.cell 0
 have o1 := H3.cell 1
 have o2 := H3.cell 2
 have o3 := H3.cell 3
 have o4 := H3.cell 4
 have o5 := H3.cell 5
 have o6 := H3.cell 6
 simp only [List.getElem?_toArray, List.getElem?_cons_zero, List.getElem?_cons_succ] at o0 o1 o2 o3 o4 o5 o6
 clear HR b2 bA H3 HCN
 go_wp2_with fail
 refine (HC.out).mono ?_; rintro e w3 ⟨rfl, b3⟩
 have HB3 := hid (below_call HB.out b3 HB.out.size)
 clear b3 HC
 go_wp2
 go_ret2
 exact ⟨rfl, HB3.out⟩
end Go.Proofs.YtnibidmlkbcfkaaGreatDoor
/- Walk of order's Chance. Condition: an order of one to six elements; the library's table stands. -/
namespace Go.Proofs.YtnibidmlkbcfkaaGreatDoor
open Go.RowKit Go.Maps
/-- The chance of one before another, in lowest terms. -/
def chaN (n : Nat) (a : Nat → Nat → Bool) (i j : Nat) : Nat × Nat := (befW n a i j / Nat.gcd (befW n a i j) (allW n a), allW n a / Nat.gcd (befW n a i j) (allW n a))
set_option maxRecDepth 100000 in
set_option maxHeartbeats 4000000 in
theorem chanceNo (n : Nat) (a : Nat → Nat → Bool) (i : Nat) (hn1 : 1 ≤ n) (hn : n ≤ 6) (ho : OrdOk n a) (hi : i < n) (A : Option Addr) (c : Nat) (w : World) (hs : Sl w A n c (intV (ordL n a))) (hT : Tab w) :
 Calls Tryz.prog 18 #[.slice A n c, .int .i64 (i : Nat), .int .i64 (i : Nat)] w fun e w' => e = .returned (.tuple #[.agg #[.int .i64 0, .int .i64 0], .int .i64 2]) ∧ Below w.heap.size w w' := by
 have b0 := (Below.refl w.heap.size w).alloc (Nat.le_refl _) (.cells #[.int .i64 0, .int .i64 0] 48)
 have HR := hid (ordRead n a A c _ hn1 hn ho (hs.below b0) (hT.below b0))
 have HEL := hid fun W => elementF n a i hi W
 have H6 := hid (Blk.new w 48 #[.int .i64 0, .int .i64 0])
 have HB := hid b0
 unfold ordC at HR HEL
 clear hs hT ho b0
 generalize oc n a 0 = z0 at *
 generalize oc n a 1 = z1 at *
 generalize oc n a 2 = z2 at *
 generalize oc n a 3 = z3 at *
 generalize oc n a 4 = z4 at *
 generalize oc n a 5 = z5 at *
 have hii : ((i : Int) == (i : Int)) = true := by simp
 go_enter Tryz.func18, Tryz.ntmps18
 go_wp2_with fail
 refine (HR.out).mono ?_; rintro e w2 ⟨rfl, b2⟩
 have bA := b2.alloc b2.size (.cells #[.int .i64 (n : Nat), .int .i64 z0, .int .i64 z1, .int .i64 z2, .int .i64 z3, .int .i64 z4, .int .i64 z5] 78)
 have H6 := hid (H6.out.keep bA)
 have HB := hid (below_call HB.out bA HB.out.size)
 have H8 := hid (Blk.new w2 78 #[.int .i64 (n : Nat), .int .i64 z0, .int .i64 z1, .int .i64 z2, .int .i64 z3, .int .i64 z4, .int .i64 z5])
 have o0 := H8.out.cell 0
 have o1 := H8.out.cell 1
 have o2 := H8.out.cell 2
 have o3 := H8.out.cell 3
 have o4 := H8.out.cell 4
 have o5 := H8.out.cell 5
 have o6 := H8.out.cell 6
 simp only [List.getElem?_toArray, List.getElem?_cons_zero, List.getElem?_cons_succ] at o0 o1 o2 o3 o4 o5 o6
 clear HR b2 bA
 go_wp2_with fail
 refine (HEL.out _).mono ?_; rintro e w3 ⟨rfl, b3⟩
 have H6 := hid (H6.out.keep b3); have HB := hid (below_call HB.out b3 HB.out.size); have H8 := hid (H8.out.keep b3)
 have o0 := H8.out.cell 0
 have o1 := H8.out.cell 1
 have o2 := H8.out.cell 2
 have o3 := H8.out.cell 3
 have o4 := H8.out.cell 4
 have o5 := H8.out.cell 5
 have o6 := H8.out.cell 6
 simp only [List.getElem?_toArray, List.getElem?_cons_zero, List.getElem?_cons_succ] at o0 o1 o2 o3 o4 o5 o6
 clear b3
 go_wp2_with fail
 refine (HEL.out _).mono ?_; rintro e w4 ⟨rfl, b4⟩
 have H6 := hid (H6.out.keep b4); have HB := hid (below_call HB.out b4 HB.out.size)
 clear b4 HEL o0 o1 o2 o3 o4 o5 o6
 have f0 := H6.out.free 0
 have f1 := H6.out.free 1
 have r0 := H6.out.cell 0
 have r1 := H6.out.cell 1
 simp only [List.getElem?_toArray, List.getElem?_cons_zero, List.getElem?_cons_succ] at r0 r1
 go_wp2
 exact bodyPost_ret (results_row_tmp rfl _ _ w.heap.size 48 #[.int .i64 0, .int .i64 0] (0, 0) _ rfl ((H6.out.set 0 _).set 1 _) Tryz.underlying48 rfl (by kernel_rfl)) rfl ⟨rfl, (HB.out.setCell (p := ⟨w.heap.size, 0, none⟩) (Nat.le_refl _) _).setCell (p := ⟨w.heap.size, 1, none⟩) (Nat.le_refl _) _⟩
set_option maxRecDepth 100000 in
set_option maxHeartbeats 4000000 in
theorem chanceF (n : Nat) (a : Nat → Nat → Bool) (i j : Nat) (hn1 : 1 ≤ n) (hn : n ≤ 6) (ho : OrdOk n a) (hi : i < n) (hj : j < n) (hij : i ≠ j) (A : Option Addr) (c : Nat) (w : World) (hs : Sl w A n c (intV (ordL n a))) (hT : Tab w) :
 Calls Tryz.prog 18 #[.slice A n c, .int .i64 (i : Nat), .int .i64 (j : Nat)] w fun e w' => e = .returned (.tuple #[.agg #[.int .i64 ((chaN n a i j).1 : Nat), .int .i64 ((chaN n a i j).2 : Nat)], .int .i64 0]) ∧ Below w.heap.size w w' := by
 have b0 := (Below.refl w.heap.size w).alloc (Nat.le_refl _) (.cells #[.int .i64 0, .int .i64 0] 48)
 have HR := hid (ordRead n a A c _ hn1 hn ho (hs.below b0) (hT.below b0))
 have HEL := hid fun W => elementF n a i hi W
 have HEJ := hid fun W => elementF n a j hj W
 have HT := hid hT
 have HBF := hid fun W (h : Tab W) => beforeF n a i j hn1 hn ho hi hj hij W h
 have HCN := hid fun W (h : Tab W) => countedF n a hn1 hn ho W h
 have hbs := befW_sum hn ho hi hj hij
 have hbd := allW_bd (a := a) hn
 have hpo := allW_pos hn ho
 have HFO := hid fun W => fracO (befW n a i j) (allW n a) (by omega) (by omega) hpo W
 have HCH := hid (show chaN n a i j = (befW n a i j / Nat.gcd (befW n a i j) (allW n a), allW n a / Nat.gcd (befW n a i j) (allW n a)) from rfl)
 have H6 := hid (Blk.new w 48 #[.int .i64 0, .int .i64 0])
 have HB := hid b0
 rw [HCH.out]
 simp only
 unfold ordC at HR HEL HEJ HBF HCN
 clear hs hT ho b0 hbs hbd hpo HCH
 generalize befW n a i j / Nat.gcd (befW n a i j) (allW n a) = fp at *
 generalize allW n a / Nat.gcd (befW n a i j) (allW n a) = fq at *
 generalize befW n a i j = bw at *
 generalize allW n a = aw at *
 generalize oc n a 0 = z0 at *
 generalize oc n a 1 = z1 at *
 generalize oc n a 2 = z2 at *
 generalize oc n a 3 = z3 at *
 generalize oc n a 4 = z4 at *
 generalize oc n a 5 = z5 at *
 have hii : ((i : Int) == (j : Int)) = false := by rw [beq_eq_false_iff_ne]; omega
 have hii2 : (i == j) = false := by rw [beq_eq_false_iff_ne]; exact hij
 go_enter Tryz.func18, Tryz.ntmps18
 go_wp2_with fail
 refine (HR.out).mono ?_; rintro e w2 ⟨rfl, b2⟩
 have bA := b2.alloc b2.size (.cells #[.int .i64 (n : Nat), .int .i64 z0, .int .i64 z1, .int .i64 z2, .int .i64 z3, .int .i64 z4, .int .i64 z5] 78)
 have H6 := hid (H6.out.keep bA)
 have HB := hid (below_call HB.out bA HB.out.size)
 have H8 := hid (Blk.new w2 78 #[.int .i64 (n : Nat), .int .i64 z0, .int .i64 z1, .int .i64 z2, .int .i64 z3, .int .i64 z4, .int .i64 z5])
 have o0 := H8.out.cell 0
 have o1 := H8.out.cell 1
 have o2 := H8.out.cell 2
 have o3 := H8.out.cell 3
 have o4 := H8.out.cell 4
 have o5 := H8.out.cell 5
 have o6 := H8.out.cell 6
 simp only [List.getElem?_toArray, List.getElem?_cons_zero, List.getElem?_cons_succ] at o0 o1 o2 o3 o4 o5 o6
 have HW2 := hid (show w.heap.size < w2.heap.size from Nat.lt_of_lt_of_le (by simp) b2.size)
 clear HR b2 bA
 go_wp2_with fail
 refine (HEL.out _).mono ?_; rintro e w3 ⟨rfl, b3⟩
 have H6 := hid (H6.out.keep b3); have HB := hid (below_call HB.out b3 HB.out.size); have H8 := hid (H8.out.keep b3)
 have o0 := H8.out.cell 0
 have o1 := H8.out.cell 1
 have o2 := H8.out.cell 2
 have o3 := H8.out.cell 3
 have o4 := H8.out.cell 4
 have o5 := H8.out.cell 5
 have o6 := H8.out.cell 6
 simp only [List.getElem?_toArray, List.getElem?_cons_zero, List.getElem?_cons_succ] at o0 o1 o2 o3 o4 o5 o6
 clear b3
 go_wp2_with fail
 refine (HEJ.out _).mono ?_; rintro e w4 ⟨rfl, b4⟩
 have H8 := hid (H8.out.keep b4)
 have H6 := hid (H6.out.keep b4); have HB := hid (below_call HB.out b4 HB.out.size)
 clear b4 HEL HEJ o0 o1 o2 o3 o4 o5 o6
 go_wp2_with fail
 have HTW := hid (HT.out.below HB.out)
 refine wp_region_held_drew (S := (fun w' => ∀ i, i < 7 → w'.cell? ⟨w2.heap.size, i, none⟩ = (#[Value.int .i64 (n : Nat), .int .i64 z0, .int .i64 z1, .int .i64 z2, .int .i64 z3, .int .i64 z4, .int .i64 z5] : Array Value)[i]?)) (by kernel_rfl) (by (try dsimp only); (first | exact fun i _ => H8.out.cell i | exact fun i _ => H8.out.drew.cell i)) (fun hHeld => ?_)
 have H8 := hid H8.out.drew; have H6 := hid H6.out.drew; have HB := hid HB.out.drew; have HTW := hid (HTW.out.below (Below.refl _ w4).drew)
 generalize w4.drew = X1 at *
 obtain ⟨X, rfl⟩ : ∃ Y, Y = X1 := ⟨X1, rfl⟩
 have o0 := H8.out.cell 0
 have o1 := H8.out.cell 1
 have o2 := H8.out.cell 2
 have o3 := H8.out.cell 3
 have o4 := H8.out.cell 4
 have o5 := H8.out.cell 5
 have o6 := H8.out.cell 6
 refine tk ?_ 0 (some 35) rfl rfl ?_ ?_; rotate_left; · (intro w hSw; (try dsimp only at hSw); go_simp <;> with_reducible rfl)
 try simp only [Act.put, pA0, pA1, pA2]
 refine tk ?_ 1 (some 36) rfl rfl ?_ ?_; rotate_left; · (intro w hSw; (try dsimp only at hSw); go_simp <;> with_reducible rfl)
 try simp only [Act.put, pA0, pA1, pA2]
 refine tk ?_ 2 (some 37) rfl rfl ?_ ?_; rotate_left; · (intro w hSw; (try dsimp only at hSw); go_simp <;> with_reducible rfl)
 try simp only [Act.put, pA0, pA1, pA2]
 have o0 := H8.out.cell 0
 have o1 := H8.out.cell 1
 have o2 := H8.out.cell 2
 have o3 := H8.out.cell 3
 have o4 := H8.out.cell 4
 have o5 := H8.out.cell 5
 have o6 := H8.out.cell 6
 refine tk ?_ 4 (some 39) rfl rfl ?_ ?_; rotate_left; · (intro w hSw; (try dsimp only at hSw); go_simp <;> with_reducible rfl)
 try simp only [Act.put, pA0, pA1, pA2]
 refine wpAnyH_ready (rs := [3]) (by kernel_rfl) (by simp) ?_
 refine AllReadyH.cons rfl (fun K hK => ?_) AllReadyH.nil
 go_simp
 refine (HBF.out _ HTW.out).mono ?_; rintro e X ⟨rfl, bb⟩
 have H8 := hid (H8.out.keep bb); have H6 := hid (H6.out.keep bb); have HB := hid (below_call HB.out bb HB.out.size); have HTW := hid (HTW.out.below bb)
 clear bb hHeld
 refine hK.out _ _ ?_ (fun hHeld => ?_); · ((try dsimp only); (first | exact fun i _ => H8.out.cell i | exact fun i _ => H8.out.drew.cell i))
 clear hK K
 try simp only [Act.put, pA0, pA1, pA2]
 refine wpAnyH_ready (rs := [5]) (by kernel_rfl) (by simp) ?_
 refine AllReadyH.cons rfl (fun K hK => ?_) AllReadyH.nil
 go_simp
 refine (HCN.out _ HTW.out).mono ?_; rintro e X ⟨rfl, bb⟩
 have H8 := hid (H8.out.keep bb); have H6 := hid (H6.out.keep bb); have HB := hid (below_call HB.out bb HB.out.size); have HTW := hid (HTW.out.below bb)
 clear bb hHeld
 refine hK.out _ _ ?_ (fun hHeld => ?_); · ((try dsimp only); (first | exact fun i _ => H8.out.cell i | exact fun i _ => H8.out.drew.cell i))
 clear hK K
 try simp only [Act.put, pA0, pA1, pA2]
 refine wpAnyH_ready (rs := [6]) (by kernel_rfl) (by simp) ?_
 refine AllReadyH.cons rfl (fun K hK => ?_) AllReadyH.nil
 go_simp
 refine (HFO.out _).mono ?_; rintro e X ⟨rfl, bb⟩
 have H8 := hid (H8.out.keep bb); have H6 := hid (H6.out.keep bb); have HB := hid (below_call HB.out bb HB.out.size); have HTW := hid (HTW.out.below bb)
 clear bb hHeld
 refine hK.out _ _ ?_ (fun hHeld => ?_); · ((try dsimp only); (first | exact fun i _ => H8.out.cell i | exact fun i _ => H8.out.drew.cell i))
 clear hK K
 try simp only [Act.put, pA0, pA1, pA2]
 refine wpAnyH_ready (rs := [7]) (by kernel_rfl) (by simp) ?_
 refine AllReadyH.cons rfl (fun K hK => ?_) AllReadyH.nil
 have f0 := H6.out.free 0
 have f1 := H6.out.free 1
 have r0 := H6.out.cell 0
 have r1 := H6.out.cell 1
 simp only [List.getElem?_toArray, List.getElem?_cons_zero, List.getElem?_cons_succ] at r0 r1
 go_simp
 have H8 := hid ((H8.out.far (p := ⟨w.heap.size, 0, none⟩) (by have := HW2.out; simp; omega) (.int .i64 (fp : Nat))).far (p := ⟨w.heap.size, 1, none⟩) (by have := HW2.out; simp; omega) (.int .i64 (fq : Nat)))
 clear f0 f1 r0 r1 hHeld
 refine hK.out _ _ ?_ (fun hHeld => ?_); · ((try dsimp only); (first | exact fun i _ => H8.out.cell i | exact fun i _ => H8.out.drew.cell i))
 clear hK K
 try simp only [Act.put, pA0, pA1, pA2]
 refine tk ?_ 8 (some 7) rfl rfl ?_ ?_; rotate_left; · (intro w hSw; (try dsimp only at hSw); go_simp <;> with_reducible rfl)
 try simp only [Act.put, pA0, pA1, pA2]
 refine wpAnyH_done (by kernel_rfl) ?_ _
 go_wp2
 exact bodyPost_ret (results_row_tmp rfl _ _ w.heap.size 48 #[.int .i64 (fp : Nat), .int .i64 (fq : Nat)] (0, 0) _ rfl ((H6.out.set 0 _).set 1 _) Tryz.underlying48 rfl (by kernel_rfl)) rfl ⟨rfl, (HB.out.setCell (p := ⟨w.heap.size, 0, none⟩) (Nat.le_refl _) _).setCell (p := ⟨w.heap.size, 1, none⟩) (Nat.le_refl _) _⟩
end Go.Proofs.YtnibidmlkbcfkaaGreatDoor
/- Walk of told: a word and numbers. Conditions: the numbers are below a thousand; the library's variables stand. -/
namespace Go.Proofs.YtnibidmlkbcfkaaGreatDoor
open Go.RowKit Go.Maps
/-- A number as a word. -/
def itoaB (n : Nat) : ByteArray := ⟨(Lib.itoa (n : Int)).toArray⟩
/-- A word and numbers behind it, each behind a blank. -/
def numd (word : ByteArray) (l : List Nat) : ByteArray := l.foldl (fun o n => o ++ (⟨#[32]⟩ ++ itoaB n)) word
theorem numd_snoc (word : ByteArray) (l : List Nat) (i : Nat) : numd word (l ++ [i]) = numd word l ++ (⟨#[32]⟩ ++ itoaB i) := by simp [numd, List.foldl_append]
set_option maxRecDepth 100000 in
theorem itoaB_all : (List.range 1000).all (fun n => decide ((itoaB n).size ≤ 3)) = true := by kernel_rfl
theorem itoaB_size {n : Nat} (h : n < 1000) : (itoaB n).size ≤ 3 := of_decide_eq_true (List.all_eq_true.1 itoaB_all n (List.mem_range.2 h))
set_option maxRecDepth 100000 in
set_option maxHeartbeats 2000000 in
theorem toldF (word : ByteArray) (A : Option Addr) (m c : Nat) (l : List Nat) (w : World) (ht : Sl w A m c (l.map fun i : Nat => Value.int .i64 i)) (hl : ∀ i ∈ l, i < 1000) (hw : word.size ≤ 1000) (hm2 : m ≤ 1000) (he : EnvN w) :
 Calls Tryz.prog 138 #[.int .i64 0, .string word, .slice A m c] w fun x w' => x = .returned (.tuple #[.string (numd word l), .int .i64 0]) ∧ Below w.heap.size w w' := by
 have HT := hid ht
 have HLL := hid (show l.length = m by have := ht.len; simpa using this)
 have HI := hid hl
 have HW := hid hw
 have HEN := hid he
 have hm : m ≤ 9223372036854775807 := by omega
 clear ht hl hw he
 go_enter Tryz.func138, Tryz.ntmps138
 go_wp2
 go_loopg [1, 15] m (fun gk v i wr => ∃ k : Nat, gk + k = m ∧ i = .int .i64 k ∧ v = .string (numd word (l.take k)) ∧ Hid ((numd word (l.take k)).size ≤ 1000 + 4 * k) ∧ Hid (Below w.heap.size w wr))
 case atStart => exact ⟨0, by omega, rfl, rfl, HW, hid (Below.refl _ _)⟩
 case round =>
  obtain ⟨k, hk, rfl, rfl, HSZ, HB⟩ := hrel
  have HK := hid hk
  by_cases hlt : k < m
  · have HLT := hid hlt
    obtain ⟨b, o, u, rfl, lb, e1, ca⟩ := (HT.out.below HB.out).at hlt
    rw [List.getElem?_map] at e1
    obtain ⟨i, hi, rfl⟩ := Option.map_eq_some_iff.1 e1
    have hin := HI.out i (List.mem_of_getElem? hi)
    have HST := hid (show numd word (l.take (k + 1)) = numd word (l.take k) ++ (⟨#[32]⟩ ++ itoaB i) by
     rw [List.take_add_one, hi, Option.toList_some, numd_snoc])
    have hz := itoaB_size hin
    have HIT := hid (itoaAny (i : Nat) (by omega) (by omega) wr (HEN.out.keep HB.out))
    have hsz := HSZ.out
    have hdef : (⟨(Lib.itoa (i : Int)).toArray⟩ : ByteArray) = itoaB i := rfl
    rw [hdef] at HIT
    generalize numd word (l.take k) = v at *
    generalize itoaB i = s at *
    have h1s : (⟨#[32]⟩ ++ s : ByteArray).size = 1 + s.size := by rw [ByteArray.size_append]; rfl
    have cat1 : ∀ W : World, (Op.stringOp .add ⟨#[32]⟩ s).run Tryz.prog W = .ok (.string (⟨#[32]⟩ ++ s)) W := fun W => run_string_add_sum W _ _ (by have : (ByteArray.mk #[32]).size = 1 := rfl; omega)
    have cat2 : ∀ W : World, (Op.stringOp .add v (⟨#[32]⟩ ++ s)).run Tryz.prog W = .ok (.string (v ++ (⟨#[32]⟩ ++ s))) W := fun W => run_string_add_sum W _ _ (by omega)
    have HS2 := hid (show (v ++ (⟨#[32]⟩ ++ s)).size ≤ 1000 + 4 * (k + 1) by rw [ByteArray.size_append]; omega)
    clear hk e1 hi lb hsz hdef
    go_wp2_with fail
    refine (HIT.out).mono ?_; rintro e w2 ⟨rfl, b2⟩
    have HB2 := hid (below_call HB.out b2 HB.out.size)
    clear HIT b2
    go_wp2
    go_roundg (gk - 1)
    case measure => have := HK.out; have := HLT.out; omega
    case rel => exact ⟨k + 1, by have := HK.out; have := HLT.out; omega, by go_num, by rw [HST.out], by rw [HST.out]; exact HS2, HB2⟩
  · obtain rfl : k = m := by have := HK.out; omega
    have e : l.take k = l := List.take_of_length_le (by have := HLL.out; omega)
    rw [e]
    clear hk e
    go_wp2
    go_ret2
    exact ⟨rfl, HB.out⟩
end Go.Proofs.YtnibidmlkbcfkaaGreatDoor
/- Walks of state.ask and of Mint.Ask at any text, over a contract of the question that its word names. Conditions: the text is short of the shelf's bound; the library's variables stand. -/
namespace Go.Proofs.YtnibidmlkbcfkaaGreatDoor
open Go.RowKit Go.Maps
/-- What a question replies: a text, and a number. -/
def AskC (k : FuncId) (s : Bk) (nm : List ByteArray) (nu : List Int) (q : ByteArray × Nat) : Prop :=
 ∀ (w : World) (G : Nat → Prop) (sb : Nat) (A : Option Addr) (c : Nat) (D : Option Addr) (d : Nat), StR w G sb s → Sl w A nm.length c (strV nm) → Sl w D nu.length d (intV nu) → EnvN w → Tab w →
  Calls Tryz.prog k #[.pointer (some ⟨sb, 0, none⟩), .agg #[.slice A nm.length c, .slice D nu.length d]] w fun r w' => r = .returned (.tuple #[.string q.1, .int .i64 (q.2 : Nat)]) ∧ Below w.heap.size w w'
/-- What ask hands back. -/
def AskR (w : World) (q : ByteArray × Nat) (r : Ending) (w' : World) : Prop := r = .returned (.tuple #[.string q.1, .int .i64 (q.2 : Nat)]) ∧ Below w.heap.size w w'
set_option maxRecDepth 100000 in
set_option maxHeartbeats 4000000 in
theorem askYes (r0 r1 : Nat) (k : FuncId) (hr : r0 + r1 ≤ 100) (G : Nat → Prop) (sb : Nat) (s : Bk) (x : ByteArray) (nm : List ByteArray) (nu : List Int) (q : ByteArray × Nat) (hs : x.size ≤ 100000000) (w : World) (hm : EnvN w) (hT : Tab w) (hst : StR w G sb s)
 (hf : asS questionsL (.string (wordOf x)) = some (.agg #[.int .i64 (r0 : Nat), .int .i64 (r1 : Nat), .nilFunc, .func (.func k) #[] #[]]))
 (he : ∀ args W, (callFunc k args).run Tryz.prog W = .ok (.enter k args) W) (hrd : readP r0 r1 (parts x).tail = some (nm, nu)) (hln : isLn x = true) (hk : AskC k s nm nu q) :
 Calls Tryz.prog 36 #[.pointer (some ⟨sb, 0, none⟩), .string x] w (AskR w q) := by
 unfold AskR
 have HC := hid (questionsF w)
 have HM := hid hm
 have HT := hid hT
 have HS := hid hst
 have HK := hid hk
 clear hm hT hst hk
 go_enter Tryz.func36, Tryz.ntmps36
 go_wp2_with fail
 refine (HC.out).mono ?_; rintro e w1 ⟨bm, rfl, hmap, hb, b1⟩
 have HB1 := hid b1
 have HF := hid (findQst bm (asS questionsL) x r0 r1 k hr hs w1 (HM.out.keep b1) hmap hf)
 rw [hrd, hln] at HF
 unfold FndP at HF
 simp only [Option.getD_some, Option.isSome_some, Bool.and_self] at HF
 clear hmap hb b1 HC hf hrd hln
 go_wp2_with fail
 refine (HF.out).mono ?_; rintro e w2 ⟨⟨A, c, D, d, rfl, ho, ho2⟩, b2⟩
 have HO := hid ho
 have HO2 := hid ho2
 have HB2 := hid (below_call HB1.out b2 HB1.out.size)
 clear ho ho2 b2 HF
 obtain ⟨na, hna⟩ : ∃ n, n = nm.length := ⟨_, rfl⟩
 obtain ⟨nd, hnd⟩ : ∃ n, n = nu.length := ⟨_, rfl⟩
 have HNA := hid hna
 have HND := hid hnd
 rw [← hna] at HO ⊢
 rw [← hnd] at HO2 ⊢
 clear hna hnd
 have b3 := (HB2.out.alloc HB2.out.size (.cells #[.int .i64 (r0 : Nat), .int .i64 (r1 : Nat), .nilFunc, .func (.func k) #[] #[]] 122)).alloc (by have := HB2.out.size; simp; omega) (.cells #[.slice A na c, .slice D nd d] 124)
 have HB3 := hid b3
 have HO3 := hid ((HO.out.alloc (.cells #[.int .i64 (r0 : Nat), .int .i64 (r1 : Nat), .nilFunc, .func (.func k) #[] #[]] 122)).alloc (.cells #[.slice A na c, .slice D nd d] 124))
 have HO4 := hid ((HO2.out.alloc (.cells #[.int .i64 (r0 : Nat), .int .i64 (r1 : Nat), .nilFunc, .func (.func k) #[] #[]] 122)).alloc (.cells #[.slice A na c, .slice D nd d] 124))
 have HRO := hid (HK.out _ G sb A c D d (HS.out.below b3) (by have := Sl.of_own HO3.out; rwa [← HNA.out]) (by have := Sl.of_own HO4.out; rwa [← HND.out]) (HM.out.keep b3) (HT.out.below b3))
 rw [← HNA.out, ← HND.out] at HRO
 clear b3 HO HO2
 go_wp2_with fail
 refine (HRO.out).mono ?_; rintro e w4 ⟨rfl, b4⟩
 have HB4 := hid (below_call HB3.out b4 HB3.out.size)
 clear b4
 go_wp2
 go_ret2
 exact ⟨rfl, HB4.out⟩
set_option maxRecDepth 100000 in
set_option maxHeartbeats 4000000 in
/-- Mint.Ask asks the state. -/
theorem mintAskF (R : Nat → Prop) (m : Nat) (d : Value) (L : List (Nat × Nat)) (k : Int) (s : Bk) (J : List ByteArray) (out : Bool) (x : ByteArray) (q : ByteArray × Nat) (w : World) (hm : MinM w R m d L k s J out)
 (hk : ∀ sb, StR w R sb s → Calls Tryz.prog 36 #[.pointer (some ⟨sb, 0, none⟩), .string x] w (AskR w q)) :
 Calls Tryz.prog 11 #[.pointer (some ⟨m, 0, none⟩), .string x] w (AskR w q) := by
 obtain ⟨sb, A, ca, h1, h2, h3, h4⟩ := hm.ex
 have HN := hid (mintNone m _ k sb _ out w h1)
 have HA := hid (hk sb h3)
 have c2 := h1.cell 2
 simp only [List.getElem?_toArray, List.getElem?_cons_zero, List.getElem?_cons_succ] at c2
 clear hm h1 h2 h3 h4 hk
 unfold AskR at HA ⊢
 go_enter Tryz.func11, Tryz.ntmps11
 go_wp2_with fail
 refine (HN.out).mono ?_; rintro e w' ⟨rfl, rfl⟩
 go_wp2_with fail
 refine (HA.out).mono ?_; rintro e w2 ⟨rfl, b2⟩
 have HB2 := hid b2
 clear b2
 go_wp2
 go_ret2
 exact ⟨rfl, HB2.out⟩
end Go.Proofs.YtnibidmlkbcfkaaGreatDoor
/- Plain law of tournaments: whom each player beats, as sets; what a mint's books keep of it. No condition. -/
namespace Go.Proofs.YtnibidmlkbcfkaaGreatDoor
open Go.RowKit Go.Maps
/-- A tournament of n players: b i j says that i beats j. -/
def TourOk (n : Nat) (b : Nat → Nat → Bool) : Prop := (∀ i, i < n → b i i = false) ∧ ∀ i j, i < n → j < n → i ≠ j → b i j = !b j i
/-- A list that is a tournament. -/
def TourI (l : List Int) : Prop := ∃ b, l = ordL l.length b ∧ TourOk l.length b
theorem TourOk.congr {n : Nat} {a b : Nat → Nat → Bool} (h : TourOk n a) (he : ∀ i j, i < n → j < n → a i j = b i j) : TourOk n b :=
 ⟨fun i hi => by rw [← he i i hi hi]; exact h.1 i hi, fun i j hi hj hij => by rw [← he i j hi hj, ← he j i hj hi]; exact h.2 i j hi hj hij⟩
/-- With a player more, who loses to all. -/
def joinA (n : Nat) (b : Nat → Nat → Bool) (i j : Nat) : Bool := decide (i < n) && (decide (j = n) || b i j && decide (j < n))
theorem joinA_ok {n : Nat} {b : Nat → Nat → Bool} (h : TourOk n b) : TourOk (n + 1) (joinA n b) := by
 refine ⟨fun i hi => ?_, fun i j hi hj hij => ?_⟩
 · unfold joinA
   by_cases e : i = n
   · simp [e]
   · have hi' : i < n := by omega
     simp [e, hi', h.1 i hi']
 · unfold joinA
   by_cases ei : i = n
   · subst ei
     have hj' : j < i := by omega
     simp [hj']
   · by_cases ej : j = n
     · subst ej
       have hi' : i < j := by omega
       simp [hi']
     · have hi' : i < n := by omega
       have hj' : j < n := by omega
       simp [hi', hj', ei, ej, h.2 i j hi' hj' hij]
theorem mk_up {n : Nat} (hn : n < 60) (f : Nat → Bool) : bits .or .i64 (mk n f) (p2 n) = mk (n + 1) (fun j => decide (j = n) || f j && decide (j < n)) := by
 have h1 := mk_push (n := n + 1) (k := n) (by omega) (by omega) (fun j => decide (j = n) || f j && decide (j < n)) (b := 1) (by simp)
 rw [Int.one_mul] at h1
 rw [← h1]
 congr 1
 apply mk_congr
 intro i hi
 have hne : ¬ i = n := by omega
 simp [hi, hne]
theorem ordL_join {n : Nat} (hn : n < 60) (b : Nat → Nat → Bool) : (ordL n b).map (fun v => bits .or .i64 v (p2 n)) ++ [0] = ordL (n + 1) (joinA n b) := by
 unfold ordL
 rw [List.range_succ, List.map_append, List.map_map]
 congr 1
 · refine List.map_congr_left fun i hi => ?_
   have hi := List.mem_range.1 hi
   simp only [Function.comp_apply]
   rw [mk_up hn]
   apply mk_congr
   intro j _
   unfold joinA
   simp [hi]
 · simp only [List.map_cons, List.map_nil]
   rw [show joinA n b n = fun _ => false by funext j; unfold joinA; simp, mk_none]
/-- With a result: x beats y. -/
def beatA (b : Nat → Nat → Bool) (x y i j : Nat) : Bool := if i = x ∧ j = y then true else if i = y ∧ j = x then false else b i j
theorem beatA_ok {n : Nat} {b : Nat → Nat → Bool} (h : TourOk n b) {x y : Nat} (hxy : x ≠ y) : TourOk n (beatA b x y) := by
 refine ⟨fun i hi => ?_, fun i j hi hj hij => ?_⟩
 · unfold beatA
   rw [if_neg (by omega), if_neg (by omega)]
   exact h.1 i hi
 · unfold beatA
   by_cases e1 : i = x ∧ j = y
   · rw [if_pos e1, if_neg (by omega), if_pos (by omega)]
     rfl
   · by_cases e2 : i = y ∧ j = x
     · rw [if_neg e1, if_pos e2, if_pos (by omega)]
       rfl
     · rw [if_neg e1, if_neg e2, if_neg (by omega), if_neg (by omega)]
       exact h.2 i j hi hj hij
theorem ordL_get {n : Nat} (b : Nat → Nat → Bool) {i : Nat} (hi : i < n) : (ordL n b).getD i 0 = mk n (b i) := by
 unfold ordL
 rw [List.getD_eq_getElem?_getD, List.getElem?_map, List.getElem?_range hi]
 rfl
theorem ordL_at {n : Nat} (b : Nat → Nat → Bool) {i : Nat} (hi : i < n) : (ordL n b)[i]? = some (mk n (b i)) := by
 unfold ordL
 rw [List.getElem?_map, List.getElem?_range hi]
 rfl
theorem ordL_put {n : Nat} (b : Nat → Nat → Bool) {i : Nat} (f : Nat → Bool) : (ordL n b).set i (mk n f) = ordL n (fun k => if k = i then f else b k) := by
 apply List.ext_getElem?
 intro k
 rw [List.getElem?_set]
 by_cases hk : k < n
 · rw [ordL_at _ hk, ordL_at _ hk, ordL_len]
   by_cases e : i = k
   · subst e
     simp [hk]
   · have e2 : ¬ k = i := fun h => e h.symm
     simp [e, e2]
 · have hl : (ordL n (fun k => if k = i then f else b k))[k]? = none := List.getElem?_eq_none (by rw [ordL_len]; omega)
   have hl2 : (ordL n b)[k]? = none := List.getElem?_eq_none (by rw [ordL_len]; omega)
   rw [hl, hl2, ordL_len]
   split <;> simp_all
theorem mk_set {n : Nat} (hn : n ≤ 60) {j : Nat} (hj : j < n) (f : Nat → Bool) : bits .or .i64 (mk n f) (p2 j) = mk n (fun k => if k = j then true else f k) := by
 rw [← mk_single hj, mk_or hn]
 apply mk_congr
 intro k _
 by_cases e : k = j <;> simp [e]
theorem mk_del {n : Nat} (hn : n ≤ 60) {j : Nat} (hj : j < n) (f : Nat → Bool) : bits .andNot .i64 (mk n f) (p2 j) = mk n (fun k => if k = j then false else f k) := by
 rw [← mk_single hj, mk_andNot hn]
 apply mk_congr
 intro k _
 by_cases e : k = j <;> simp [e]
theorem ordL_beat {n : Nat} (hn : n ≤ 60) (b : Nat → Nat → Bool) {x y : Nat} (hx : x < n) (hy : y < n) (hxy : x ≠ y) :
 putI (putI (ordL n b) x fun v => bits .or .i64 v (p2 y)) y (fun v => bits .andNot .i64 v (p2 x)) = ordL n (beatA b x y) := by
 unfold putI
 dsimp only
 rw [ordL_get b hx, mk_set hn hy, ordL_put, ordL_get _ hy, mk_del hn hx, ordL_put]
 apply ordL_congr
 intro i j _ _
 unfold beatA
 by_cases e1 : i = y
 · subst e1
   have e2 : ¬ i = x := fun h => hxy h.symm
   simp [e2]
 · simp only [if_neg e1]
   by_cases e2 : i = x
   · subst e2
     by_cases e3 : j = y
     · simp [e3]
     · simp [e3, e1]
   · simp [e1, e2]
theorem TourI.nil : TourI [] := ⟨fun _ _ => false, rfl, ⟨fun i hi => by simp at hi, fun i j hi => by simp at hi⟩⟩
theorem TourI.of {n : Nat} {b : Nat → Nat → Bool} (h : TourOk n b) : TourI (ordL n b) := ⟨b, by rw [ordL_len], by rw [ordL_len]; exact h⟩
theorem TourI.push {l : List Int} (h : TourI l) (hl : l.length < 60) : TourI (l.map (fun v => bits .or .i64 v (p2 l.length)) ++ [0]) := by
 obtain ⟨b, h1, h2⟩ := h
 generalize hn : l.length = n at *
 subst h1
 rw [ordL_join hl]
 exact TourI.of (joinA_ok h2)
theorem TourI.beat {l : List Int} (h : TourI l) (hl : l.length ≤ 60) {x y : Nat} (hx : x < l.length) (hy : y < l.length) (hxy : x ≠ y) : TourI (putI (putI l x fun v => bits .or .i64 v (p2 y)) y (fun v => bits .andNot .i64 v (p2 x))) := by
 obtain ⟨b, h1, h2⟩ := h
 generalize hn : l.length = n at *
 subst h1
 rw [ordL_beat hl b hx hy hxy]
 exact TourI.of (beatA_ok h2 hxy)
/-- What a mint's books keep of the players. -/
theorem TourI.player {s : Bk} (h : TourI s.beats) (hs : BkI s) (x : ByteArray) : TourI (playerL s x).1.beats := by
 unfold playerL
 split
 · have := hs.1.bea
   have := hs.1.pla
   exact h.push (by omega)
 · exact h
theorem TourI.beats {s : Bk} (h : TourI s.beats) (hs : BkI s) (x y : ByteArray) : TourI (beatL s x y).1.beats := by
 have h1 := hs.1.bea
 have h2 := hs.1.pla
 have b1 := idxZ_bd x s.players
 have b2 := idxZ_bd y s.players
 unfold beatL
 split
 · split
   · exact h
   · rename_i hp hq
     simp only [not_or] at hq
     obtain ⟨i, hi⟩ := Int.eq_ofNat_of_zero_le hp.1
     obtain ⟨j, hj⟩ := Int.eq_ofNat_of_zero_le hp.2
     have h3 := h.beat (x := i) (y := j) (by omega) (by omega) (by omega) (by omega)
     rw [hi, hj]
     exact h3
 · exact h
theorem beats_medal (s : Bk) (x : ByteArray) : (medalL s x).1.beats = s.beats := by
 unfold medalL; split <;> rfl
theorem beats_rank (s : Bk) (x y : ByteArray) : (rankL s x y).1.beats = s.beats := by
 unfold rankL; split
 · split <;> rfl
 · rfl
theorem beats_lay (s : Bk) (x y z u : Int) : (layL s x y z u).1.beats = s.beats := by
 unfold layL; split <;> rfl
theorem beats_pan (s : Bk) (x y z u : Int) : (panL s x y z u).1.beats = s.beats := by
 unfold panL; split <;> rfl
theorem beats_bet (s : Bk) (v k : Int) : (betL s v k).1.beats = s.beats := by
 unfold betL
 split
 · rfl
 · split
   · rfl
   · split <;> rfl
theorem TourI.doL {s : Bk} (h : TourI s.beats) (hs : BkI s) (x : ByteArray) : TourI (doL s x).1.beats := by
 unfold Go.Proofs.YtnibidmlkbcfkaaGreatDoor.doL
 split
 · split
   · rw [beats_bet]; exact h
   · exact h
 · split
   · split
     · rw [beats_pan]; exact h
     · exact h
   · split
     · split
       · rw [beats_lay]; exact h
       · exact h
     · split
       · split
         · exact h.beats hs _ _
         · exact h
       · split
         · split
           · exact h.player hs _
           · exact h
         · split
           · split
             · rw [beats_rank]; exact h
             · exact h
           · split
             · split
               · rw [beats_medal]; exact h
               · exact h
             · exact h
end Go.Proofs.YtnibidmlkbcfkaaGreatDoor
