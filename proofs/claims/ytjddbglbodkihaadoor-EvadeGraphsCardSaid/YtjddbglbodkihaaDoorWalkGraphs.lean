/- Walk of the law EvadeGraphs. Condition: the table of the library stands. -/
import Derived.Test.YtjddbglbodkihaaDoorGraphM
import Derived.Test.YtjddbglbodkihaaDoorPropW
import Derived.Test.YtjddbglbodkihaaDoorSpreadW
import Derived.Test.YtjddbglbodkihaaDoorPartW
import Derived.Test.YtjddbglbodkihaaDoorDualW
import Derived.Test.YtjddbglbodkihaaDoorAskP
namespace Go.Proofs.YtjddbglbodkihaaDoor
open Go.RowKit Go.Maps
attribute [local go_sem ↓] shl_p2

set_option maxRecDepth 100000 in
set_option maxHeartbeats 2000000 in
theorem indexS (A : Option Addr) (m c : Nat) (xs : List Int) (x : Int) (w : World) (hs : Sl w A m c (xs.map (Value.int .i64))) :
    Calls Tryd.prog 90 #[.slice A m c, .int .i64 x] w fun e w' => (∃ r : Int, e = .returned (.int .i64 r) ∧ decide (0 ≤ r) = decide (x ∈ xs)) ∧ w = w' := by
  have hl := hs.numlen
  have hle := hs.len_le
  have HS := hid hs
  have HLX := hid hl
  clear hs hl
  go_enter Tryd.func90, Tryd.ntmps90
  go_wp2
  go_loopg [8] m (fun gk i wr => ∃ d : Nat, gk + d = m ∧ i = .int .i64 d ∧ w = wr ∧ Hid (∀ j, j < d → at0 xs j ≠ x))
  case atStart => exact ⟨0, by omega, rfl, rfl, hid fun j hj => absurd hj (by omega)⟩
  case round =>
    obtain ⟨d, hd, rfl, rfl, HN⟩ := hrel
    have HD := hid hd
    by_cases hlt : d < m
    · have HLT1 := hid hlt
      obtain ⟨b, o, rfl, lb, hdx, c1⟩ := HS.out.num hlt
      by_cases he : x = at0 xs d
      · have g : (x == at0 xs d) = true := by simp [he]
        have hm : decide (x ∈ xs) = true := decide_eq_true (he ▸ at0_mem hdx)
        have HM := hid hm
        clear he hm
        go_wp2
        go_ret
        exact ⟨⟨(d : Int), rfl, by rw [HM.out]; simp⟩, rfl⟩
      · have g : (x == at0 xs d) = false := by simp [he]
        have HN2 : Hid (∀ j, j < d + 1 → at0 xs j ≠ x) := hid fun j hj => by
          by_cases e : j = d
          · subst e; exact fun h => he h.symm
          · exact HN.out j (by omega)
        clear he
        go_wp2
        go_roundg (gk - 1)
        case measure => have := HD.out; have := HLT1.out; omega
        case rel => exact ⟨d + 1, by have := HD.out; have := HLT1.out; omega, by go_num, rfl, HN2⟩
    · obtain rfl : d = m := by have := HD.out; omega
      have HM := hid (show decide (x ∈ xs) = false from decide_eq_false fun h => by
        obtain ⟨j, hj⟩ := List.getElem?_of_mem h
        have hlt := (List.getElem?_eq_some_iff.1 hj).1
        exact HN.out j (by have := HLX.out; omega) (at0_get hj))
      clear hd
      go_wp2
      go_ret
      exact ⟨⟨-1, rfl, by rw [HM.out]; simp⟩, rfl⟩
set_option maxRecDepth 100000 in
set_option maxHeartbeats 1000000 in
theorem containsS (A : Option Addr) (m c : Nat) (xs : List Int) (x : Int) (w : World) (hs : Sl w A m c (xs.map (Value.int .i64))) :
    Calls Tryd.prog 55 #[.slice A m c, .int .i64 x] w fun e w' => e = .returned (.bool (decide (x ∈ xs))) ∧ w = w' := by
  have HI := hid (indexS A m c xs x w hs)
  clear hs
  go_enter Tryd.func55, Tryd.ntmps55
  go_wp2_with fail
  refine (HI.out).mono ?_; rintro e w1 ⟨⟨r, rfl, hr⟩, rfl⟩
  go_wp2
  go_ret
  exact ⟨rfl, rfl⟩

theorem equalG (A B : Option Addr) (n c m d : Nat) (xs : List Int) (W : World) (hs : Sl W A n c (xs.map (Value.int .i64))) (ht : Sl W B m d (xs.map (Value.int .i64))) :
    Calls Tryd.prog 19 #[.slice A n c, .slice B m d] W fun e w' => e = .returned (.bool true) ∧ Below W.heap.size W w' := by
  have e := equalInts A B n c m d xs xs W hs ht
  rwa [show decide (xs = xs) = true from decide_eq_true rfl] at e
theorem sets_takeG {n : Int} {xs : List Int} {k : Nat} (hl : xs.length = k) : SetsP n (xs.take (min k 70)) ↔ SetsP n xs := by
  by_cases h : k ≤ 70
  · rw [Nat.min_eq_left h, List.take_of_length_le (by omega)]
  · rw [Nat.min_eq_right (by omega)]
    constructor
    · intro H
      have := H.len
      simp at this; omega
    · intro H
      have := H.len
      omega
/-- The law's copy of a slice of sets. -/
structure CpG (w : World) (A : Option Addr) (n c : Nat) (xs : List Int) (m : Nat) (ys : List Int) : Prop where
  run : ∀ W, Below w.heap.size w W → Calls Tryd.prog 16 #[.slice A n c] W fun e w' => ∃ A' c', e = .returned (.slice A' m c') ∧ w'.ownsRow W.heap.size 3 1 (.slice A' m c') m (ys.map (Value.int .i64)) ∧ Below W.heap.size W w'
  sets : ∀ p, SetsP p ys ↔ SetsP p xs
  same : (∃ p, SetsP p xs) → ys = xs ∧ m = n
theorem cpg_of {w : World} {A : Option Addr} {n c : Nat} {xs : List Int} (hs : Sl w A n c (xs.map (Value.int .i64))) : ∃ m ys, CpG w A n c xs m ys :=
  ⟨min n 70, xs.take (min n 70), fun W hW => lawList A n c xs W (hs.below hW), fun _ => sets_takeG hs.numlen, fun ⟨_, h⟩ => by
    have h1 := h.len
    have h2 := hs.numlen
    exact ⟨List.take_of_length_le (by omega), by omega⟩⟩
/-- What the law asks of the least property la with some graphs, and of its dual dl. -/
structure Gr (m : Nat) (la dl : List Int) : Prop where
  fam : Fam (nP m : Nat) la
  sets : SetsP (nP m : Nat) la
  ex : Exch m (setF la)
  again : ∀ H, Spr m (setF la) H → famL 64 H.testBit = la
  close : famL (2 ^ nP m) (partsR la) = la
  ask : (la.length = 0 ∨ la.length = 2 ^ nP m) ∧ askN (nP m) (setF la).testBit 0 0 = 0 ∨ ¬ (la.length = 0 ∨ la.length = 2 ^ nP m) ∧ askN (nP m) (setF la).testBit 0 0 = nP m
  dual : famL (2 ^ nP m) (dualP (nP m) (setF la).testBit) = dl
  dfam : Fam (nP m : Nat) dl
  dex : Exch m (setF dl)
  len : la.length ≤ 64
theorem nP_bd2 : ∀ m : Fin 5, 2 ≤ m.val → 1 ≤ nP m.val ∧ nP m.val ≤ 6 := by decide
theorem gr_of {m F G : Nat} (h2 : 2 ≤ m) (h4 : m ≤ 4) (h : Spr m F G) : ∃ dl, Gr m (famL 64 G.testBit) dl := by
  obtain ⟨n1, n6⟩ := nP_bd2 ⟨m, by omega⟩ h2
  simp only at n1 n6
  have e64 : famL 64 G.testBit = famL (2 ^ nP m) G.testBit := famL_wide (two64 n6) fun i hi => bit_lt h.lt hi
  have hset : setF (famL 64 G.testBit) = G := bits_ext fun u => by
    rw [setF_famL]
    by_cases hu : u < 64
    · rw [decide_eq_true hu, Bool.true_and]
    · cases k : G.testBit u
      · rw [Bool.and_false]
      · have := bit_lt h.lt k; have := two64 n6; omega
  have hfam : Fam (nP m : Nat) (famL 64 G.testBit) := by
    rw [e64]
    exact fam_of n1 n6 fun s x _ hx hq => h.down s x hx hq
  have hEA := (exch_all h2 h4 h.lt).1 h.ex
  have hfd := fam_dual hfam
  refine ⟨_, hfam, SetsP.of_fam hfam, by rw [hset]; exact h.ex, fun H hH => ?_, ?_, ?_, rfl, hfd, ?_, famL_len 64 _⟩
  · rw [hset] at hH
    have a : SubF H G := hH.least G (SubF.refl G) h.down h.ex h.lt
    have b : SubF G H := hH.up
    have e : H = G := bits_ext fun u => by rw [Bool.eq_iff_iff]; exact ⟨a u, b u⟩
    rw [e]
  · have hcl : Clo (nP m) (setF (famL 64 G.testBit)) G := by
      rw [hset]
      exact ⟨h.lt, fun u hu => hu, fun u hu => ⟨u, hu, fun _ k => k⟩, h.down⟩
    have hb : ∀ x ∈ famL 64 G.testBit, 0 ≤ x ∧ x < (2 ^ nP m : Nat) := fun x hx => by
      rw [e64] at hx
      obtain ⟨a, b, _⟩ := mem_famL.1 hx
      exact ⟨a, b⟩
    have e : famL (2 ^ nP m) (partsR (famL 64 G.testBit)) = famL (2 ^ nP m) G.testBit :=
      famL_congr fun _ _ => parts_ref (fun x hx => (hb x hx).1) hcl hcl.down fun x hx => (hb x hx).2
    rw [e, e64]
  · rw [hset, e64]
    rcases graph_ask h2 h4 h.down hEA n6 with ⟨a, b⟩ | ⟨a, b⟩
    · refine .inl ⟨?_, b⟩
      rcases a with a | a
      · left; rw [a]; rfl
      · exact .inr a
    · refine .inr ⟨fun c => a ?_, b⟩
      rcases c with c | c
      · left; exact List.eq_nil_of_length_eq_zero c
      · exact .inr c
  · have hl := hfd.lt
    rw [hset] at hl ⊢
    exact (exch_all h2 h4 hl).2 (dual_exch h2 h4 hEA)

set_option maxRecDepth 100000 in
set_option maxHeartbeats 4000000 in
theorem evadeGraphs_off (w : World) (hT : Tab w) (m : Int) (A2 : Option Addr) (k2 c2 : Nat) (ys : List Int) (ht : Sl w A2 k2 c2 (ys.map (Value.int .i64))) (h : ¬ (2 ≤ m ∧ m ≤ 4)) :
    Calls Tryd.prog 12 #[.int .i64 m, .slice A2 k2 c2] w fun e w' => e = .returned (.bool true) ∧ Below w.heap.size w w' := by
  obtain ⟨m2, zs2, hC2⟩ := cpg_of ht
  have HC2 := hid hC2
  have HAW := hid fun W (hb : Below w.heap.size w W) => awakeF W (hT.below hb)
  have HS := hid fun v W => spreadOff m v W h
  clear hC2 ht hT h
  have HB0 := hid (Below.refl w.heap.size w)
  go_enter Tryd.func12, Tryd.ntmps12
  go_wp2_with fail
  refine (HC2.out.run _ HB0.out).mono ?_; rintro e w1 ⟨A1, c1, rfl, ho, hb⟩
  have HB1 := hid (below_call HB0.out hb HB0.out.size)
  have S2_1 := hid (Sl.of_own ho)
  clear hb ho
  go_wp2_with fail
  refine (HS.out _ _).mono ?_; rintro e w' ⟨rfl, rfl⟩
  clear S2_1
  go_wp2_with fail
  refine (HAW.out _ HB1.out).mono ?_; rintro e w2 ⟨rfl, hb⟩
  have HB2 := hid (below_call HB1.out hb HB1.out.size)
  clear hb
  go_wp2
  go_ret
  exact ⟨rfl, HB2.out⟩


set_option maxRecDepth 100000 in
set_option maxHeartbeats 4000000 in
theorem evadeGraphs_no (w : World) (hT : Tab w) (m : Nat) (A2 : Option Addr) (k2 c2 : Nat) (ys : List Int) (ht : Sl w A2 k2 c2 (ys.map (Value.int .i64))) (h2 : 2 ≤ m) (h4 : m ≤ 4) (h1 : ¬ SetsP (nP m : Nat) ys) :
    Calls Tryd.prog 12 #[.int .i64 m, .slice A2 k2 c2] w fun e w' => e = .returned (.bool true) ∧ Below w.heap.size w w' := by
  obtain ⟨m2, zs2, hC2⟩ := cpg_of ht
  have HC2 := hid hC2
  have HAW := hid fun W (hb : Below w.heap.size w W) => awakeF W (hT.below hb)
  have HS := hid fun A' c' W (hb : Below w.heap.size w W) (s1 : Sl W A' m2 c' (zs2.map (Value.int .i64))) => spreadNo m A' m2 c' zs2 W h2 h4 s1 (by rw [hC2.sets]; exact h1)
  clear hC2 ht hT h1 h2 h4
  have HB0 := hid (Below.refl w.heap.size w)
  go_enter Tryd.func12, Tryd.ntmps12
  go_wp2_with fail
  refine (HC2.out.run _ HB0.out).mono ?_; rintro e w1 ⟨A1, c1, rfl, ho, hb⟩
  have HB1 := hid (below_call HB0.out hb HB0.out.size)
  have S2_1 := hid (Sl.of_own ho)
  clear hb ho
  go_wp2_with fail
  refine (HS.out _ _ _ HB1.out S2_1.out).mono ?_; rintro e w2 ⟨rfl, hb⟩
  have HB2 := hid (below_call HB1.out hb HB1.out.size)
  have S2_2 := hid (S2_1.out.below hb)
  clear hb
  clear S2_1 S2_2
  go_wp2_with fail
  refine (HAW.out _ HB2.out).mono ?_; rintro e w3 ⟨rfl, hb⟩
  have HB3 := hid (below_call HB2.out hb HB2.out.size)
  clear hb
  go_wp2
  go_ret
  exact ⟨rfl, HB3.out⟩


set_option maxRecDepth 100000 in
set_option maxHeartbeats 4000000 in
theorem evadeGraphs_yes (w : World) (hT : Tab w) (m : Nat) (A2 : Option Addr) (k2 c2 : Nat) (ys : List Int) (ht : Sl w A2 k2 c2 (ys.map (Value.int .i64))) (h2 : 2 ≤ m) (h4 : m ≤ 4) (h1 : SetsP (nP m : Nat) ys) :
    Calls Tryd.prog 12 #[.int .i64 m, .slice A2 k2 c2] w fun e w' => e = .returned (.bool true) ∧ Below w.heap.size w w' := by
  obtain ⟨m2, zs2, hC2⟩ := cpg_of ht
  obtain ⟨rfl, rfl⟩ := hC2.same ⟨_, h1⟩
  have HC2 := hid hC2
  have HAW := hid fun W (hb : Below w.heap.size w W) => awakeF W (hT.below hb)
  have HS := hid fun A' c' W (hb : Below w.heap.size w W) (s1 : Sl W A' m2 c' (zs2.map (Value.int .i64))) => spreadYes m A' m2 c' zs2 W h2 h4 s1 (hT.below hb) h1
  have HN := hid fun W => refNodes m W
  rw [decide_eq_true (show (2 : Int) ≤ m ∧ (m : Int) ≤ 4 by omega)] at HN
  have HPA := hid fun W => refPairs m W h2 h4
  have HG := hid fun W (hb : Below w.heap.size w W) => setsYes (nP m : Nat) A2 m2 c2 zs2 W (ht.below hb) h1
  have HGR := hid fun G (hG : Spr m (setF zs2) G) => gr_of h2 h4 hG
  have HUP := hid fun G (hG : Spr m (setF zs2) G) x (hx : x ∈ zs2) => (show x ∈ famL 64 G.testBit from by
    have hb := h1.bdn
    obtain ⟨a, b⟩ := hb x hx
    have h64 := two64 (show nP m ≤ 6 by have := h1.n6; omega)
    refine mem_famL.2 ⟨a, by omega, hG.up _ ((setF_mem (fun y hy => (hb y hy).1) _).2 (by rw [Int.toNat_of_nonneg a]; exact hx))⟩)
  have HSL := hid fun W (hb : Below w.heap.size w W) => ht.below hb
  have HPR := hid fun A' k' c' (la : List Int) W (hb : Below w.heap.size w W) (s1 : Sl W A' k' c' (la.map (Value.int .i64))) (hf : Fam (nP m : Nat) la) => propertyYes m A' k' c' la W h2 h4 s1 (hT.below hb) hf
  have HSA := hid fun A' k' c' (la : List Int) W (hb : Below w.heap.size w W) (s1 : Sl W A' k' c' (la.map (Value.int .i64))) (hf : SetsP (nP m : Nat) la) => spreadYes m A' k' c' la W h2 h4 s1 (hT.below hb) hf
  have HCL := hid fun A' k' c' (la : List Int) W (hb : Below w.heap.size w W) (s1 : Sl W A' k' c' (la.map (Value.int .i64))) (hf : SetsP (nP m : Nat) la) => closeYes (nP m) A' k' c' la W s1 (hT.below hb) hf
  have HAK := hid fun A' k' c' (la : List Int) W (hb : Below w.heap.size w W) (s1 : Sl W A' k' c' (la.map (Value.int .i64))) (hf : Fam (nP m : Nat) la) => askYes (nP m) A' k' c' la W s1 (hT.below hb) hf
  have HDU := hid fun A' k' c' (la : List Int) W (hb : Below w.heap.size w W) (s1 : Sl W A' k' c' (la.map (Value.int .i64))) (hf : Fam (nP m : Nat) la) => dualYes (nP m) A' k' c' la W s1 (hT.below hb) hf
  have hn6 := nP_bd ⟨m, by omega⟩
  simp only at hn6
  have HLN := hid ht.numlen
  have hm2 : m2 ≤ 64 := by have := h1.len; have := ht.numlen; omega
  have FN : Fits (nP m : Int) := ⟨by omega, by omega⟩
  have HE2 := hid (p2_nat (nP m))
  have h64 := two64 hn6
  have HN64 := hid h64
  generalize setF zs2 = F2 at *
  clear hC2 ht hT h1 h2 h4 h64
  have HB0 := hid (Below.refl w.heap.size w)
  go_enter Tryd.func12, Tryd.ntmps12
  go_wp2_with fail
  refine (HC2.out.run _ HB0.out).mono ?_; rintro e w1 ⟨A1, c1, rfl, ho, hb⟩
  have HB1 := hid (below_call HB0.out hb HB0.out.size)
  have S2_1 := hid (Sl.of_own ho)
  clear hb ho
  go_wp2_with fail
  refine (HS.out _ _ _ HB1.out S2_1.out).mono ?_; rintro e w2 ⟨⟨G, A2, c2, rfl, hsp, ho⟩, hb⟩
  have HB2 := hid (below_call HB1.out hb HB1.out.size)
  have S2_2 := hid (S2_1.out.below hb)
  have SA_2 := hid (Sl.of_own ho)
  obtain ⟨dl, hgr⟩ := HGR.out G hsp
  have HGG := hid hgr
  have HMM := hid (HUP.out G hsp)
  have hlen := hgr.len
  have HLA := hid (rfl : (famL 64 G.testBit).length = (famL 64 G.testBit).length)
  generalize hla : famL 64 G.testBit = la at *
  generalize hln : la.length = ln at *
  clear hb ho hsp hgr hla hln
  clear S2_1 S2_2
  go_wp2_with fail
  refine (HN.out _).mono ?_; rintro e w' ⟨rfl, rfl⟩
  go_wp2_with fail
  refine (HPA.out _).mono ?_; rintro e w' ⟨rfl, rfl⟩
  go_wp2_with fail
  refine (HG.out _ HB2.out).mono ?_; rintro e w' ⟨rfl, rfl⟩
  go_wp2_with fail
  refine (HPA.out _).mono ?_; rintro e w' ⟨rfl, rfl⟩
  go_wp2_with fail
  refine (cloneInts _ _ _ _ (by omega) _ SA_2.out).mono ?_; rintro e w3 ⟨A3, c3, rfl, ho, hb⟩
  have HB3 := hid (below_call HB2.out hb HB2.out.size)
  have SA_3 := hid (SA_2.out.below hb)
  have T1_3 := hid (Sl.of_own ho)
  clear hb ho
  go_wp2_with fail
  refine (HPR.out _ _ _ la _ HB3.out T1_3.out HGG.out.fam).mono ?_; rintro e w4 ⟨⟨b, rfl, hbb⟩, hb⟩
  have HB4 := hid (below_call HB3.out hb HB3.out.size)
  have SA_4 := hid (SA_3.out.below hb)
  have T1_4 := hid (T1_3.out.below hb)
  obtain rfl : b = true := hbb.2 HGG.out.ex
  clear hbb
  clear hb
  clear T1_3 T1_4
  go_wp2_with fail
  refine (cloneInts _ _ _ _ (by omega) _ SA_4.out).mono ?_; rintro e w5 ⟨A5, c5, rfl, ho, hb⟩
  have HB5 := hid (below_call HB4.out hb HB4.out.size)
  have SA_5 := hid (SA_4.out.below hb)
  have T2_5 := hid (Sl.of_own ho)
  clear hb ho
  go_wp2_with fail
  refine (HSA.out _ _ _ la _ HB5.out T2_5.out HGG.out.sets).mono ?_; rintro e w6 ⟨⟨H, A6, c6, rfl, hsp, ho⟩, hb⟩
  have HB6 := hid (below_call HB5.out hb HB5.out.size)
  have SA_6 := hid (SA_5.out.below hb)
  have T2_6 := hid (T2_5.out.below hb)
  rw [HGG.out.again H hsp] at ho ⊢
  have SG_6 := hid (Sl.of_own ho)
  clear hb ho hsp
  clear T2_5 T2_6
  go_wp2_with fail
  refine (cloneInts _ _ _ _ (by omega) _ SA_6.out).mono ?_; rintro e w7 ⟨A7, c7, rfl, ho, hb⟩
  have HB7 := hid (below_call HB6.out hb HB6.out.size)
  have SA_7 := hid (SA_6.out.below hb)
  have SG_7 := hid (SG_6.out.below hb)
  have T3_7 := hid (Sl.of_own ho)
  clear hb ho
  go_wp2_with fail
  refine (HCL.out _ _ _ la _ HB7.out T3_7.out HGG.out.sets).mono ?_; rintro e w8 ⟨A8, c8, l8, rfl, ho, hb⟩
  have HB8 := hid (below_call HB7.out hb HB7.out.size)
  have SA_8 := hid (SA_7.out.below hb)
  have SG_8 := hid (SG_7.out.below hb)
  have T3_8 := hid (T3_7.out.below hb)
  rw [HGG.out.close] at ho
  have SC_8 := hid (Sl.of_own ho)
  clear hb ho
  clear T3_7 T3_8
  go_wp2_with fail
  refine (cloneInts _ _ _ _ (by omega) _ SA_8.out).mono ?_; rintro e w9 ⟨A9, c9, rfl, ho, hb⟩
  have HB9 := hid (below_call HB8.out hb HB8.out.size)
  have SA_9 := hid (SA_8.out.below hb)
  have SG_9 := hid (SG_8.out.below hb)
  have SC_9 := hid (SC_8.out.below hb)
  have T4_9 := hid (Sl.of_own ho)
  clear hb ho
  go_wp2_with fail
  refine (HAK.out _ _ _ la _ HB9.out T4_9.out HGG.out.fam).mono ?_; rintro e w10 ⟨rfl, hb⟩
  have HB10 := hid (below_call HB9.out hb HB9.out.size)
  have SA_10 := hid (SA_9.out.below hb)
  have SG_10 := hid (SG_9.out.below hb)
  have SC_10 := hid (SC_9.out.below hb)
  have T4_10 := hid (T4_9.out.below hb)
  clear hb
  clear T4_9 T4_10
  have HASK := hid HGG.out.ask
  generalize askN (nP m) (setF la).testBit 0 0 = ka at *
  go_wp2_with fail
  refine (cloneInts _ _ _ _ (by omega) _ SA_10.out).mono ?_; rintro e w11 ⟨A11, c11, rfl, ho, hb⟩
  have HB11 := hid (below_call HB10.out hb HB10.out.size)
  have SA_11 := hid (SA_10.out.below hb)
  have SG_11 := hid (SG_10.out.below hb)
  have SC_11 := hid (SC_10.out.below hb)
  have T5_11 := hid (Sl.of_own ho)
  clear hb ho
  go_wp2_with fail
  refine (HDU.out _ _ _ la _ HB11.out T5_11.out HGG.out.fam).mono ?_; rintro e w12 ⟨A12, c12, l12, rfl, ho, hb⟩
  have HB12 := hid (below_call HB11.out hb HB11.out.size)
  have SA_12 := hid (SA_11.out.below hb)
  have SG_12 := hid (SG_11.out.below hb)
  have SC_12 := hid (SC_11.out.below hb)
  have T5_12 := hid (T5_11.out.below hb)
  rw [HGG.out.dual] at ho
  have SD_12 := hid (Sl.of_own ho)
  clear hb ho
  clear T5_11 T5_12
  go_wp2_with fail
  refine (HPR.out _ _ _ dl _ HB12.out SD_12.out HGG.out.dfam).mono ?_; rintro e w13 ⟨⟨b, rfl, hbb⟩, hb⟩
  have HB13 := hid (below_call HB12.out hb HB12.out.size)
  have SA_13 := hid (SA_12.out.below hb)
  have SG_13 := hid (SG_12.out.below hb)
  have SC_13 := hid (SC_12.out.below hb)
  have SD_13 := hid (SD_12.out.below hb)
  obtain rfl : b = true := hbb.2 HGG.out.dex
  clear hbb
  clear hb
  clear SD_12 SD_13
  go_wp2_with fail
  refine (equalG _ _ _ _ _ _ _ _ SG_13.out SA_13.out).mono ?_; rintro e w14 ⟨rfl, hb⟩
  have HB14 := hid (below_call HB13.out hb HB13.out.size)
  have SA_14 := hid (SA_13.out.below hb)
  have SG_14 := hid (SG_13.out.below hb)
  have SC_14 := hid (SC_13.out.below hb)
  clear hb
  clear SG_6 SG_7 SG_8 SG_9 SG_10 SG_11 SG_12 SG_13 SG_14
  go_wp2_with fail
  refine (equalG _ _ _ _ _ _ _ _ SC_14.out SA_14.out).mono ?_; rintro e w15 ⟨rfl, hb⟩
  have HB15 := hid (below_call HB14.out hb HB14.out.size)
  have SA_15 := hid (SA_14.out.below hb)
  have SC_15 := hid (SC_14.out.below hb)
  clear hb
  clear SC_8 SC_9 SC_10 SC_11 SC_12 SC_13 SC_14 SC_15
  have SX_15 := hid (HSL.out _ HB15.out)
  obtain ⟨W0, hW0⟩ : ∃ W0, W0 = w15 := ⟨_, rfl⟩
  subst hW0
  have HAW2 := hid (HAW.out _ HB15.out)
  go_wp2
  go_loopg [135] m2 (fun gk i wr => ∃ d : Nat, gk + d = m2 ∧ i = .int .i64 d ∧ Hid (W0 = wr))
  case atStart => exact ⟨0, by omega, rfl, hid rfl⟩
  case round =>
    obtain ⟨d, hd, rfl, HW⟩ := hrel
    obtain rfl := HW.out
    have HD := hid hd
    by_cases hlt : d < m2
    · have HLT := hid hlt
      obtain ⟨b, o, hA2, lb, hdx, c1⟩ := SX_15.out.num (by have := HLN.out; omega)
      have hmem := HMM.out _ (at0_mem hdx)
      have HCT := hid (containsS _ _ _ la (at0 zs2 d) _ SA_15.out)
      rw [decide_eq_true hmem] at HCT
      subst hA2
      clear hd hmem hdx lb
      go_wp2_with fail
      refine (HCT.out).mono ?_; rintro e w' ⟨rfl, rfl⟩
      go_wp2
      go_roundg (gk - 1)
      case measure => have := HD.out; have := HLT.out; omega
      case rel => exact ⟨d + 1, by have := HD.out; have := HLT.out; omega, by go_num, hid rfl⟩
    · obtain rfl : d = m2 := by have := HD.out; omega
      clear hd hlt
      have hll := SA_15.out.numlen
      have hpw : 0 < 2 ^ nP m := Nat.two_pow_pos _
      have hask := HASK.out
      rw [hll] at hask
      have hp := HE2.out
      rcases hask with ⟨hc | hc, ha⟩ | ⟨hc, ha⟩
      · subst ha hc
        clear hll hpw hp
        go_wp2_with fail
        refine (HAW2.out).mono ?_; rintro e w99 ⟨rfl, hb⟩
        have HB99 := hid (below_call HB15.out hb HB15.out.size)
        clear hb
        go_wp2
        go_ret
        exact ⟨rfl, HB99.out⟩
      · subst ha
        have q1 : ((ln : Int) == 0) = false := by rw [beq_eq_false_iff_ne]; omega
        have q2 : (ln == 0) = false := by rw [beq_eq_false_iff_ne]; omega
        have q3 : ((ln : Int) == p2 (nP m : Int)) = true := by rw [beq_iff_eq, hp]; omega
        have q4 : decide ((ln : Int) = 0) = false := decide_eq_false (by omega)
        clear hll hpw hp hc
        go_wp2_with fail
        refine (HAW2.out).mono ?_; rintro e w99 ⟨rfl, hb⟩
        have HB99 := hid (below_call HB15.out hb HB15.out.size)
        clear hb
        go_wp2
        go_ret
        exact ⟨rfl, HB99.out⟩
      · subst ha
        have q1 : ((ln : Int) == 0) = false := by rw [beq_eq_false_iff_ne]; omega
        have q2 : (ln == 0) = false := by rw [beq_eq_false_iff_ne]; omega
        have q3 : ((ln : Int) == p2 (nP m : Int)) = false := by rw [beq_eq_false_iff_ne, hp]; omega
        have q4 : decide ((ln : Int) = 0) = false := decide_eq_false (by omega)
        clear hll hpw hp hc
        go_wp2_with fail
        refine (HAW2.out).mono ?_; rintro e w99 ⟨rfl, hb⟩
        have HB99 := hid (below_call HB15.out hb HB15.out.size)
        clear hb
        go_wp2
        go_ret
        exact ⟨rfl, HB99.out⟩

theorem evadeGraphs_walk (w : World) (hT : Tab w) (m : Int) (_ : (Lit.int .i64 m).wf = true) (A2 : Option Addr) (k2 c2 : Nat) (ys : List Int) (ht : Sl w A2 k2 c2 (ys.map (Value.int .i64))) (_ : ∀ x ∈ ys, -9223372036854775808 ≤ x ∧ x ≤ 9223372036854775807) :
    Calls Tryd.prog 12 #[.int .i64 m, .slice A2 k2 c2] w fun e w' => e = .returned (.bool true) ∧ Below w.heap.size w w' := by
  by_cases h : 2 ≤ m ∧ m ≤ 4
  · obtain ⟨m, rfl⟩ := Int.eq_ofNat_of_zero_le (show 0 ≤ m by omega)
    have h2 : 2 ≤ m := by omega
    have h4 : m ≤ 4 := by omega
    by_cases h1 : SetsP (nP m : Nat) ys
    · exact evadeGraphs_yes w hT m A2 k2 c2 ys ht h2 h4 h1
    · exact evadeGraphs_no w hT m A2 k2 c2 ys ht h2 h4 h1
  · exact evadeGraphs_off w hT m A2 k2 c2 ys ht h
end Go.Proofs.YtjddbglbodkihaaDoor
