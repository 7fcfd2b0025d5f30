/- Walk of the law EvadeSplits. Condition: the table of the library stands. -/
import Derived.Test.YtjddbglbodkihaaDoorWalkSums
import Derived.Test.YtjddbglbodkihaaDoorPartW
import Derived.Test.YtjddbglbodkihaaDoorReadP
import Derived.Test.YtjddbglbodkihaaDoorSortE
namespace Go.Proofs.YtjddbglbodkihaaDoor
open Go.RowKit
attribute [local go_sem ↓] shl_p2 or_i

theorem parts_same {n : Nat} {l : List Int} (h : Fam n l) : famL (2 ^ n) (partsR l) = l := by
  have hc : Clo n (setF l) (setF l) := ⟨h.lt, fun _ h => h, fun u hu => ⟨u, hu, fun _ h => h⟩, fun s x hx hs => h.rm hx hs⟩
  rw [← clo_list (SetsP.of_fam h) hc, h.lst]
def adI (x : Nat) (l : List Int) : List Int := l.map fun s => ((ad s.toNat x : Nat) : Int)
theorem adI_snoc (x : Nat) (l : List Int) (s : Int) : adI x (l ++ [s]) = adI x l ++ [((ad s.toNat x : Nat) : Int)] := by simp [adI]
theorem adI_len (x : Nat) (l : List Int) : (adI x l).length = l.length := by simp [adI]
/-- What the law asks of a family and its parts. -/
structure Spl (n x : Nat) (xs la lb : List Int) : Prop where
  fa : Fam n la
  fb : Fam n lb
  sum : sumL xs = sumL lb - sumL la
  sub : ∀ s ∈ la, s ∈ lb
  sort : sortI (lb ++ adI x la) = xs
theorem spl_of {n x : Nat} {xs : List Int} (h : Fam n xs) (hx : x < n) : Spl n x xs (famL (2 ^ n) (linkP x (setF xs))) (famL (2 ^ n) (outP x (setF xs))) where
  fa := fam_link h x
  fb := fam_out h x
  sum := sum_split h hx
  sub := fun s hs => by
    obtain ⟨h0, h1, h2⟩ := mem_famL.1 hs
    exact mem_famL.2 ⟨h0, h1, link_sub h hx h2⟩
  sort := sort_fam h (sortI_perm _) (sortI_asc _)

set_option maxRecDepth 100000 in
set_option maxHeartbeats 4000000 in
theorem evadeSplits_bad (w : World) (hT : Tab w) (n : Int) (A : Option Addr) (k c : Nat) (xs : List Int) (hs : Sl w A k c (xs.map (Value.int .i64))) (x : Int) (H : ¬ (Fam n xs ∧ 0 ≤ x ∧ x < n)) :
    Calls Tryd.prog 14 #[.int .i64 n, .slice A k c, .int .i64 x] w fun e w' => e = .returned (.bool true) ∧ Below w.heap.size w w' := by
  obtain ⟨m1, zs1, hC1⟩ := cp_of hs
  have HC1 := hid hC1
  have HAW := hid fun W (hb : Below w.heap.size w W) => awakeF W (hT.below hb)
  have HLK := hid fun A' c' W (hb : Below w.heap.size w W) (s1 : Sl W A' m1 c' (zs1.map (Value.int .i64))) => linkNo n x A' m1 c' zs1 W s1 (hT.below hb) (by rw [hC1.fam]; exact H)
  have HWO := hid fun A' c' W (hb : Below w.heap.size w W) (s1 : Sl W A' m1 c' (zs1.map (Value.int .i64))) => withoutNo n x A' m1 c' zs1 W s1 (hT.below hb) (by rw [hC1.fam]; exact H)
  clear hC1 hs hT H
  have HB0 := hid (Below.refl w.heap.size w)
  go_enter Tryd.func14, Tryd.ntmps14
  go_wp2_with fail
  refine (HC1.out.run _ HB0.out).mono ?_; rintro e w1 ⟨A1, c1, rfl, ho, hb⟩
  have HB1 := hid (below_call HB0.out hb HB0.out.size)
  have S1_1 := hid (Sl.of_own ho)
  clear hb ho
  go_wp2_with fail
  refine (HLK.out _ _ _ HB1.out S1_1.out).mono ?_; rintro e w2 ⟨rfl, hb⟩
  have HB2 := hid (below_call HB1.out hb HB1.out.size)
  have S1_2 := hid (S1_1.out.below hb)
  clear hb
  clear S1_1 S1_2
  go_wp2_with fail
  refine (HC1.out.run _ HB2.out).mono ?_; rintro e w3 ⟨A3, c3, rfl, ho, hb⟩
  have HB3 := hid (below_call HB2.out hb HB2.out.size)
  have S2_3 := hid (Sl.of_own ho)
  clear hb ho
  go_wp2_with fail
  refine (HWO.out _ _ _ HB3.out S2_3.out).mono ?_; rintro e w4 ⟨rfl, hb⟩
  have HB4 := hid (below_call HB3.out hb HB3.out.size)
  have S2_4 := hid (S2_3.out.below hb)
  clear hb
  clear S2_3 S2_4
  go_wp2_with fail
  refine (HAW.out _ HB4.out).mono ?_; rintro e w5 ⟨rfl, hb⟩
  have HB5 := hid (below_call HB4.out hb HB4.out.size)
  clear hb
  go_wp2
  go_ret
  exact ⟨rfl, HB5.out⟩


set_option maxRecDepth 100000 in
set_option maxHeartbeats 4000000 in
theorem evadeSplits_good (w : World) (hT : Tab w) (n : Nat) (A : Option Addr) (k c : Nat) (xs : List Int) (hs : Sl w A k c (xs.map (Value.int .i64))) (x : Nat) (h1 : Fam n xs) (hx : x < n) :
    Calls Tryd.prog 14 #[.int .i64 n, .slice A k c, .int .i64 x] w fun e w' => e = .returned (.bool true) ∧ Below w.heap.size w w' := by
  obtain ⟨m1, zs1, hC1⟩ := cp_of hs
  obtain ⟨rfl, rfl⟩ := hC1.same ⟨_, h1⟩
  have HC1 := hid hC1
  have hsp := spl_of h1 hx
  have HAW := hid fun W (hb : Below w.heap.size w W) => awakeF W (hT.below hb)
  have HF := hid fun W (hb : Below w.heap.size w W) => familyYes n A m1 c zs1 W (hs.below hb) h1
  have HLK := hid fun A' c' W (hb : Below w.heap.size w W) (s1 : Sl W A' m1 c' (zs1.map (Value.int .i64))) => linkYes n x A' m1 c' zs1 W s1 (hT.below hb) h1 hx
  have HWO := hid fun A' c' W (hb : Below w.heap.size w W) (s1 : Sl W A' m1 c' (zs1.map (Value.int .i64))) => withoutYes n x A' m1 c' zs1 W s1 (hT.below hb) h1 hx
  have q1 : (decide (0 ≤ (x : Int)) && decide ((x : Int) < n)) = true := by rw [decide_eq_true (show (0 : Int) ≤ x by omega), decide_eq_true (show (x : Int) < n by omega)]; rfl
  have HEL := hid fun W => elementF n x W
  rw [q1] at HEL
  obtain ⟨la, hla⟩ : ∃ la, famL (2 ^ n) (linkP x (setF zs1)) = la := ⟨_, rfl⟩
  obtain ⟨lb, hlb⟩ : ∃ lb, famL (2 ^ n) (outP x (setF zs1)) = lb := ⟨_, rfl⟩
  rw [hla] at HLK hsp
  rw [hlb] at HWO hsp
  have hfa := hsp.fa
  have hfb := hsp.fb
  have ha64 := hfa.len64
  have hb64 := hfb.len64
  have HCA := hid fun A' j c' W (s1 : Sl W A' j c' (la.map (Value.int .i64))) => cloneInts A' j c' la (by have := s1.numlen; omega) W s1
  have HCB := hid fun A' j c' W (s1 : Sl W A' j c' (lb.map (Value.int .i64))) => cloneInts A' j c' lb (by have := s1.numlen; omega) W s1
  have HS1 := hid fun A' c' W (hb : Below w.heap.size w W) (s1 : Sl W A' m1 c' (zs1.map (Value.int .i64))) => sumYes n A' m1 c' zs1 W s1 (hT.below hb) h1
  have HSA := hid fun A' j c' W (hb : Below w.heap.size w W) (s1 : Sl W A' j c' (la.map (Value.int .i64))) => sumYes n A' j c' la W s1 (hT.below hb) hfa
  have HSB := hid fun A' j c' W (hb : Below w.heap.size w W) (s1 : Sl W A' j c' (lb.map (Value.int .i64))) => sumYes n A' j c' lb W s1 (hT.below hb) hfb
  have HCL := hid fun A' j c' W (hb : Below w.heap.size w W) (s1 : Sl W A' j c' (la.map (Value.int .i64))) => closeYes n A' j c' la W s1 (hT.below hb) (SetsP.of_fam hfa)
  rw [parts_same hfa] at HCL
  have HCT := hid fun A' j c' W s (hs : s ∈ la) (s1 : Sl W A' j c' (lb.map (Value.int .i64))) => (show Calls Tryd.prog 55 #[.slice A' j c', .int .i64 s] W fun e w' => e = .returned (.bool true) ∧ W = w' from by
    have e := containsS A' j c' lb s W s1
    rwa [decide_eq_true (hsp.sub s hs)] at e)
  have HEX := hid fun A' c' j B' k1 d1 W (s1 : Sl W A' j c' (zs1.map (Value.int .i64))) s2 => equalYes' A' B' j c' k1 d1 zs1 W s1 s2
  have HEA := hid fun A' c' j B' k1 d1 W (s1 : Sl W A' j c' (la.map (Value.int .i64))) s2 => equalYes' A' B' j c' k1 d1 la W s1 s2
  have HOR := hid hs
  have HSRT := hid fun base v m ys W (ho : World.ownsRow W base 3 1 v m ((ys : List Int).map (Value.int .i64))) (hm : m ≤ 100000) => sortS base v m ys W ho hm
  have HXS := hid hsp.sort
  have HRA := hid hfa.bd64
  have hsa := sumL_bd la
  have hsb := sumL_bd lb
  have hva : -64 ≤ sumL la ∧ sumL la ≤ 64 := by omega
  have hvb : -64 ≤ sumL lb ∧ sumL lb ≤ 64 := by omega
  have q5 : (sumL zs1 == sumL lb - sumL la) = true := by rw [beq_iff_eq]; exact hsp.sum
  have hx5 : x ≤ 5 := by have := h1.n6n; omega
  have H64 := hid (And.intro ha64 hb64)
  have FX : Fits (x : Int) := ⟨by omega, by omega⟩
  have e5 : ((x : Int)).toNat = x := Int.toNat_natCast x
  generalize sumL zs1 = v1 at *
  generalize sumL la = va at *
  generalize sumL lb = vb at *
  clear hC1 hs hT h1 hx hsp q1 hla hlb hfa hfb ha64 hb64 hsa hsb
  have HB0 := hid (Below.refl w.heap.size w)
  go_enter Tryd.func14, Tryd.ntmps14
  go_wp2_with fail
  refine (HC1.out.run _ HB0.out).mono ?_; rintro e w1 ⟨A1, c1, rfl, ho, hb⟩
  have HB1 := hid (below_call HB0.out hb HB0.out.size)
  have S1_1 := hid (Sl.of_own ho)
  clear hb ho
  go_wp2_with fail
  refine (HLK.out _ _ _ HB1.out S1_1.out).mono ?_; rintro e w2 ⟨A2, c2, l2, rfl, ho, hb⟩
  have HB2 := hid (below_call HB1.out hb HB1.out.size)
  have S1_2 := hid (S1_1.out.below hb)
  have SA_2 := hid (Sl.of_own ho)
  clear hb ho
  clear S1_1 S1_2
  obtain ⟨na, hna⟩ : ∃ na, l2 = na := ⟨_, rfl⟩
  subst hna
  go_wp2_with fail
  refine (HC1.out.run _ HB2.out).mono ?_; rintro e w3 ⟨A3, c3, rfl, ho, hb⟩
  have HB3 := hid (below_call HB2.out hb HB2.out.size)
  have SA_3 := hid (SA_2.out.below hb)
  have S2_3 := hid (Sl.of_own ho)
  clear hb ho
  go_wp2_with fail
  refine (HWO.out _ _ _ HB3.out S2_3.out).mono ?_; rintro e w4 ⟨A4, c4, l4, rfl, ho, hb⟩
  have HB4 := hid (below_call HB3.out hb HB3.out.size)
  have SA_4 := hid (SA_3.out.below hb)
  have S2_4 := hid (S2_3.out.below hb)
  have SB_4 := hid (Sl.of_own ho)
  clear hb ho
  clear S2_3 S2_4
  go_wp2_with fail
  refine (HF.out _ HB4.out).mono ?_; rintro e w5 ⟨rfl, hb⟩
  have HB5 := hid (below_call HB4.out hb HB4.out.size)
  have SA_5 := hid (SA_4.out.below hb)
  have SB_5 := hid (SB_4.out.below hb)
  clear hb
  go_wp2_with fail
  refine (HEL.out _).mono ?_; rintro e w' ⟨rfl, rfl⟩
  go_wp2_with fail
  refine (HCB.out _ _ _ _ SB_5.out).mono ?_; rintro e wc ⟨Ac, cc, rfl, hoc, hbc⟩
  have HBC := hid hbc
  have HOC := hid hoc
  have hla1 := SA_5.out.numlen
  have hlb1 := SB_5.out.numlen
  have HLN := hid (And.intro hla1 hlb1)
  have hw0 := HB5.out.size
  clear hbc hoc hla1 hlb1
  go_wp2
  go_loopg [11, 70] l2 (fun gk v i wr => ∃ d : Nat, gk + d = l2 ∧ i = .int .i64 d ∧ (∃ A c, v = .slice A (l4 + d) c ∧ Hid (wr.ownsRow w5.heap.size 3 1 (.slice A (l4 + d) c) (l4 + d) ((lb ++ adI x (la.take d)).map (Value.int .i64)))) ∧ Hid (Below w5.heap.size w5 wr))
  case atStart => exact ⟨0, by omega, rfl, ⟨Ac, cc, rfl, hid (by simpa [adI] using HOC.out)⟩, HBC⟩
  case round =>
    obtain ⟨d, hd, rfl, ⟨A3, c3, rfl, hO⟩, HW⟩ := hrel
    have HD := hid hd
    have hz := HW.out.size
    by_cases hlt : d < l2
    · have HLT1 := hid hlt
      obtain ⟨b, o, hAe, lb0, hdx, c1⟩ := SA_5.out.num hlt
      have c1' := (HW.out.cell (p := ⟨b, o + d, none⟩) lb0).trans c1
      have lb' : b < wr.heap.size := by omega
      have hmem := at0_mem hdx
      have hr := HRA.out _ hmem
      obtain ⟨s, hse⟩ := Int.eq_ofNat_of_zero_le hr.1
      have hs64 : s < 64 := by omega
      have OX : OrI s (x : Int) := ⟨by omega, by omega, by omega⟩
      obtain ⟨cur, hcur⟩ : ∃ cur, lb ++ adI x (la.take d) = cur := ⟨_, rfl⟩
      have HSN := hid (show lb ++ adI x (la.take (d + 1)) = cur ++ [((ad s x : Nat) : Int)] from by rw [take_at hdx, hse, adI_snoc, Int.toNat_natCast, ← List.append_assoc, hcur])
      rw [hcur] at hO
      have HCTT := hid fun W (hW : Below w5.heap.size w5 W) => HCT.out _ _ _ W _ hmem (SB_5.out.below hW)
      rw [hse] at c1' HCTT
      have hbd : l4 + d ≤ 200 := by have := H64.out; have := HLN.out; omega
      subst hAe
      clear hcur c1 lb0 hdx hmem hr hse hd
      go_wp2_with (first
        | (go_at_call 55; refine (HCTT.out _ HB3.out).mono ?_; rintro e w9 ⟨rfl, rfl⟩)
        | (at_builtin; refine push1 TI22 wr #[.int .i64 ((ad s x : Nat) : Int)] _ _ _ _ hO.out _ _ rfl rfl rfl rfl rfl (by simp [Value.oneCell']) (by omega) (by omega) hz ?_; intro v1 w3 hown1 hgr; have hb1 : Below w5.heap.size w5 w3 := below_push HW.out hO.out hgr hz (Nat.le_refl _); obtain ⟨A1, c1, rfl⟩ := own_form hown1; have HO3 := hid hown1; have HB3 := hid hb1; clear hown1 hgr hb1))
      go_roundg (gk - 1)
      case measure => have := HD.out; have := HLT1.out; omega
      case rel =>
        refine ⟨d + 1, by have := HD.out; have := HLT1.out; omega, by go_num, ⟨A1, c1, rfl, ?_⟩, HB3⟩
        rw [HSN.out]
        exact hid (by simpa [Nat.add_assoc] using HO3.out)
    · obtain rfl : d = l2 := by have := HD.out; omega
      have hcl : la.take d = la := List.take_of_length_le (by have := HLN.out.1; omega)
      rw [hcl] at hO
      have HSO := hid (HSRT.out _ _ _ _ wr hO.out (by have := H64.out; have := HLN.out; omega))
      rw [HXS.out] at HSO
      clear hd hcl
      go_wp2_with fail
      refine (HSO.out).mono ?_; rintro e w6 ⟨rfl, hos, hgs⟩
      have hbs : Below w5.heap.size w5 w6 := below_own HW.out hO.out hgs hz (Nat.le_refl _)
      have SL_6 := hid (Sl.of_own hos)
      have SA_6 := hid (SA_5.out.below hbs)
      have SB_6 := hid (SB_5.out.below hbs)
      have HB6 := hid (below_call HB5.out hbs hw0)
      clear hos hgs hbs
      go_wp2_with fail
      refine (HC1.out.run _ HB6.out).mono ?_; rintro e w7 ⟨A7, c7, rfl, ho, hb⟩
      have HB7 := hid (below_call HB6.out hb HB6.out.size)
      have SL_7 := hid (SL_6.out.below hb)
      have SA_7 := hid (SA_6.out.below hb)
      have SB_7 := hid (SB_6.out.below hb)
      have T1_7 := hid (Sl.of_own ho)
      clear hb ho
      go_wp2_with fail
      refine (HS1.out _ _ _ HB7.out T1_7.out).mono ?_; rintro e w8 ⟨rfl, hb⟩
      have HB8 := hid (below_call HB7.out hb HB7.out.size)
      have SL_8 := hid (SL_7.out.below hb)
      have SA_8 := hid (SA_7.out.below hb)
      have SB_8 := hid (SB_7.out.below hb)
      have T1_8 := hid (T1_7.out.below hb)
      clear hb
      clear T1_7 T1_8
      go_wp2_with fail
      refine (HCA.out _ _ _ _ SA_8.out).mono ?_; rintro e w9 ⟨A9, c9, rfl, ho, hb⟩
      have HB9 := hid (below_call HB8.out hb HB8.out.size)
      have SL_9 := hid (SL_8.out.below hb)
      have SA_9 := hid (SA_8.out.below hb)
      have SB_9 := hid (SB_8.out.below hb)
      have T2_9 := hid (Sl.of_own ho)
      clear hb ho
      go_wp2_with fail
      refine (HSA.out _ _ _ _ HB9.out T2_9.out).mono ?_; rintro e w10 ⟨rfl, hb⟩
      have HB10 := hid (below_call HB9.out hb HB9.out.size)
      have SL_10 := hid (SL_9.out.below hb)
      have SA_10 := hid (SA_9.out.below hb)
      have SB_10 := hid (SB_9.out.below hb)
      have T2_10 := hid (T2_9.out.below hb)
      clear hb
      clear T2_9 T2_10
      go_wp2_with fail
      refine (HCB.out _ _ _ _ SB_10.out).mono ?_; rintro e w11 ⟨A11, c11, rfl, ho, hb⟩
      have HB11 := hid (below_call HB10.out hb HB10.out.size)
      have SL_11 := hid (SL_10.out.below hb)
      have SA_11 := hid (SA_10.out.below hb)
      have SB_11 := hid (SB_10.out.below hb)
      have T3_11 := hid (Sl.of_own ho)
      clear hb ho
      go_wp2_with fail
      refine (HSB.out _ _ _ _ HB11.out T3_11.out).mono ?_; rintro e w12 ⟨rfl, hb⟩
      have HB12 := hid (below_call HB11.out hb HB11.out.size)
      have SL_12 := hid (SL_11.out.below hb)
      have SA_12 := hid (SA_11.out.below hb)
      have SB_12 := hid (SB_11.out.below hb)
      have T3_12 := hid (T3_11.out.below hb)
      clear hb
      clear T3_11 T3_12
      go_wp2_with fail
      refine (HCA.out _ _ _ _ SA_12.out).mono ?_; rintro e w13 ⟨A13, c13, rfl, ho, hb⟩
      have HB13 := hid (below_call HB12.out hb HB12.out.size)
      have SL_13 := hid (SL_12.out.below hb)
      have SA_13 := hid (SA_12.out.below hb)
      have SB_13 := hid (SB_12.out.below hb)
      have T4_13 := hid (Sl.of_own ho)
      clear hb ho
      go_wp2_with fail
      refine (HCL.out _ _ _ _ HB13.out T4_13.out).mono ?_; rintro e w14 ⟨A14, c14, l14, rfl, ho, hb⟩
      have HB14 := hid (below_call HB13.out hb HB13.out.size)
      have SL_14 := hid (SL_13.out.below hb)
      have SA_14 := hid (SA_13.out.below hb)
      have SB_14 := hid (SB_13.out.below hb)
      have T4_14 := hid (T4_13.out.below hb)
      have SC_14 := hid (Sl.of_own ho)
      clear hb ho
      clear T4_13 T4_14
      go_wp2_with fail
      refine (HEX.out _ _ _ _ _ _ _ SL_14.out (HOR.out.below HB14.out)).mono ?_; rintro e w15 ⟨rfl, hb⟩
      have HB15 := hid (below_call HB14.out hb HB14.out.size)
      have SL_15 := hid (SL_14.out.below hb)
      have SA_15 := hid (SA_14.out.below hb)
      have SB_15 := hid (SB_14.out.below hb)
      have SC_15 := hid (SC_14.out.below hb)
      clear hb
      go_wp2_with fail
      refine (HEA.out _ _ _ _ _ _ _ SC_15.out SA_15.out).mono ?_; rintro e w16 ⟨rfl, hb⟩
      have HB16 := hid (below_call HB15.out hb HB15.out.size)
      have SL_16 := hid (SL_15.out.below hb)
      have SA_16 := hid (SA_15.out.below hb)
      have SB_16 := hid (SB_15.out.below hb)
      have SC_16 := hid (SC_15.out.below hb)
      clear hb
      go_wp2_with fail
      refine (HAW.out _ HB16.out).mono ?_; rintro e w17 ⟨rfl, hb⟩
      have HB17 := hid (below_call HB16.out hb HB16.out.size)
      have SL_17 := hid (SL_16.out.below hb)
      have SA_17 := hid (SA_16.out.below hb)
      have SB_17 := hid (SB_16.out.below hb)
      have SC_17 := hid (SC_16.out.below hb)
      clear hb
      go_wp2
      go_ret
      exact ⟨rfl, HB17.out⟩


theorem evadeSplits_walk (w : World) (hT : Tab w) (n : Int) (_ : (Lit.int .i64 n).wf = true) (A : Option Addr) (k c : Nat) (xs : List Int) (hs : Sl w A k c (xs.map (Value.int .i64))) (_ : ∀ x ∈ xs, -9223372036854775808 ≤ x ∧ x ≤ 9223372036854775807) (x : Int) (_ : (Lit.int .i64 x).wf = true) :
    Calls Tryd.prog 14 #[.int .i64 n, .slice A k c, .int .i64 x] w fun e w' => e = .returned (.bool true) ∧ Below w.heap.size w w' := by
  by_cases H : Fam n xs ∧ 0 ≤ x ∧ x < n
  · obtain ⟨h1, h2, h3⟩ := H
    obtain ⟨n, rfl⟩ := Int.eq_ofNat_of_zero_le (show 0 ≤ n by have := h1.n1; omega)
    obtain ⟨x, rfl⟩ := Int.eq_ofNat_of_zero_le h2
    exact evadeSplits_good w hT n A k c xs hs x h1 (by omega)
  · exact evadeSplits_bad w hT n A k c xs hs x H
end Go.Proofs.YtjddbglbodkihaaDoor
