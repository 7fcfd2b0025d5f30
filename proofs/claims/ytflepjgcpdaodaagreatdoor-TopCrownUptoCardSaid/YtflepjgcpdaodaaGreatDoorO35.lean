/- Walk of ranks.Order. Conditions: a tournament of one to eight players; the library's table of 64 numbers stands in its variable. -/
import Derived.Test.YtflepjgcpdaodaaGreatDoorO34
namespace Go.Proofs.YtflepjgcpdaodaaGreatDoor
open Go.RowKit Go.Shelf
attribute [local go_sem] Oper.semAt_some
attribute [local go_sem ↓] shl_p2 shr_v and_shr
set_option maxRecDepth 100000 in
set_option maxHeartbeats 40000000 in
theorem orderF (n : Nat) (b : Nat → Nat → Bool) (A : Option Addr) (c : Nat) (w : World) (h1 : 1 ≤ n) (h8 : n ≤ 8) (hb : TourOk n b) (hs : Sl w A n c (intV (ordL n b))) (hT : Tab w) :
 Calls Tryz.prog 11 #[.slice A n c] w fun e w' => ∃ O oc, e = .returned (.tuple #[.slice O (bestL n b).length oc, .int .i64 0]) ∧ w'.ownsRow w.heap.size 3 1 (.slice O (bestL n b).length oc) (bestL n b).length (natV (bestL n b)) ∧ Below w.heap.size w w' := by
 obtain ⟨ab, ao, rfl, lb, hca⟩ := hs.pos (by omega)
 have HCA := hid fun (k : Nat) (hk : k < n) => hca k _ (intV_ordL (a := b) hk)
 have XB := hid ((Below.refl w.heap.size w).alloc (Nat.le_refl _) (.cells #[.slice (some ⟨ab, ao, none⟩) n c] 27))
 have X0 := hid (Blk.new w 27 #[.slice (some ⟨ab, ao, none⟩) n c])
 have HV := hid (tourValid (some ⟨ab, ao, none⟩) n c b (w.alloc (.cells #[.slice (some ⟨ab, ao, none⟩) n c] 27)) (hs.alloc _) hb h1 h8)
 have HAL := hid fun (W : World) (hb : Below w.heap.size w W) => tourAll (some ⟨ab, ao, none⟩) n c _ W (hs.below hb) h8
 have HT := hid hT
 have HTB := hid hb
 have HN := hid (And.intro h1 h8)
 have hcap := hs.cap
 have hcapm := hs.capm
 have hM : (2 : Nat) ^ n ≤ 256 := Nat.pow_le_pow_right (by decide : 0 < 2) h8
 have hM0 := Nat.two_pow_pos n
 have hM1 : (2 : Nat) ≤ 2 ^ n := Nat.pow_le_pow_right (by decide : 0 < 2) h1
 have hp2 := p2_nat n
 have fn : Fits (n : Int) := ⟨by omega, by omega⟩
 have hmk : ∀ W : World, (Instr.makeSlice 27 (.int .i64 (p2 (n : Int))) (.int .i64 (p2 (n : Int)))).run Tryz.prog W = .ok (.slice (some ⟨W.heap.size, 0, none⟩) (2 ^ n) (2 ^ n)) (W.alloc (.cells (arr (2 ^ n) fun _ => 0) 3)) := fun W => by
  rw [hp2]
  exact makeInts (2 ^ n) (by omega) W
 have HP2 := hid hp2
 clear hs hT hca hb hp2
 refine (callsIn_wide (n := 9)).1 ?_
 refine callsIn_of_wp_marks Tryz.func11 rfl trivial ?_ rfl
 simp only [Tryz.ntmps11, List.size_toArray, List.length_cons, List.length_nil, Nat.reduceAdd, Nat.reduceSub, Array.replicate_succ, Array.replicate_zero, List.push_toArray, List.append_toArray, List.nil_append, List.cons_append]
 gi_wp2
 refine ⟨trivial, (callsIn_wide.2 HV.out).mono ?_⟩
 rintro e w1 ⟨rfl, b1⟩
 have Y0 := hid (X0.out.keep b1)
 have YB := hid (below_call XB.out b1 XB.out.size)
 clear b1 X0 XB HV
 have y0 := Y0.out.cell 0
 simp only [List.getElem?_toArray, List.getElem?_cons_zero] at y0
 gi_wp2
 have hbb : Below w1.heap.size w1 (((w1.alloc (.cells (arr (2 ^ n) fun _ => 0) 3)).alloc (.cells #[.slice (some ⟨w1.heap.size, 0, none⟩) (2 ^ n) (2 ^ n)] 27)).alloc (.cells #[.func (.func 25) #[] #[.pointer (some ⟨w.heap.size, 0, none⟩), .pointer (some ⟨w1.heap.size + 1, 0, none⟩)]] 54)) := (((Below.refl _ w1).alloc (Nat.le_refl _) _).alloc (by simp) _).alloc (by simp; omega) _
 have hlow := YB.out.size
 have hzz := Y0.out.lt
 have OD := hid (show OdS w (((w1.alloc (.cells (arr (2 ^ n) fun _ => 0) 3)).alloc (.cells #[.slice (some ⟨w1.heap.size, 0, none⟩) (2 ^ n) (2 ^ n)] 27)).alloc (.cells #[.func (.func 25) #[] #[.pointer (some ⟨w.heap.size, 0, none⟩), .pointer (some ⟨w1.heap.size + 1, 0, none⟩)]] 54)) ab ao n c w1.heap.size (w1.heap.size + 1) (w1.heap.size + 1 + 1) from
  ⟨Y0.out.keep hbb, (Blk.new_at (w1.alloc (.cells (arr (2 ^ n) fun _ => 0) 3)) 27 #[.slice (some ⟨w1.heap.size, 0, none⟩) (2 ^ n) (2 ^ n)] (n := w1.heap.size + 1) (by simp)).alloc _, Blk.new_at ((w1.alloc (.cells (arr (2 ^ n) fun _ => 0) 3)).alloc (.cells #[.slice (some ⟨w1.heap.size, 0, none⟩) (2 ^ n) (2 ^ n)] 27)) 54 #[.func (.func 25) #[] #[.pointer (some ⟨w.heap.size, 0, none⟩), .pointer (some ⟨w1.heap.size + 1, 0, none⟩)]] (n := w1.heap.size + 1 + 1) (by simp), below_call YB.out hbb YB.out.size, HT.out.below (below_call YB.out hbb YB.out.size)⟩)
 have ZT := hid (((Blk.new w1 3 (arr (2 ^ n) fun _ => 0)).alloc (.cells #[.slice (some ⟨w1.heap.size, 0, none⟩) (2 ^ n) (2 ^ n)] 27)).alloc (.cells #[.func (.func 25) #[] #[.pointer (some ⟨w.heap.size, 0, none⟩), .pointer (some ⟨w1.heap.size + 1, 0, none⟩)]] 54))
 have hsz3 : (((w1.alloc (.cells (arr (2 ^ n) fun _ => 0) 3)).alloc (.cells #[.slice (some ⟨w1.heap.size, 0, none⟩) (2 ^ n) (2 ^ n)] 27)).alloc (.cells #[.func (.func 25) #[] #[.pointer (some ⟨w.heap.size, 0, none⟩), .pointer (some ⟨w1.heap.size + 1, 0, none⟩)]] 54)).heap.size = w1.heap.size + 3 := by simp
 clear hbb Y0 YB y0 hmk
 generalize ((w1.alloc (.cells (arr (2 ^ n) fun _ => 0) 3)).alloc (.cells #[.slice (some ⟨w1.heap.size, 0, none⟩) (2 ^ n) (2 ^ n)] 27)).alloc (.cells #[.func (.func 25) #[] #[.pointer (some ⟨w.heap.size, 0, none⟩), .pointer (some ⟨w1.heap.size + 1, 0, none⟩)]] 54) = V at *
 obtain ⟨rx, hrx⟩ : ∃ x, x = w1.heap.size := ⟨_, rfl⟩
 obtain ⟨rv, hrv⟩ : ∃ x, x = w1.heap.size + 1 := ⟨_, rfl⟩
 obtain ⟨cv, hcv⟩ : ∃ x, x = w1.heap.size + 1 + 1 := ⟨_, rfl⟩
 rw [← hcv, ← hrv, ← hrx] at OD ⊢
 rw [← hrx] at ZT
 have HLOC := hid (show w.heap.size < rx ∧ rx < rv ∧ rv < cv ∧ cv < V.heap.size from by omega)
 have HTP := hid HT.out.pos
 clear hrx hrv hcv hsz3 hlow hzz
 refine ⟨trivial, (callsIn_wide.2 (HAL.out V OD.out.lo)).mono ?_⟩
 rintro e w' ⟨rfl, rfl⟩
 have hpl : (2 : Int) ≤ p2 n := by have := HP2.out; omega
 have hpu : p2 n ≤ 256 := by have := HP2.out; omega
 gi_wp2
 have OD2 := hid (OD.out.below ((Below.refl _ V).alloc (Nat.le_refl _) (.cells #[.int .i64 (p2 n - 1 - 1)] 3)))
 have ZT2 := hid (ZT.out.alloc (.cells #[.int .i64 (p2 n - 1 - 1)] 3))
 have ZS2 := hid (Blk.new V 3 #[.int .i64 (p2 n - 1 - 1)])
 have HVS := hid HLOC.out.2.2.2
 have HLO := hid (And.intro HLOC.out.1 (And.intro HLOC.out.2.1 HLOC.out.2.2.1))
 clear OD ZT HLOC
 obtain ⟨sv0, hsv0⟩ : ∃ x, x = V.heap.size := ⟨_, rfl⟩
 rw [← hsv0] at ZS2 HVS ⊢
 clear hsv0
 generalize V.alloc (.cells #[.int .i64 (p2 n - 1 - 1)] 3) = V2 at *
 obtain ⟨I, hI⟩ : ∃ I : Act → World → Prop, I = inv1 w ab ao n c rx rv cv b := ⟨_, rfl⟩
 obtain ⟨μ, hμ⟩ : ∃ μ : Act → World → Nat, μ = fun t W => match t.tmps.getD 7 undef with
  | .pointer (some a) => (match W.cell? a with
   | some (.int _ x) => (x + 1).toNat
   | _ => 0)
  | _ => 0 := ⟨_, rfl⟩
 have HI := hid hI
 have HMU := hid hμ
 refine wpIn_loop I μ ?_ ?_
 · rw [hI]
   refine ⟨2 ^ n - 1, sv0, [], by omega, HVS.out, oT1_ex rfl, rfl, OD2.out, ?_, ?_, MarkS.nil _ _⟩
   · rw [show (((2 ^ n - 1 : Nat) : Int) - 1) = p2 n - 1 - 1 from by have := HP2.out; omega]
     exact ZS2.out
   · rw [← tab_start]
     exact ZT2.out
 clear hI hμ OD2 ZT2 ZS2
 intro t W2 hin
 rw [HI.out] at hin
 obtain ⟨s, sv, Ds, hs1, hsv, ⟨f, hf⟩, hds, hod, hbs, hbt, hms⟩ := hin
 obtain ⟨tt, td⟩ := t
 simp only at hf hds
 subst hf hds
 have OD := hid hod
 have ZS := hid hbs
 have ZT := hid hbt
 have ZM := hid hms
 have HSV := hid hsv
 have HMK : Hid (μ { tmps := oT1 w.heap.size ab ao n c rv cv sv f, defers := marks Ds } W2 = s) := hid (by
  have hc := hbs.cell 0
  simp only [List.getElem?_toArray, List.getElem?_cons_zero] at hc
  rw [HMU.out]
  show (match W2.cell? ⟨sv, 0, none⟩ with
   | some (.int _ x) => (x + 1).toNat
   | _ => 0) = s
  rw [hc]
  show ((s : Int) - 1 + 1).toNat = s
  omega)
 clear hod hbs hbt hms hsv
 rw [HMK.out]
 unfold oT1
 cases s with
 | zero =>
  have ys := ZS.out.cell 0
  simp only [List.getElem?_toArray, List.getElem?_cons_zero] at ys
  clear hs1
  have OD5 := hid ((OD.out.below ((Below.refl _ W2).alloc (Nat.le_refl _) (.cells #[.slice none 0 0] 27))).below ((Below.refl _ _).alloc (Nat.le_refl _) (.cells #[.int .i64 0] 3)))
  have hb2 : Below W2.heap.size W2 ((W2.alloc (.cells #[.slice none 0 0] 27)).alloc (.cells #[.int .i64 0] 3)) := ((Below.refl _ W2).alloc (Nat.le_refl _) _).alloc (by simp) _
  have hc2 := OD.out.bc.lt
  have PK0 := hid (show PkS w ((W2.alloc (.cells #[.slice none 0 0] 27)).alloc (.cells #[.int .i64 0] 3)) ab ao n c rx rv cv b (W2.heap.size + 1) W2.heap.size (fun _ => false) [] none 0 Ds from
   ⟨OD5.out, by rw [mk_none]; exact Blk.new_at (W2.alloc (.cells #[.slice none 0 0] 27)) 3 #[.int .i64 0] (n := W2.heap.size + 1) (by simp), ZT.out.keep hb2, (Blk.new W2 27 #[.slice none 0 0]).alloc _, World.ownsRow_nil _ _ _ _, ZM.out.keep ZM.out.lt hb2⟩)
  gi_wp2
  obtain ⟨ov, hov⟩ : ∃ x, x = W2.heap.size := ⟨_, rfl⟩
  have HOV := hid (show cv < ov from by omega)
  clear OD5 hb2 hc2 OD ZT ZS ZM ys HMK
  try simp only [World.size_alloc]
  rw [← hov] at PK0 ⊢
  generalize (W2.alloc (.cells #[.slice none 0 0] 27)).alloc (.cells #[.int .i64 0] 3) = V2 at *
  clear hov
  obtain ⟨I2, hI2⟩ : ∃ I : Act → World → Prop, I = inv2 w ab ao n c rx rv cv ov b := ⟨_, rfl⟩
  obtain ⟨μ2, hμ2⟩ : ∃ μ : Act → World → Nat, μ = fun t W => match t.tmps.getD 9 undef with
   | .pointer (some a) => (match W.cell? a with
    | some (.slice _ k _) => n - k
    | _ => 0)
   | _ => 0 := ⟨_, rfl⟩
  have HI2 := hid hI2
  have HMU2 := hid hμ2
  refine wpIn_loop I2 μ2 ?_ ?_
  · rw [hI2]
    refine ⟨n, fun _ => false, [], ov + 1, none, 0, Ds, rfl, ?_, by simp, by omega, oT2_ex rfl, rfl, PK0.out, fun g hg => by simp [Value.ownBlock] at hg⟩
    exact lack_none n
  clear hI2 hμ2 PK0
  intro t W3 hin
  rw [HI2.out] at hin
  obtain ⟨k, S, l, sv2, O, oc, Ds2, hway, hlk, hlen, hsv2, ⟨f2, hf⟩, hds, hpk, hap⟩ := hin
  obtain ⟨tt, td⟩ := t
  simp only at hf hds
  subst hf hds
  have PK := hid hpk
  have HWAY := hid hway
  have HLK := hid hlk
  have HLEN := hid hlen
  have HSV2 := hid hsv2
  have HAP := hid hap
  have HMK : Hid (μ2 { tmps := oT2 w.heap.size ab ao n c rv cv sv2 ov f2, defers := marks Ds2 } W3 = k) := hid (by
   have hc := hpk.bo.cell 0
   simp only [List.getElem?_toArray, List.getElem?_cons_zero] at hc
   rw [HMU2.out]
   show (match W3.cell? ⟨ov, 0, none⟩ with
    | some (.slice _ k _) => n - k
    | _ => 0) = k
   rw [hc]
   show n - l.length = k
   omega)
  have HMX : Tryz.prog.follows .mixedOrders = true := by kernel_rfl
  clear hpk hway hlk hlen hsv2 hap
  rw [HMK.out]
  unfold oT2
  have ys := PK.out.bs.cell 0
  simp only [List.getElem?_toArray, List.getElem?_cons_zero] at ys
  cases k with
  | zero =>
   have hneq : (mk n S != p2 n - 1) = false := by
    have h := lack_zero_iff.1 HLK.out
    rw [← mk_all, mk_congr (g := fun _ => true) fun i hi => h i hi]
    simp
   gi_wp2
   refine wpIn_mono (Q := fun e t wx => match e with | .normal => wx = W3.drew ∧ t = ({ tmps := #[f2 0, .pointer (some ⟨w.heap.size, 0, none⟩), f2 2, f2 3, .slice (some ⟨ab, ao, none⟩) n c, .pointer (some ⟨rv, 0, none⟩), .pointer (some ⟨cv, 0, none⟩), f2 7, f2 8, .pointer (some ⟨ov, 0, none⟩), .pointer (some ⟨sv2, 0, none⟩), f2 11, f2 12, f2 13, f2 14, f2 15, f2 16, f2 17, f2 18, f2 19, f2 20, f2 21, f2 22, f2 23, f2 24, f2 25, f2 26, f2 27, f2 28, f2 29, f2 30, f2 31, f2 32, f2 33, f2 34, f2 35, f2 36, f2 37, f2 38, f2 39, f2 40, f2 41, f2 42, f2 43, f2 44, f2 45, f2 46, f2 47, f2 48, f2 49, f2 50, f2 51, f2 52, f2 53, f2 54, .int .i64 (mk n S), .slice (some ⟨ab, ao, none⟩) n c, .int .i64 (p2 n - 1), .bool false, f2 59, f2 60, f2 61, f2 62, f2 63, f2 64, f2 65, f2 66, f2 67, f2 68, f2 69, f2 70, f2 71, f2 72, f2 73, f2 74, f2 75, f2 76, f2 77, f2 78, f2 79, f2 80, f2 81, f2 82, f2 83], defers := marks Ds2 } : Act) | _ => False) ?first2 ?rest2
   case first2 =>
    gi_region_with (first | (refine ⟨trivial, ?_⟩; gi_at_call 27; refine (callsIn_wide.2 (HAL.out _ (by first | exact PK.out.ods.lo | exact PK.out.ods.lo.drew))).mono ?_; rintro e w7 ⟨rfl, rfl⟩) | (gi_at_call 27; refine (callsIn_wide.2 (HAL.out _ (by first | exact PK.out.ods.lo | exact PK.out.ods.lo.drew))).mono ?_; rintro e w7 ⟨rfl, rfl⟩))
    all_goals exact ⟨rfl, rfl⟩
   case rest2 =>
   intro e t wx hq
   cases e <;> first | exact hq.elim | skip
   obtain ⟨rfl, rfl⟩ := hq
   have yo := PK.out.bo.cell 0
   simp only [List.getElem?_toArray, List.getElem?_cons_zero] at yo
   gi_wp2
   have hl : l = bestL n b := by
    have := HWAY.out
    unfold wayF at this
    rwa [List.append_nil] at this
   have hmk : MarkS w.heap.size Ds2 W3.drew := ⟨PK.out.mrk.at_, PK.out.mrk.nod, PK.out.mrk.low⟩
   have hcv : w.heap.size ≤ cv + 1 := by have := HLO.out; omega
   refine leaves_marks (B := w.heap.size) Ds2 W3.drew hmk ?_
   refine ⟨_, results_tmp2 rfl _ _ _, O, oc, ?_⟩
   rw [← hl]
   exact ⟨rfl, hmk.own (own_more (own_below PK.out.own (Below.refl _ W3).drew) hcv), hmk.shutBelow PK.out.ods.lo.drew⟩
  | succ k =>
   have hneq : (mk n S != p2 n - 1) = true := by
    rw [bne_iff_ne, ← mk_all]
    intro h
    have := lack_zero fun i hi => mk_inj h i hi
    have := HLK.out
    omega
   gi_wp2
   refine wpIn_mono (Q := fun e t wx => match e with | .normal => wx = W3.drew ∧ t = ({ tmps := #[f2 0, .pointer (some ⟨w.heap.size, 0, none⟩), f2 2, f2 3, .slice (some ⟨ab, ao, none⟩) n c, .pointer (some ⟨rv, 0, none⟩), .pointer (some ⟨cv, 0, none⟩), f2 7, f2 8, .pointer (some ⟨ov, 0, none⟩), .pointer (some ⟨sv2, 0, none⟩), f2 11, f2 12, f2 13, f2 14, f2 15, f2 16, f2 17, f2 18, f2 19, f2 20, f2 21, f2 22, f2 23, f2 24, f2 25, f2 26, f2 27, f2 28, f2 29, f2 30, f2 31, f2 32, f2 33, f2 34, f2 35, f2 36, f2 37, f2 38, f2 39, f2 40, f2 41, f2 42, f2 43, f2 44, f2 45, f2 46, f2 47, f2 48, f2 49, f2 50, f2 51, f2 52, f2 53, f2 54, .int .i64 (mk n S), .slice (some ⟨ab, ao, none⟩) n c, .int .i64 (p2 n - 1), .bool true, f2 59, f2 60, f2 61, f2 62, f2 63, f2 64, f2 65, f2 66, f2 67, f2 68, f2 69, f2 70, f2 71, f2 72, f2 73, f2 74, f2 75, f2 76, f2 77, f2 78, f2 79, f2 80, f2 81, f2 82, f2 83], defers := marks Ds2 } : Act) | _ => False) ?first2 ?rest2
   case first2 =>
    gi_region_with (first | (refine ⟨trivial, ?_⟩; gi_at_call 27; refine (callsIn_wide.2 (HAL.out _ (by first | exact PK.out.ods.lo | exact PK.out.ods.lo.drew))).mono ?_; rintro e w7 ⟨rfl, rfl⟩) | (gi_at_call 27; refine (callsIn_wide.2 (HAL.out _ (by first | exact PK.out.ods.lo | exact PK.out.ods.lo.drew))).mono ?_; rintro e w7 ⟨rfl, rfl⟩))
    all_goals exact ⟨rfl, rfl⟩
   case rest2 =>
   intro e t wx hq
   cases e <;> first | exact hq.elim | skip
   obtain ⟨rfl, rfl⟩ := hq
   have PK1 := hid (PK.out.below (Below.refl _ W3).drew)
   clear PK ys
   obtain ⟨V, hV⟩ : ∃ V, V = W3.drew := ⟨_, rfl⟩
   rw [← hV] at PK1 ⊢
   clear hV
   have PK := hid PK1.out
   clear PK1
   have ys := PK.out.bs.cell 0
   simp only [List.getElem?_toArray, List.getElem?_cons_zero] at ys
   have hout := mk_out h8 S
   have HEL := hid (out_elems h8 S)
   generalize hZ : mkN n (fun i => !S i) = Z at *
   clear hZ hneq
   gi_wp2
   refine wpIn_mono (Q := fun e t wx => match e with | .normal => wx = V.drew.alloc (.cells #[.int .i64 (Z : Nat)] 3) ∧ t = ({ tmps := #[f2 0, .pointer (some ⟨w.heap.size, 0, none⟩), f2 2, f2 3, .slice (some ⟨ab, ao, none⟩) n c, .pointer (some ⟨rv, 0, none⟩), .pointer (some ⟨cv, 0, none⟩), f2 7, f2 8, .pointer (some ⟨ov, 0, none⟩), .pointer (some ⟨sv2, 0, none⟩), f2 11, f2 12, f2 13, f2 14, f2 15, f2 16, f2 17, f2 18, f2 19, f2 20, f2 21, f2 22, f2 23, f2 24, f2 25, f2 26, f2 27, f2 28, f2 29, f2 30, f2 31, f2 32, f2 33, f2 34, f2 35, f2 36, f2 37, f2 38, f2 39, f2 40, f2 41, f2 42, f2 43, f2 44, f2 45, f2 46, f2 47, f2 48, f2 49, f2 50, f2 51, f2 52, f2 53, f2 54, .int .i64 (mk n S), .slice (some ⟨ab, ao, none⟩) n c, .int .i64 (p2 n - 1), .bool true, .slice (some ⟨ab, ao, none⟩) n c, .int .i64 (p2 n - 1), .int .i64 (mk n S), .int .i64 (Z : Nat), .func (.func 47) #[] #[.pointer (some ⟨V.heap.size, 0, none⟩)], f2 64, f2 65, f2 66, f2 67, f2 68, f2 69, f2 70, f2 71, f2 72, f2 73, f2 74, f2 75, f2 76, f2 77, f2 78, f2 79, f2 80, f2 81, f2 82, f2 83], defers := marks Ds2 } : Act) | _ => False) ?first3 ?rest3
   case first3 =>
    gi_region_with (first | (refine ⟨trivial, ?_⟩; gi_at_call 27; refine (callsIn_wide.2 (HAL.out _ (by first | exact PK.out.ods.lo | exact PK.out.ods.lo.drew))).mono ?_; rintro e w7 ⟨rfl, rfl⟩) | (gi_at_call 27; refine (callsIn_wide.2 (HAL.out _ (by first | exact PK.out.ods.lo | exact PK.out.ods.lo.drew))).mono ?_; rintro e w7 ⟨rfl, rfl⟩) | (refine ⟨trivial, ?_⟩; gi_at_call 28; refine (callsIn_wide.2 (playersF _ _)).mono ?_; rintro e w8 ⟨rfl, rfl⟩) | (gi_at_call 28; refine (callsIn_wide.2 (playersF _ _)).mono ?_; rintro e w8 ⟨rfl, rfl⟩))
    all_goals exact ⟨rfl, rfl⟩
   case rest3 =>
   intro e t wx hq
   cases e <;> first | exact hq.elim | skip
   obtain ⟨rfl, rfl⟩ := hq
   have hbb : Below V.heap.size V (V.drew.alloc (.cells #[.int .i64 (Z : Nat)] 3)) := (Below.refl _ V).drew.alloc (Nat.le_refl _) _
   have PK3 := hid (PK.out.below hbb)
   have HML := hid PK.out.mrk.lt
   have ZC := hid (Blk.new V.drew 3 #[.int .i64 (Z : Nat)])
   have hcV : V.drew.heap.size = V.heap.size := rfl
   rw [hcV] at ZC
   have hrxl := PK.out.bt.lt
   have hsvl := PK.out.bs.lt
   have hovl := PK.out.bo.lt
   have hcvl := PK.out.ods.bc.lt
   have hrvl := PK.out.ods.br.lt
   have hzl := PK.out.ods.bz.lt
   have HOL := hid fun g (hg : (Value.slice O l.length oc).ownBlock = some g) => (PK.out.own.lt g hg).2
   have hsz : (V.drew.alloc (.cells #[.int .i64 (Z : Nat)] 3)).heap.size = V.heap.size + 1 := by simp
   obtain ⟨cb, hcb⟩ : ∃ x, x = V.heap.size := ⟨_, rfl⟩
   have HCB := hid (show w.heap.size < cb ∧ rx < cb ∧ rv < cb ∧ cv < cb ∧ sv2 < cb ∧ ov < cb ∧ ∀ D ∈ Ds2, D < cb from ⟨by omega, by omega, by omega, by omega, by omega, by omega, fun D hD => by have := HML.out D hD; omega⟩)
   rw [← hcb] at ZC hsz HOL ⊢
   clear hbb PK HML ys hcV hrxl hsvl hcvl hrvl hzl hovl hcb hout
   generalize V.drew.alloc (.cells #[.int .i64 (Z : Nat)] 3) = G at *
   have HSZ := hid hsz
   clear hsz
   gi_wp2
   refine wp_range (n := 9) (gf := 47) (c := cb) (t := 3) (xs := outS n S) rfl (fun args w => enters Tryz.func47 (by kernel_rfl) rfl args w) ZC.out (players_iter 8 _ Z _ G HEL.out ZC.out) rfl
    (fun q W => PkS w W ab ao n c rx rv cv b sv2 ov S l O oc Ds2 ∧ ∀ j y, j < q → (outS n S)[j]? = some y → (fun i => ag n b S i + valS n b (addS S i) == valS n b S) y = false)
    (fun cd W => cd = Code.exit 6 ∧ ∃ x O' oc', (outS n S).find? (fun i => ag n b S i + valS n b (addS S i) == valS n b S) = some x ∧ PkS w W ab ao n c rx rv cv b sv2 ov (addS S x) (l ++ [x]) O' oc' Ds2 ∧ ∀ g, (Value.slice O' (l ++ [x]).length oc').ownBlock = some g → g < W.heap.size)
    ?_ ?_ ?_ (fun _ _ h => h.1.ods.tb) ⟨PK3.out, fun j y hj => by omega⟩ ?_ ?_ ?_
   · have hc1 := HCB.out
     have hs1 := HSZ.out
     have ht1 := HTP.out
     exact OwnFrom.and (ownFrom_pks (by omega) (by omega) (fun D hD => by have := hc1.2.2.2.2.2.2 D hD; omega)) (fun _ _ _ _ hs _ _ => hs)
   · rintro cd _ X Y row ⟨hcd, x, O', oc', hx, hp, hg2⟩ hg hr
     have hc1 := HCB.out
     have hs1 := HSZ.out
     have ht1 := HTP.out
     exact ⟨hcd, x, O', oc', hx, ownFrom_pks (β := Unit) (by omega) (by omega) (fun D hD => by have := hc1.2.2.2.2.2.2 D hD; omega) () X Y row hp hg hr, fun g h => Nat.lt_of_lt_of_le (hg2 g h) hg.size⟩
   · rintro q W v ⟨h1, h2⟩
     have hc1 := HCB.out
     exact ⟨h1.far (by omega) (by omega) (by omega) (by omega) (by omega) (by omega) (fun g hg => by have := HOL.out g hg; omega) (fun D hD => by have := hc1.2.2.2.2.2.2 D hD; omega) HTP.out v, h2⟩
   · intro l1 q x W W5 hl hr hin hx hv
     obtain ⟨h1, h2⟩ := hin
     have hmx := mem_outS.1 (List.mem_of_getElem? hx)
     have cz := h1.ods.bz.cell 0
     have cr := h1.ods.br.cell 0
     have cc := h1.ods.bc.cell 0
     have cs : W5.cell? ⟨sv2, 0, none⟩ = some (.int .i64 ((mkN n S : Nat) : Int)) := h1.bs.cell 0
     simp only [List.getElem?_toArray, List.getElem?_cons_zero] at cz cr cc
     have hsl : mkN n S < 2 ^ n := mkN_lt _ _
     have hadd : mkN n (addS S x) < 2 ^ n := mkN_lt _ _
     have ct := h1.bt.cell (mkN n S)
     rw [arr_get hsl] at ct
     unfold tabV at ct
     rw [if_pos (Nat.zero_le _), valS_congr (T := S) fun j hj => by rw [mkN_bit]; simp [hj]] at ct
     have ca := h1.bt.cell (mkN n (addS S x))
     rw [arr_get hadd] at ca
     unfold tabV at ca
     rw [if_pos (Nat.zero_le _), valS_congr (T := addS S x) fun j hj => by rw [mkN_bit]; simp [hj]] at ca
     have hvb : valS n b (addS S x) ≤ 1000 := by
      have k1 := valS_bd (n := n) (S := addS S x) HTB.out
      have k2 := Nat.mul_le_mul h8 h8
      omega
     have HCO := hid fun (k : Nat) => costF n c (2 ^ n) (2 ^ n) w.heap.size rv ab ao rx x (valS n b (addS S x)) b S (W5.drewN k) h8 hmx.1 cz cr (cell_keep (h1.drewN k).ods.lo (HCA.out x hmx.1)) hadd ca hvb
     have hmkS : mk n S = ((mkN n S : Nat) : Int) := rfl
     have hor := mk_addS h8 S hmx.1
     rw [hmkS] at HCO hor ⊢
     have HX := hid hx
     have H1 := hid h1
     have H2 := hid h2
     have HMX2 := hid hmx
     have hxn : (x : Int) < (n : Int) := by have := hmx.1; omega
     have fx : Fits (x : Int) := ⟨by omega, by omega⟩
     have hui : ((mkN n S : Nat) : Int) < (2 : Int) ^ n := by
      have h := Int.ofNat_lt.2 hsl
      rw [show (((2 ^ n : Nat)) : Int) = (2 : Int) ^ n from by simp] at h
      exact h
     have HPR := hid (show (fun i => ag n b S i + valS n b (addS S i) == valS n b S) x = (ag n b S x + valS n b (addS S x) == valS n b S) from rfl)
     clear h1 h2 hmx hadd ca hvb hx hv hl hr hmkS
     generalize ag n b S x + valS n b (addS S x) = z at *
     generalize hvS : valS n b S = vS at *
     generalize hsS : mkN n S = s at *
     cases hzv : (z == vS) with
     | false =>
      have hzi : ((z : Int) == (vS : Int)) = false := by
       rw [beq_eq_false_iff_ne] at hzv ⊢
       omega
      gi_wp2
      refine wpIn_mono (Q := fun e t W4 => match e with | .normal => ∃ k, W4 = W5.drewN k ∧ t = ({ tmps := #[f2 0, .pointer (some ⟨w.heap.size, 0, none⟩), f2 2, f2 3, .slice (some ⟨ab, ao, none⟩) n c, .pointer (some ⟨rv, 0, none⟩), .pointer (some ⟨cv, 0, none⟩), f2 7, f2 8, .pointer (some ⟨ov, 0, none⟩), .pointer (some ⟨sv2, 0, none⟩), .int .i64 (x : Nat), f2 12, f2 13, f2 14, f2 15, f2 16, f2 17, f2 18, f2 19, f2 20, f2 21, f2 22, f2 23, f2 24, f2 25, f2 26, f2 27, f2 28, f2 29, f2 30, f2 31, f2 32, f2 33, f2 34, f2 35, f2 36, f2 37, f2 38, f2 39, f2 40, f2 41, f2 42, f2 43, f2 44, f2 45, f2 46, f2 47, f2 48, f2 49, f2 50, f2 51, f2 52, f2 53, f2 54, .int .i64 (s : Nat), .slice (some ⟨ab, ao, none⟩) n c, .int .i64 (p2 n - 1), .bool true, .slice (some ⟨ab, ao, none⟩) n c, .int .i64 (p2 n - 1), .int .i64 (s : Nat), .int .i64 (Z : Nat), .func (.func 47) #[] #[.pointer (some ⟨cb, 0, none⟩)], .int .i64 (x : Nat), .func (.func 25) #[] #[.pointer (some ⟨w.heap.size, 0, none⟩), .pointer (some ⟨rv, 0, none⟩)], .int .i64 (s : Nat), .int .i64 (x : Nat), .int .i64 (z : Nat), .slice (some ⟨rx, 0, none⟩) (2 ^ n) (2 ^ n), .int .i64 (s : Nat), .pointer (some ⟨rx, s, none⟩), .int .i64 (vS : Nat), .bool false, f2 74, f2 75, f2 76, f2 77, f2 78, f2 79, f2 80, f2 81, f2 82, f2 83], defers := [] } : Act) | _ => False) ?first6 ?rest6
      case rest6 =>
       intro e t W4 hq
       cases e <;> first | exact hq.elim | skip
       obtain ⟨k, rfl, rfl⟩ := hq
       gi_wp2
       refine ⟨⟨by simp, fun r o _ h _ => h⟩, rfl, H1.out.drewN k, fun j y hj hy => ?_⟩
       by_cases hjq : j < q
       · exact beq_eq_false_iff_ne.1 (H2.out j y hjq hy)
       · obtain rfl : j = q := by omega
         rw [HX.out] at hy
         cases hy
         exact beq_eq_false_iff_ne.1 (HPR.out.trans hzv)
      case first6 =>
       refine region_round (S := (fun w' => w'.cell? ⟨rv, 0, none⟩ = some (.slice (some ⟨rx, 0, none⟩) (2 ^ n) (2 ^ n)) ∧ w'.cell? ⟨sv2, 0, none⟩ = some (.int .i64 (s : Nat)) ∧ w'.cell? ⟨cv, 0, none⟩ = some (.func (.func 25) #[] #[.pointer (some ⟨w.heap.size, 0, none⟩), .pointer (some ⟨rv, 0, none⟩)]) ∧ w'.cell? ⟨rx, s, none⟩ = some (.int .i64 (vS : Nat)))) (by kernel_rfl) (by kernel_rfl) (by rintro ⟨_, _, h⟩; exact h) (by (try dsimp only); (exact ⟨cr, cs, cc, ct⟩)) (fun hHeld => ?_)
       refine tk ?_ 0 (some 65) rfl rfl ?_ ?_; rotate_left; · (intro w hSw; (try dsimp only at hSw); go_simp <;> with_reducible rfl)
       try simp only [Act.put, pA0, pA1, pA2]
       refine tk ?_ 1 (some 66) rfl rfl ?_ ?_; rotate_left; · (intro w hSw; (try dsimp only at hSw); go_simp <;> with_reducible rfl)
       try simp only [Act.put, pA0, pA1, pA2]
       refine tk ?_ 2 (some 67) rfl rfl ?_ ?_; rotate_left; · (intro w hSw; (try dsimp only at hSw); go_simp <;> with_reducible rfl)
       try simp only [Act.put, pA0, pA1, pA2]
       refine tk ?_ 4 (some 69) rfl rfl ?_ ?_; rotate_left; · (intro w hSw; (try dsimp only at hSw); go_simp <;> with_reducible rfl)
       try simp only [Act.put, pA0, pA1, pA2]
       refine tk ?_ 5 (some 70) rfl rfl ?_ ?_; rotate_left; · (intro w hSw; (try dsimp only at hSw); go_simp <;> with_reducible rfl)
       try simp only [Act.put, pA0, pA1, pA2]
       refine tk ?_ 6 (some 71) rfl rfl ?_ ?_; rotate_left; · (intro w hSw; (try dsimp only at hSw); go_simp <;> with_reducible rfl)
       try simp only [Act.put, pA0, pA1, pA2]
       refine tk ?_ 7 (some 72) rfl rfl ?_ ?_; rotate_left; · (intro w hSw; (try dsimp only at hSw); go_simp <;> with_reducible rfl)
       try simp only [Act.put, pA0, pA1, pA2]
       refine wpAnyH_ready (rs := [3]) (by kernel_rfl) (by simp) ?_
       refine AllReadyH.cons rfl (fun K hK => ?_) AllReadyH.nil
       go_simp
       go_at_call 25
       refine (HCO.out 1).mono ?_
       rintro e w' ⟨rfl, kq, rfl⟩
       clear hHeld
       refine hK.out _ _ ?_ (fun hHeld => ?_); · ((try dsimp only); (exact ⟨cr, cs, cc, ct⟩))
       clear hK K
       try simp only [Act.put, pA0, pA1, pA2]
       refine tk ?_ 8 (some 73) rfl rfl ?_ ?_; rotate_left; · (intro w hSw; (try dsimp only at hSw); go_simp <;> with_reducible rfl)
       try simp only [Act.put, pA0, pA1, pA2]
       refine wpAnyH_done (by kernel_rfl) ?_ _
       exact ⟨1 + kq, by simp, rfl⟩
     | true =>
      have hzi : ((z : Int) == (vS : Int)) = true := by
       rw [beq_iff_eq] at hzv ⊢
       omega
      gi_wp2
      refine wpIn_mono (Q := fun e t W4 => match e with | .normal => ∃ k, W4 = W5.drewN k ∧ t = ({ tmps := #[f2 0, .pointer (some ⟨w.heap.size, 0, none⟩), f2 2, f2 3, .slice (some ⟨ab, ao, none⟩) n c, .pointer (some ⟨rv, 0, none⟩), .pointer (some ⟨cv, 0, none⟩), f2 7, f2 8, .pointer (some ⟨ov, 0, none⟩), .pointer (some ⟨sv2, 0, none⟩), .int .i64 (x : Nat), f2 12, f2 13, f2 14, f2 15, f2 16, f2 17, f2 18, f2 19, f2 20, f2 21, f2 22, f2 23, f2 24, f2 25, f2 26, f2 27, f2 28, f2 29, f2 30, f2 31, f2 32, f2 33, f2 34, f2 35, f2 36, f2 37, f2 38, f2 39, f2 40, f2 41, f2 42, f2 43, f2 44, f2 45, f2 46, f2 47, f2 48, f2 49, f2 50, f2 51, f2 52, f2 53, f2 54, .int .i64 (s : Nat), .slice (some ⟨ab, ao, none⟩) n c, .int .i64 (p2 n - 1), .bool true, .slice (some ⟨ab, ao, none⟩) n c, .int .i64 (p2 n - 1), .int .i64 (s : Nat), .int .i64 (Z : Nat), .func (.func 47) #[] #[.pointer (some ⟨cb, 0, none⟩)], .int .i64 (x : Nat), .func (.func 25) #[] #[.pointer (some ⟨w.heap.size, 0, none⟩), .pointer (some ⟨rv, 0, none⟩)], .int .i64 (s : Nat), .int .i64 (x : Nat), .int .i64 (z : Nat), .slice (some ⟨rx, 0, none⟩) (2 ^ n) (2 ^ n), .int .i64 (s : Nat), .pointer (some ⟨rx, s, none⟩), .int .i64 (vS : Nat), .bool true, f2 74, f2 75, f2 76, f2 77, f2 78, f2 79, f2 80, f2 81, f2 82, f2 83], defers := [] } : Act) | _ => False) ?first6 ?rest6
      case rest6 =>
       intro e t W4 hq
       cases e <;> first | exact hq.elim | skip
       obtain ⟨k, rfl, rfl⟩ := hq
       have HK6 := hid (H1.out.drewN k)
       have HK56 := hid (show KeepsFrom G.heap.size W5 (W5.drewN k) from ⟨by simp, fun r o _ h _ => h⟩)
       have HZV := hid hzv
       have hlt8 : l.length < 8 := by have := HLEN.out; omega
       have hbs : cv + 1 ≤ (W5.drewN k).heap.size := H1.out.ods.bc.lt
       have hbo := HK6.out.bo.cell 0
       have hbof := HK6.out.bo.free 0
       simp only [List.getElem?_toArray, List.getElem?_cons_zero] at hbo
       have HLT8 := hid hlt8
       clear hzv hzi ct cr cz cc
       generalize W5.drewN k = W6 at *
       gi_wp2_with (gi_at_builtin; refine push1LI TI27 W6 #[.int .i64 (x : Nat)] (cv + 1) _ _ _ HK6.out.own _ _ W6.heap.size rfl rfl rfl rfl rfl rfl (by simp [Value.oneCell']) (by omega) (by omega) hbs ?_; intro v1 w8 hown1 hgr hap1; obtain ⟨O8, c8, rfl⟩ := own_form hown1; have hbo8 := HK6.out.bo.grown hgr (own_ne_blk HK6.out.own HK6.out.bo (by decide)); have q0 := hbo8.cell 0; have q1 := hbo8.free 0; simp only [List.getElem?_toArray, List.getElem?_cons_zero] at q0; have HGR := hid hgr; have HAP1 := hid hap1; have HO8 := hid (show w8.ownsRow (cv + 1) 3 1 (.slice O8 (l.length + 1) c8) (l.length + 1) (natV (l ++ [x])) from by rw [← natV_push]; exact hown1); clear hgr hap1 hown1 hbo8)
       have HW7 := hid (HK6.out.push ⟨HLO.out.1, HLO.out.2.1, HLO.out.2.2, HOV.out⟩ HTP.out HAP.out HGR.out HO8.out)
       have HKP := hid ((HK56.out.trans (keeps_row HK6.out.own HGR.out)).trans (keeps_set (HK6.out.bo.grown HGR.out (own_ne_blk HK6.out.own HK6.out.bo (by decide))) 0 (.slice O8 (l.length + 1) c8)))
       have HA8 := hid (show ∀ g, (Value.slice O8 (l ++ [x]).length c8).ownBlock = some g → g ≠ sv2 from by
        intro g hg
        rcases HAP1.out with h | h
        · rw [show (l ++ [x]).length = l.length + 1 by simp] at hg
          exact HAP.out g (h.symm.trans hg)
        · rw [show (l ++ [x]).length = l.length + 1 by simp] at hg
          have := h g hg
          have := HK6.out.bs.lt
          omega)
       clear q0 q1 HGR HAP1 HO8 HK6 HK56 hbo hbof
       generalize w8.setCell ⟨ov, 0, none⟩ (.slice O8 (l.length + 1) c8) = W7 at *
       have y7 : W7.cell? ⟨sv2, 0, none⟩ = some (.int .i64 ((s : Nat) : Int)) := by
        have := HW7.out.bs.cell 0
        simp only [List.getElem?_toArray, List.getElem?_cons_zero] at this
        rw [this, ← hsS]
        rfl
       have f7 := HW7.out.bs.free 0
       have hll : (l ++ [x]).length = l.length + 1 := by simp
       have HFIN := hid (show ∀ (W9 : World), W9 = (W7.setCell ⟨sv2, 0, none⟩ (.int .i64 (mk n (addS S x)))).drew → KeepsFrom G.heap.size W5 W9 ∧ PkS w W9 ab ao n c rx rv cv b sv2 ov (addS S x) (l ++ [x]) O8 c8 Ds2 ∧ ∀ g, (Value.slice O8 (l.length + 1) c8).ownBlock = some g → g < W9.heap.size from by
        intro W9 h9
        subst h9
        have h11 := (HW7.out.setS ⟨HLO.out.1, HLO.out.2.1, HLO.out.2.2, by have := HOV.out; have := HSV2.out; omega⟩ HTP.out (by have := HSV2.out; omega) HA8.out (addS S x)).below (Below.refl _ _).drew
        refine ⟨(HKP.out.trans (keeps_set HW7.out.bs 0 (.int .i64 (mk n (addS S x))))).trans ⟨by simp, fun r o _ h _ => h⟩, h11, fun g hg => (h11.own.lt g (by rw [hll]; exact hg)).2⟩)
       have HFD := hid (find_first _ q x HX.out (HPR.out.trans HZV.out) (fun j y hj hy => H2.out j y hj hy))
       clear hll
       gi_region
       all_goals gi_wp2
       all_goals obtain ⟨k1, k2, k3⟩ := HFIN.out _ rfl
       all_goals exact ⟨k1, rfl, x, HFD.out, O8, c8, k2, k3⟩
      case first6 =>
       refine region_round (S := (fun w' => w'.cell? ⟨rv, 0, none⟩ = some (.slice (some ⟨rx, 0, none⟩) (2 ^ n) (2 ^ n)) ∧ w'.cell? ⟨sv2, 0, none⟩ = some (.int .i64 (s : Nat)) ∧ w'.cell? ⟨cv, 0, none⟩ = some (.func (.func 25) #[] #[.pointer (some ⟨w.heap.size, 0, none⟩), .pointer (some ⟨rv, 0, none⟩)]) ∧ w'.cell? ⟨rx, s, none⟩ = some (.int .i64 (vS : Nat)))) (by kernel_rfl) (by kernel_rfl) (by rintro ⟨_, _, h⟩; exact h) (by (try dsimp only); (exact ⟨cr, cs, cc, ct⟩)) (fun hHeld => ?_)
       refine tk ?_ 0 (some 65) rfl rfl ?_ ?_; rotate_left; · (intro w hSw; (try dsimp only at hSw); go_simp <;> with_reducible rfl)
       try simp only [Act.put, pA0, pA1, pA2]
       refine tk ?_ 1 (some 66) rfl rfl ?_ ?_; rotate_left; · (intro w hSw; (try dsimp only at hSw); go_simp <;> with_reducible rfl)
       try simp only [Act.put, pA0, pA1, pA2]
       refine tk ?_ 2 (some 67) rfl rfl ?_ ?_; rotate_left; · (intro w hSw; (try dsimp only at hSw); go_simp <;> with_reducible rfl)
       try simp only [Act.put, pA0, pA1, pA2]
       refine tk ?_ 4 (some 69) rfl rfl ?_ ?_; rotate_left; · (intro w hSw; (try dsimp only at hSw); go_simp <;> with_reducible rfl)
       try simp only [Act.put, pA0, pA1, pA2]
       refine tk ?_ 5 (some 70) rfl rfl ?_ ?_; rotate_left; · (intro w hSw; (try dsimp only at hSw); go_simp <;> with_reducible rfl)
       try simp only [Act.put, pA0, pA1, pA2]
       refine tk ?_ 6 (some 71) rfl rfl ?_ ?_; rotate_left; · (intro w hSw; (try dsimp only at hSw); go_simp <;> with_reducible rfl)
       try simp only [Act.put, pA0, pA1, pA2]
       refine tk ?_ 7 (some 72) rfl rfl ?_ ?_; rotate_left; · (intro w hSw; (try dsimp only at hSw); go_simp <;> with_reducible rfl)
       try simp only [Act.put, pA0, pA1, pA2]
       refine wpAnyH_ready (rs := [3]) (by kernel_rfl) (by simp) ?_
       refine AllReadyH.cons rfl (fun K hK => ?_) AllReadyH.nil
       go_simp
       go_at_call 25
       refine (HCO.out 1).mono ?_
       rintro e w' ⟨rfl, kq, rfl⟩
       clear hHeld
       refine hK.out _ _ ?_ (fun hHeld => ?_); · ((try dsimp only); (exact ⟨cr, cs, cc, ct⟩))
       clear hK K
       try simp only [Act.put, pA0, pA1, pA2]
       refine tk ?_ 8 (some 73) rfl rfl ?_ ?_; rotate_left; · (intro w hSw; (try dsimp only at hSw); go_simp <;> with_reducible rfl)
       try simp only [Act.put, pA0, pA1, pA2]
       refine wpAnyH_done (by kernel_rfl) ?_ _
       exact ⟨1 + kq, by simp, rfl⟩
   · rintro D W hD ⟨h1, h2⟩ hKD
     obtain ⟨i, hi⟩ := way_some (n := n) (b := b) (S := S) HTB.out (by have := HLK.out; omega)
     obtain ⟨q, hq⟩ := List.getElem?_of_mem (List.mem_of_find?_eq_some hi)
     have h3 := h2 q i (List.getElem?_eq_some_iff.1 hq).1 hq
     have h4 := List.find?_some hi
     have h5 : (true : Bool) = false := h4.symm.trans h3
     cases h5
   · rintro D cd W hD ⟨rfl, x, O', oc', hx, hp, hg2⟩ hKD
     have HP := hid hp
     have yo := hp.bs.cell 0
     simp only [List.getElem?_toArray, List.getElem?_cons_zero] at yo
     have HKD := hid hKD
     have HG2 := hid hg2
     clear hp hKD hg2
     gi_wp2
     have hbw := (Below.refl W.heap.size W).alloc (Nat.le_refl _) (.cells #[.int .i64 (mk n (addS S x))] 3)
     have hm := way_mem hx
     have hla := lack_add hm.1 hm.2.1
     have hlk := HLK.out
     have hlen := HLEN.out
     have hll : (l ++ [x]).length = l.length + 1 := by simp
     have hway := HWAY.out
     unfold wayF at hway
     rw [hx] at hway
     have hpb := HP.out.below hbw
     have hms : MarkS w.heap.size (D :: Ds2) (W.alloc (.cells #[.int .i64 (mk n (addS S x))] 3)) := by
      have h1 := HP.out.mrk.cons HKD.out (by have := HCB.out; have := HSZ.out; omega) (fun hm => by have := HCB.out.2.2.2.2.2.2 D hm; have := HSZ.out; omega)
      exact h1.keep h1.lt hbw
     have hcn := hpb.bo.cell 0
     simp only [List.getElem?_toArray, List.getElem?_cons_zero] at hcn
     rw [HI2.out, HMU2.out]
     refine ⟨⟨k, addS S x, l ++ [x], W.heap.size, O', oc', D :: Ds2, by rw [List.append_assoc]; exact hway, by omega, by omega, HP.out.bo.lt, oT2_ex rfl, rfl, ⟨hpb.ods, Blk.new W 3 #[.int .i64 (mk n (addS S x))], hpb.bt, hpb.bo, hpb.own, hms⟩, fun g hg => by have := HG2.out g hg; omega⟩, ?_⟩
     show (match (W.alloc (.cells #[.int .i64 (mk n (addS S x))] 3)).cell? ⟨ov, 0, none⟩ with
      | some (.slice _ k _) => n - k
      | _ => 0) < k + 1
     rw [hcn]
     show n - (l ++ [x]).length < k + 1
     omega
 | succ u =>
  have hz : (((u + 1 : Nat) : Int) - 1) = (u : Int) := by omega
  rw [hz] at ZS
  clear hz
  have hn64 : n * n ≤ 64 := by have := Nat.mul_le_mul h8 h8; omega
  have hnn : wrap64 ((n : Int) * (n : Int)) = ((n * n : Nat) : Int) := by rw [← Int.natCast_mul]; unfold wrap64; omega
  have hnn2 : IntKind.i64.wrap ((n : Int) * (n : Int)) = ((n * n : Nat) : Int) := by rw [← Int.natCast_mul, IntWalk.i64_in _ (by omega)]
  have ys := ZS.out.cell 0
  have yr := OD.out.br.cell 0
  have yz := OD.out.bz.cell 0
  simp only [List.getElem?_toArray, List.getElem?_cons_zero] at ys yr yz
  have yu := ZT.out.cell u
  rw [arr_get (by omega)] at yu
  have yf := ZT.out.free u
  have hui : (u : Int) < ((2 ^ n : Nat) : Int) := by omega
  have HU := hid hs1
  generalize hNN : n * n = nn at *
  have HNN := hid hNN
  clear hs1 hNN
  gi_wp2
  have hout : bits .andNot .i64 (p2 n - 1) (u : Int) = ((mkN n (fun i => !u.testBit i) : Nat) : Int) := by
   have h1 := mk_out h8 u.testBit
   have h2 : ((u : Nat) : Int) = mk n u.testBit := mk_of (by have := HU.out; omega)
   rw [h2]
   exact h1
  have hmkU : mk n u.testBit = ((u : Nat) : Int) := (mk_of (by have := HU.out; omega)).symm
  have hEL := out_elems h8 u.testBit
  have OD2 := hid (OD.out.far (p := rx) (by have := HLO.out; omega) (by have := HLO.out; omega) (by have := HLO.out; omega) HTP.out u (.int .i64 (nn : Nat)))
  have ZT2 := hid (show Blk (W2.setCell ⟨rx, u, none⟩ (.int .i64 (nn : Nat))) rx 3 (arr (2 ^ n) (fun v => if v = u then (minV n b u.testBit 0 : Nat) else tabV n b (u + 1) v)) from by
   have := ZT.out.set u (.int .i64 (nn : Nat))
   rw [arr_set] at this
   rw [minV_zero, HNN.out]
   exact this)
  have ZS2 := hid (ZS.out.far (p := ⟨rx, u, none⟩) (by have := HLO.out; have := HSV.out; simp; omega) (.int .i64 (nn : Nat)))
  have ZM2 := hid (ZM.out.set ZT.out u (.int .i64 (nn : Nat)))
  clear OD ZT ZS ZM ys yr yz yu yf hnn hnn2 hui
  generalize W2.setCell ⟨rx, u, none⟩ (.int .i64 (nn : Nat)) = V at *
  have HMX : Tryz.prog.follows .mixedOrders = true := by kernel_rfl
  have ys := ZS2.out.cell 0
  simp only [List.getElem?_toArray, List.getElem?_cons_zero] at ys
  generalize hZ : mkN n (fun i => !u.testBit i) = Z at *
  clear hZ
  refine wpIn_mono (Q := fun e t wx => match e with | .normal => wx = V.drew.alloc (.cells #[.int .i64 (Z : Nat)] 3) ∧ t = ({ tmps := #[f 0, .pointer (some ⟨w.heap.size, 0, none⟩), f 2, f 3, .slice (some ⟨ab, ao, none⟩) n c, .pointer (some ⟨rv, 0, none⟩), .pointer (some ⟨cv, 0, none⟩), .pointer (some ⟨sv, 0, none⟩), f 8, f 9, f 10, f 11, f 12, f 13, f 14, f 15, f 16, f 17, f 18, f 19, f 20, f 21, f 22, f 23, .int .i64 (u : Nat), .bool true, f 26, f 27, .slice (some ⟨rx, 0, none⟩) (2 ^ n) (2 ^ n), .int .i64 (u : Nat), .slice (some ⟨ab, ao, none⟩) n c, .int .i64 (n : Nat), .slice (some ⟨ab, ao, none⟩) n c, .int .i64 (n : Nat), .int .i64 (nn : Nat), .pointer (some ⟨rx, u, none⟩), .slice (some ⟨ab, ao, none⟩) n c, .int .i64 (p2 n - 1), .int .i64 (u : Nat), .int .i64 (Z : Nat), .func (.func 47) #[] #[.pointer (some ⟨V.heap.size, 0, none⟩)], f 41, f 42, f 43, f 44, f 45, f 46, f 47, f 48, f 49, f 50, f 51, f 52, f 53, f 54, f 55, f 56, f 57, f 58, f 59, f 60, f 61, f 62, f 63, f 64, f 65, f 66, f 67, f 68, f 69, f 70, f 71, f 72, f 73, f 74, f 75, f 76, f 77, f 78, f 79, f 80, f 81, f 82, f 83], defers := marks Ds } : Act) | _ => False) ?first1 ?rest1
  case first1 =>
   gi_region_with (first | (refine ⟨trivial, ?_⟩; gi_at_call 27; refine (callsIn_wide.2 (HAL.out _ (by first | exact OD2.out.lo | exact OD2.out.lo.drew))).mono ?_; rintro e w7 ⟨rfl, rfl⟩) | (gi_at_call 27; refine (callsIn_wide.2 (HAL.out _ (by first | exact OD2.out.lo | exact OD2.out.lo.drew))).mono ?_; rintro e w7 ⟨rfl, rfl⟩) | (refine ⟨trivial, ?_⟩; gi_at_call 28; refine (callsIn_wide.2 (playersF _ _)).mono ?_; rintro e w8 ⟨rfl, rfl⟩) | (gi_at_call 28; refine (callsIn_wide.2 (playersF _ _)).mono ?_; rintro e w8 ⟨rfl, rfl⟩))
   all_goals exact ⟨rfl, rfl⟩
  case rest1 =>
  intro e t wx hq
  cases e <;> first | exact hq.elim | skip
  obtain ⟨rfl, rfl⟩ := hq
  have HEL := hid hEL
  have HMU2 := hid hmkU
  have hbb : Below V.heap.size V (V.drew.alloc (.cells #[.int .i64 (Z : Nat)] 3)) := (Below.refl _ V).drew.alloc (Nat.le_refl _) _
  have OD3 := hid (OD2.out.below hbb)
  have ZT3 := hid (ZT2.out.keep hbb)
  have ZS3 := hid (ZS2.out.keep hbb)
  have ZM3 := hid (ZM2.out.keep ZM2.out.lt hbb)
  have HML := hid ZM2.out.lt
  have ZC := hid (Blk.new V.drew 3 #[.int .i64 (Z : Nat)])
  have hcV : V.drew.heap.size = V.heap.size := rfl
  rw [hcV] at ZC
  have hrxl := ZT2.out.lt
  have hsvl := ZS2.out.lt
  have hcvl := OD2.out.bc.lt
  have hrvl := OD2.out.br.lt
  have hzl := OD2.out.bz.lt
  have hsz : (V.drew.alloc (.cells #[.int .i64 (Z : Nat)] 3)).heap.size = V.heap.size + 1 := by simp
  obtain ⟨cb, hcb⟩ : ∃ x, x = V.heap.size := ⟨_, rfl⟩
  have HCB := hid (show w.heap.size < cb ∧ rx < cb ∧ rv < cb ∧ cv < cb ∧ sv < cb ∧ ∀ D ∈ Ds, D < cb from ⟨by omega, by omega, by omega, by omega, by omega, fun D hD => by have := HML.out D hD; omega⟩)
  rw [← hcb] at ZC hsz ⊢
  clear hEL hmkU hbb OD2 ZT2 ZS2 ZM2 HML ys hcV hrxl hsvl hcvl hrvl hzl hcb hout
  generalize V.drew.alloc (.cells #[.int .i64 (Z : Nat)] 3) = G at *
  have HSZ := hid hsz
  clear hsz
  gi_wp2
  refine wp_range (n := 9) (gf := 47) (c := cb) (t := 3) (xs := outS n u.testBit) rfl (fun args w => enters Tryz.func47 (by kernel_rfl) rfl args w) ZC.out (players_iter 8 _ Z _ G HEL.out ZC.out) rfl
   (fun q W => (OdS w W ab ao n c rx rv cv ∧ Blk W sv 3 #[.int .i64 (u : Nat)]) ∧ Blk W rx 3 (arr (2 ^ n) (fun v => if v = u then (minV n b u.testBit q : Nat) else tabV n b (u + 1) v)) ∧ MarkS w.heap.size Ds W)
   (fun _ _ => False) ?_ (fun _ _ _ _ _ hs _ _ => hs) ?_ (fun _ _ h => h.1.1.tb) ⟨⟨OD3.out, ZS3.out⟩, ZT3.out, ZM3.out⟩ ?_ ?_ (fun _ _ _ _ h _ => h.elim)
  · have hc1 := HCB.out
    have hs1 := HSZ.out
    have ht1 := HTP.out
    exact OwnFrom.and (OwnFrom.and (ownFrom_ods (by omega) (by omega)) (ownFrom_blk _ _ _ _)) (OwnFrom.and (fun q X Y row hs hg hr => ownFrom_blk (β := Nat) _ _ _ _ q X Y row hs hg hr) (ownFrom_marks (fun D hD => by have := hc1.2.2.2.2.2 D hD; omega)))
  · rintro q W v ⟨⟨h1, h2⟩, h3, h4⟩
    have hc1 := HCB.out
    exact ⟨⟨h1.far (by omega) (by omega) (by omega) HTP.out 0 v, h2.far (p := ⟨cb, 0, none⟩) (by simp; omega) v⟩, h3.far (p := ⟨cb, 0, none⟩) (by simp; omega) v, ⟨fun D hD => (Below.heap_setCell W ⟨cb, 0, none⟩ v D (by have := hc1.2.2.2.2.2 D hD; simp; omega)).trans (h4.at_ D hD), h4.nod, h4.low⟩⟩
  · intro l q x W W3 hl hr hin hx hv
    obtain ⟨⟨h1, h2⟩, h3, h4⟩ := hin
    have hmx := mem_outS.1 (List.mem_of_getElem? hx)
    have hlt : u < 2 ^ n := by have := HU.out; omega
    obtain ⟨ha1, ha2, ha3⟩ := tab_add (b := b) hmx.1 hmx.2 hlt
    have cz := h1.bz.cell 0
    have cr := h1.br.cell 0
    have cc := h1.bc.cell 0
    have cs := h2.cell 0
    simp only [List.getElem?_toArray, List.getElem?_cons_zero] at cz cr cc cs
    have ct := h3.cell u
    rw [arr_get hlt, if_pos rfl] at ct
    have cf := h3.free u
    have ca := h3.cell (mkN n (addS u.testBit x))
    rw [arr_get ha2, if_neg (by omega)] at ca
    unfold tabV at ca
    rw [if_pos (by omega), ha3] at ca
    have hvb : valS n b (addS u.testBit x) ≤ 1000 := by
     have k1 := valS_bd (n := n) (S := addS u.testBit x) HTB.out
     have k2 := Nat.mul_le_mul h8 h8
     omega
    have hag : ag n b u.testBit x ≤ 8 := Nat.le_trans (onesN_le _ _) h8
    have hmb : minV n b u.testBit q ≤ 64 := by
     have k1 := minV_le (n := n) (b := b) u.testBit q
     have k2 := Nat.mul_le_mul h8 h8
     omega
    have HCO := hid fun (k : Nat) => costF n c (2 ^ n) (2 ^ n) w.heap.size rv ab ao rx x (valS n b (addS u.testBit x)) b u.testBit (W3.drewN k) h8 hmx.1 cz cr (cell_keep (h1.drewN k).lo (HCA.out x hmx.1)) ha2 ca hvb
    rw [HMU2.out] at HCO
    have hpush := minV_push (n := n) (b := b) hx
    have hfin : ∀ (t : Act) (k : Nat) (W4 : World), W4 = (W3.drewN k).setCell ⟨rx, u, none⟩ (.int .i64 (minV n b u.testBit (q + 1) : Nat)) → elemPost G.heap.size cb (fun q W => (OdS w W ab ao n c rx rv cv ∧ Blk W sv 3 #[.int .i64 (u : Nat)]) ∧ Blk W rx 3 (arr (2 ^ n) (fun v => if v = u then (minV n b u.testBit q : Nat) else tabV n b (u + 1) v)) ∧ MarkS w.heap.size Ds W) (fun _ _ => False) (q + 1) W3 .normal t W4 := fun _ k W4 hW4 => by
     have hc1 := HCB.out
     have hs1 := HSZ.out
     have hl1 := HLO.out
     have hv1 := HSV.out
     subst hW4
     refine ⟨⟨by simp, fun r o hB ho _ => (Below.heap_setCell (W3.drewN k) ⟨rx, u, none⟩ _ r (by simp; omega)).trans ho⟩, Below.heap_setCell (W3.drewN k) ⟨rx, u, none⟩ _ cb (by simp; omega), ⟨(h1.drewN k).far (by omega) (by omega) (by omega) HTP.out u _, (h2.drewN k).far (p := ⟨rx, u, none⟩) (by simp; omega) _⟩, ?_, (show MarkS w.heap.size Ds (W3.drewN k) from ⟨h4.at_, h4.nod, h4.low⟩).set (h3.drewN k) u _⟩
     have k3 := (h3.drewN k).set u (.int .i64 (minV n b u.testBit (q + 1) : Nat))
     rw [arr_set] at k3
     rw [arr_congr (g := fun j => if j = u then ((minV n b u.testBit (q + 1) : Nat) : Int) else if j = u then ((minV n b u.testBit q : Nat) : Int) else tabV n b (u + 1) j) fun j _ => by
      by_cases e : j = u
      · simp [e]
      · simp [e]]
     exact k3
    have HFIN := hid hfin
    have HPU := hid hpush
    have hxn : (x : Int) < (n : Int) := by have := hmx.1; omega
    have hui : (u : Int) < (2 : Int) ^ n := by
     have h := Int.ofNat_lt.2 hlt
     rw [show (((2 ^ n : Nat)) : Int) = (2 : Int) ^ n from by simp] at h
     exact h
    have HQ1 := hid hlt
    clear h1 h2 h3 h4 hmx hlt ha1 ha2 ha3 ca hvb hfin hx hv hl hr
    generalize ag n b u.testBit x = g at *
    generalize valS n b (addS u.testBit x) = vv at *
    generalize minV n b u.testBit (q + 1) = m1 at *
    generalize minV n b u.testBit q = m at *
    gi_wp2
    refine ⟨trivial, ?_⟩
    gi_wp2
    refine wpIn_mono (Q := fun e _ W4 => match e with | .normal => ∃ k, W4 = (W3.drewN k).setCell ⟨rx, u, none⟩ (.int .i64 (m1 : Nat)) | _ => False) ?first6 ?rest6
    case rest6 =>
     intro e t W4 hq
     cases e <;> first | exact hq.elim | skip
     obtain ⟨k, hq⟩ := hq
     gi_wp2
     exact HFIN.out _ k _ hq
    case first6 =>
     have hne1 : ¬ rv = rx := by have := HLO.out; omega
     have hne2 : ¬ sv = rx := by have := HLO.out; have := HSV.out; omega
     have hne3 : ¬ cv = rx := by have := HLO.out; omega
     have hmin : (min (m : Int) ((g : Int) + (vv : Int))) = ((m1 : Nat) : Int) := by rw [HPU.out]; omega
     clear HFIN HLO HSV HCB HSZ HAL HCA HT HTB HEL HU HNN OD3 ZT3 ZS3 ZM3 ZC HMK hpush HPU
     refine region_round (S := (fun w' => w'.cell? ⟨rv, 0, none⟩ = some (.slice (some ⟨rx, 0, none⟩) (2 ^ n) (2 ^ n)) ∧ w'.cell? ⟨sv, 0, none⟩ = some (.int .i64 (u : Nat)) ∧ w'.cell? ⟨cv, 0, none⟩ = some (.func (.func 25) #[] #[.pointer (some ⟨w.heap.size, 0, none⟩), .pointer (some ⟨rv, 0, none⟩)]))) (by kernel_rfl) (by kernel_rfl) (by rintro ⟨_, _, h⟩; exact h) (by (try dsimp only); (first | exact ⟨cr, cs, cc⟩ | exact ⟨cell_far _ (p := ⟨rx, u, none⟩) hne1 cr, cell_far _ (p := ⟨rx, u, none⟩) hne2 cs, cell_far _ (p := ⟨rx, u, none⟩) hne3 cc⟩)) (fun hHeld => ?_)
     refine tk ?_ 0 (some 42) rfl rfl ?_ ?_; rotate_left; · (intro w hSw; (try dsimp only at hSw); go_simp <;> with_reducible rfl)
     try simp only [Act.put, pA0, pA1, pA2]
     refine tk ?_ 1 (some 43) rfl rfl ?_ ?_; rotate_left; · (intro w hSw; (try dsimp only at hSw); go_simp <;> with_reducible rfl)
     try simp only [Act.put, pA0, pA1, pA2]
     refine tk ?_ 2 (some 44) rfl rfl ?_ ?_; rotate_left; · (intro w hSw; (try dsimp only at hSw); go_simp <;> with_reducible rfl)
     try simp only [Act.put, pA0, pA1, pA2]
     refine tk ?_ 3 (some 45) rfl rfl ?_ ?_; rotate_left; · (intro w hSw; (try dsimp only at hSw); go_simp <;> with_reducible rfl)
     try simp only [Act.put, pA0, pA1, pA2]
     refine tk ?_ 4 (some 46) rfl rfl ?_ ?_; rotate_left; · (intro w hSw; (try dsimp only at hSw); go_simp <;> with_reducible rfl)
     try simp only [Act.put, pA0, pA1, pA2]
     refine tk ?_ 6 (some 48) rfl rfl ?_ ?_; rotate_left; · (intro w hSw; (try dsimp only at hSw); go_simp <;> with_reducible rfl)
     try simp only [Act.put, pA0, pA1, pA2]
     refine tk ?_ 7 (some 49) rfl rfl ?_ ?_; rotate_left; · (intro w hSw; (try dsimp only at hSw); go_simp <;> with_reducible rfl)
     try simp only [Act.put, pA0, pA1, pA2]
     refine tk ?_ 8 (some 50) rfl rfl ?_ ?_; rotate_left; · (intro w hSw; (try dsimp only at hSw); go_simp <;> with_reducible rfl)
     try simp only [Act.put, pA0, pA1, pA2]
     refine wpAnyH_ready (rs := [5, 9]) (by kernel_rfl) (by simp) ?_
     refine AllReadyH.cons rfl (fun K hK => ?_) (AllReadyH.cons rfl (fun K hK => ?_) (AllReadyH.nil))
     · go_simp
       clear hHeld
       refine hK.out _ _ ?_ (fun hHeld => ?_); · ((try dsimp only); (first | exact ⟨cr, cs, cc⟩ | exact ⟨cell_far _ (p := ⟨rx, u, none⟩) hne1 cr, cell_far _ (p := ⟨rx, u, none⟩) hne2 cs, cell_far _ (p := ⟨rx, u, none⟩) hne3 cc⟩))
       clear hK K
       try simp only [Act.put, pA0, pA1, pA2]
       refine wpAnyH_ready (rs := [9]) (by kernel_rfl) (by simp) ?_
       refine AllReadyH.cons rfl (fun K hK => ?_) AllReadyH.nil
       go_simp
       go_at_call 25
       refine (HCO.out 1).mono ?_
       rintro e w' ⟨rfl, kq, rfl⟩
       clear hHeld
       refine hK.out _ _ ?_ (fun hHeld => ?_); · ((try dsimp only); (first | exact ⟨cr, cs, cc⟩ | exact ⟨cell_far _ (p := ⟨rx, u, none⟩) hne1 cr, cell_far _ (p := ⟨rx, u, none⟩) hne2 cs, cell_far _ (p := ⟨rx, u, none⟩) hne3 cc⟩))
       clear hK K
       try simp only [Act.put, pA0, pA1, pA2]
       refine tk ?_ 10 (some 52) rfl rfl ?_ ?_; rotate_left; · (intro w hSw; (try dsimp only at hSw); go_simp <;> with_reducible rfl)
       try simp only [Act.put, pA0, pA1, pA2]
       refine tk ?_ 11 (some 53) rfl rfl ?_ ?_; rotate_left; · (intro w hSw; (try dsimp only at hSw); go_simp <;> with_reducible rfl)
       try simp only [Act.put, pA0, pA1, pA2]
       refine wpAnyH_ready (rs := [12]) (by kernel_rfl) (by simp) ?_
       refine AllReadyH.cons rfl (fun K hK => ?_) AllReadyH.nil
       go_simp
       refine hK.out _ _ ?_ (fun hHeld => ?_); · ((try dsimp only); (first | exact ⟨cr, cs, cc⟩ | exact ⟨cell_far _ (p := ⟨rx, u, none⟩) hne1 cr, cell_far _ (p := ⟨rx, u, none⟩) hne2 cs, cell_far _ (p := ⟨rx, u, none⟩) hne3 cc⟩))
       clear hK K
       try simp only [Act.put, pA0, pA1, pA2]
       refine wpAnyH_done (by kernel_rfl) ?_ _
       first | exact ⟨1 + kq, rfl⟩ | exact ⟨1 + kq, by rw [hmin]⟩
     · go_simp
       go_at_call 25
       refine (HCO.out 1).mono ?_
       rintro e w' ⟨rfl, kq, rfl⟩
       clear hHeld
       refine hK.out _ _ ?_ (fun hHeld => ?_); · ((try dsimp only); (first | exact ⟨cr, cs, cc⟩ | exact ⟨cell_far _ (p := ⟨rx, u, none⟩) hne1 cr, cell_far _ (p := ⟨rx, u, none⟩) hne2 cs, cell_far _ (p := ⟨rx, u, none⟩) hne3 cc⟩))
       clear hK K
       try simp only [Act.put, pA0, pA1, pA2]
       refine wpAnyH_ready (rs := [5]) (by kernel_rfl) (by simp) ?_
       refine AllReadyH.cons rfl (fun K hK => ?_) AllReadyH.nil
       go_simp
       clear hHeld
       refine hK.out _ _ ?_ (fun hHeld => ?_); · ((try dsimp only); (first | exact ⟨cr, cs, cc⟩ | exact ⟨cell_far _ (p := ⟨rx, u, none⟩) hne1 cr, cell_far _ (p := ⟨rx, u, none⟩) hne2 cs, cell_far _ (p := ⟨rx, u, none⟩) hne3 cc⟩))
       clear hK K
       try simp only [Act.put, pA0, pA1, pA2]
       refine tk ?_ 10 (some 52) rfl rfl ?_ ?_; rotate_left; · (intro w hSw; (try dsimp only at hSw); go_simp <;> with_reducible rfl)
       try simp only [Act.put, pA0, pA1, pA2]
       refine tk ?_ 11 (some 53) rfl rfl ?_ ?_; rotate_left; · (intro w hSw; (try dsimp only at hSw); go_simp <;> with_reducible rfl)
       try simp only [Act.put, pA0, pA1, pA2]
       refine wpAnyH_ready (rs := [12]) (by kernel_rfl) (by simp) ?_
       refine AllReadyH.cons rfl (fun K hK => ?_) AllReadyH.nil
       go_simp
       refine hK.out _ _ ?_ (fun hHeld => ?_); · ((try dsimp only); (first | exact ⟨cr, cs, cc⟩ | exact ⟨cell_far _ (p := ⟨rx, u, none⟩) hne1 cr, cell_far _ (p := ⟨rx, u, none⟩) hne2 cs, cell_far _ (p := ⟨rx, u, none⟩) hne3 cc⟩))
       clear hK K
       try simp only [Act.put, pA0, pA1, pA2]
       refine wpAnyH_done (by kernel_rfl) ?_ _
       first | exact ⟨1 + kq, rfl⟩ | exact ⟨1 + kq, by rw [hmin]⟩
  · rintro D W hD ⟨⟨h1, h2⟩, h3, h4⟩ hKD
    have h3 : Blk W rx 3 (arr (2 ^ n) (fun v => if v = u then (minV n b u.testBit (outS n u.testBit).length : Nat) else tabV n b (u + 1) v)) := h3
    rw [tab_step (by have := HU.out; omega)] at h3
    have HMS := hid (h4.cons hKD (by have := HCB.out; have := HSZ.out; omega) (fun hm => by have := HCB.out.2.2.2.2.2 D hm; have := HSZ.out; omega))
    have OD4 := hid h1
    have ZT4 := hid h3
    have ys := h2.cell 0
    simp only [List.getElem?_toArray, List.getElem?_cons_zero] at ys
    have hub : u < 256 := by have := HU.out; omega
    clear h1 h2 h3 h4 hKD OD3 ZT3 ZS3 ZM3 ZC
    gi_wp2
    have hbw := (Below.refl W.heap.size W).alloc (Nat.le_refl _) (.cells #[.int .i64 ((u : Int) - 1)] 3)
    have hcn := (Blk.new W 3 #[.int .i64 ((u : Int) - 1)]).cell 0
    simp only [List.getElem?_toArray, List.getElem?_cons_zero] at hcn
    rw [HI.out, HMU.out]
    refine ⟨⟨u, W.heap.size, D :: Ds, by have := HU.out; omega, OD4.out.bc.lt, oT1_ex rfl, rfl, OD4.out.below hbw, Blk.new W 3 #[.int .i64 ((u : Int) - 1)], ZT4.out.alloc _, HMS.out.keep HMS.out.lt hbw⟩, ?_⟩
    show (match (W.alloc (.cells #[.int .i64 ((u : Int) - 1)] 3)).cell? ⟨W.heap.size, 0, none⟩ with
     | some (.int _ x) => (x + 1).toNat
     | _ => 0) < u + 1
    rw [hcn]
    show ((u : Int) - 1 + 1).toNat < u + 1
    omega
end Go.Proofs.YtflepjgcpdaodaaGreatDoor
