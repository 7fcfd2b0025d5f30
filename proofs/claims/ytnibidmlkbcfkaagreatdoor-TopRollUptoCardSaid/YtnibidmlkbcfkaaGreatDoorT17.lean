/- Texts of this proof, one behind the other; each says its condition at its head. -/
import Derived.Test.YtnibidmlkbcfkaaGreatDoorT16
import Derived.Test.YtnibidmlkbcfkaaGreatDoorT14
namespace Go.Proofs.YtnibidmlkbcfkaaGreatDoor
/- Walk of weigh's after and After at the even result. Condition: numbers from 0 to 1000. -/
section
open Go.RowKit Go.Maps
set_option maxRecDepth 100000 in
set_option maxHeartbeats 4000000 in
theorem afterF (b h t g kb kh kt kg : Int) (hk : inK b h t g) (hK : inK kb kh kt kg) (hle : b ≤ kb ∧ h ≤ kh ∧ t ≤ kt) (w : World) :
 Calls Tryz.prog 201 #[knV kb kh kt kg true, ldV b h t g, .int .i64 0] w fun x w' => x = .returned (.tuple #[knV (kb - b) (kh - h) (kt - t) (min 13 (kg + b + h + t)) true, .bool true]) ∧ Below w.heap.size w w' := by
 have hin : inK (kb - b) (kh - h) (kt - t) (min 13 (kg + b + h + t)) := by unfold inK at hk hK ⊢; omega
 have HP := hid fun W => possF _ _ _ _ true hin W
 unfold inK at hk hK
 have e1 : wrap64 (kb + kh) = kb + kh := by simp only [wrap64]; omega
 have e2 : wrap64 (kb + kh + kt) = kb + kh + kt := by simp only [wrap64]; omega
 have e3 : wrap64 (kb - b) = kb - b := by simp only [wrap64]; omega
 have e4 : wrap64 (kh - h) = kh - h := by simp only [wrap64]; omega
 have e5 : wrap64 (kt - t) = kt - t := by simp only [wrap64]; omega
 have e6 : wrap64 (kg + (kb + kh + kt)) = kg + (kb + kh + kt) := by simp only [wrap64]; omega
 have e7 : wrap64 (kg + (kb + kh + kt) - (kb - b)) = kg + (kb + kh + kt) - (kb - b) := by simp only [wrap64]; omega
 have e8 : wrap64 (kg + (kb + kh + kt) - (kb - b) - (kh - h)) = kg + (kb + kh + kt) - (kb - b) - (kh - h) := by simp only [wrap64]; omega
 have e9 : wrap64 (kg + (kb + kh + kt) - (kb - b) - (kh - h) - (kt - t)) = kg + b + h + t := by simp only [wrap64]; omega
 have e10 : decide (0 < 2 * (kb - b) + (kh - h) + (kt - t) + 1) = true := decide_eq_true (by omega)
 unfold knV at HP
 unfold knV ldV
 clear hin hk hK hle
 go_enter Tryz.func201, Tryz.ntmps201
 go_wp2_with fail
 have HZ := hid ((Blk.new_at ((w.alloc (.cells #[.int .i64 kb, .int .i64 kh, .int .i64 kt, .int .i64 kg, .bool true] 146)).alloc (.cells #[.int .i64 b, .int .i64 0, .int .i64 h, .int .i64 0, .int .i64 t, .int .i64 0, .int .i64 g, .int .i64 (b + h + t + g)] 214)) 146 #[.int .i64 0, .int .i64 0, .int .i64 0, .int .i64 0, .bool false] (n := w.heap.size + 1 + 1) (by simp)).alloc (.cells #[.int .i64 (kb - b), .int .i64 (kh - h), .int .i64 (kt - t), .int .i64 (min 13 (kg + b + h + t)), .bool true] 146))
 have HO := hid (Blk.new_at (((w.alloc (.cells #[.int .i64 kb, .int .i64 kh, .int .i64 kt, .int .i64 kg, .bool true] 146)).alloc (.cells #[.int .i64 b, .int .i64 0, .int .i64 h, .int .i64 0, .int .i64 t, .int .i64 0, .int .i64 g, .int .i64 (b + h + t + g)] 214)).alloc (.cells #[.int .i64 0, .int .i64 0, .int .i64 0, .int .i64 0, .bool false] 146)) 146 #[.int .i64 (kb - b), .int .i64 (kh - h), .int .i64 (kt - t), .int .i64 (min 13 (kg + b + h + t)), .bool true] (n := w.heap.size + 1 + 1 + 1) (by simp))
 have HW := hid (((((Below.refl w.heap.size w).alloc (Nat.le_refl _) (.cells #[.int .i64 kb, .int .i64 kh, .int .i64 kt, .int .i64 kg, .bool true] 146)).alloc (by simp) (.cells #[.int .i64 b, .int .i64 0, .int .i64 h, .int .i64 0, .int .i64 t, .int .i64 0, .int .i64 g, .int .i64 (b + h + t + g)] 214)).alloc (by simp; omega) (.cells #[.int .i64 0, .int .i64 0, .int .i64 0, .int .i64 0, .bool false] 146)).alloc (by simp; omega) (.cells #[.int .i64 (kb - b), .int .i64 (kh - h), .int .i64 (kt - t), .int .i64 (min 13 (kg + b + h + t)), .bool true] 146))
 generalize ((((w.alloc (.cells #[.int .i64 kb, .int .i64 kh, .int .i64 kt, .int .i64 kg, .bool true] 146)).alloc (.cells #[.int .i64 b, .int .i64 0, .int .i64 h, .int .i64 0, .int .i64 t, .int .i64 0, .int .i64 g, .int .i64 (b + h + t + g)] 214)).alloc (.cells #[.int .i64 0, .int .i64 0, .int .i64 0, .int .i64 0, .bool false] 146)).alloc (.cells #[.int .i64 (kb - b), .int .i64 (kh - h), .int .i64 (kt - t), .int .i64 (min 13 (kg + b + h + t)), .bool true] 146)) = X at *
 have hl6 : w.heap.size ≤ w.heap.size + 1 + 1 := by omega
 have hne : w.heap.size + 1 + 1 ≠ w.heap.size + 1 + 1 + 1 := by omega
 generalize w.heap.size + 1 + 1 + 1 = n9 at *
 generalize w.heap.size + 1 + 1 = n6 at *
 have HZ := hid (HZ.out.keep (Below.refl _ X).drew); have HO := hid (HO.out.keep (Below.refl _ X).drew); have HW := hid (below_call HW.out (Below.refl _ X).drew HW.out.size)
 refine wp_region_held_drew (S := (fun Y => Y.cell? ⟨n9, 0, none⟩ = some (.int .i64 (kb - b)) ∧ Y.cell? ⟨n9, 1, none⟩ = some (.int .i64 (kh - h)) ∧ Y.cell? ⟨n9, 2, none⟩ = some (.int .i64 (kt - t)) ∧ Y.cell? ⟨n9, 3, none⟩ = some (.int .i64 (min 13 (kg + b + h + t))) ∧ Y.cell? ⟨n9, 4, none⟩ = some (.bool true))) (by kernel_rfl) (by (try dsimp only); (first | exact ⟨HO.out.cell 0, HO.out.cell 1, HO.out.cell 2, HO.out.cell 3, HO.out.cell 4⟩ | exact hHeld | assumption)) (fun hHeld => ?_)
 refine tk ?_ 0 (some 101) rfl rfl ?_ ?_; rotate_left; · (intro w hSw; (try dsimp only at hSw); go_simp <;> with_reducible rfl)
 try simp only [Act.put,qA,qB,qC]
 refine tk ?_ 1 (some 102) rfl rfl ?_ ?_; rotate_left; · (intro w hSw; (try dsimp only at hSw); go_simp <;> with_reducible rfl)
 try simp only [Act.put,qA,qB,qC]
 refine st 2 rfl fun K hK => ?_
 go_simp
 refine (HP.out _).mono ?_; rintro x X1 ⟨rfl, b1⟩
 have HZ2 := hid (HZ.out.keep b1); have HO2 := hid (HO.out.keep b1); have HW2 := hid (below_call HW.out b1 HW.out.size)
 clear HZ HO HW b1 hHeld
 have HZ := HZ2; have HO := HO2; have HW := HW2
 clear HZ2 HO2 HW2
 have z0 := HZ.out.cell 0; have z1 := HZ.out.cell 1; have z2 := HZ.out.cell 2; have z3 := HZ.out.cell 3; have z4 := HZ.out.cell 4
 simp only [List.getElem?_toArray, List.getElem?_cons_zero, List.getElem?_cons_succ] at z0 z1 z2 z3 z4
 have f0 := HZ.out.free 0; have f1 := HZ.out.free 1; have f2 := HZ.out.free 2; have f3 := HZ.out.free 3; have f4 := HZ.out.free 4
 have HE := hid (((((HZ.out.set 0 (.int .i64 (kb - b))).set 1 (.int .i64 (kh - h))).set 2 (.int .i64 (kt - t))).set 3 (.int .i64 (min 13 (kg + b + h + t)))).set 4 (.bool true))
 have HOE := hid (((((HO.out.far (p := ⟨n6, 0, none⟩) hne.symm (.int .i64 (kb - b))).far (p := ⟨n6, 1, none⟩) hne.symm (.int .i64 (kh - h))).far (p := ⟨n6, 2, none⟩) hne.symm (.int .i64 (kt - t))).far (p := ⟨n6, 3, none⟩) hne.symm (.int .i64 (min 13 (kg + b + h + t)))).far (p := ⟨n6, 4, none⟩) hne.symm (.bool true))
 have HWE := hid (((((HW.out.setCell (p := ⟨n6, 0, none⟩) hl6 (.int .i64 (kb - b))).setCell (p := ⟨n6, 1, none⟩) hl6 (.int .i64 (kh - h))).setCell (p := ⟨n6, 2, none⟩) hl6 (.int .i64 (kt - t))).setCell (p := ⟨n6, 3, none⟩) hl6 (.int .i64 (min 13 (kg + b + h + t)))).setCell (p := ⟨n6, 4, none⟩) hl6 (.bool true))
 refine hK.out _ _ ?_ (fun hHeld => ?_); · ((try dsimp only); (first | exact ⟨HO.out.cell 0, HO.out.cell 1, HO.out.cell 2, HO.out.cell 3, HO.out.cell 4⟩ | exact hHeld | assumption))
 clear hK K
 try simp only [Act.put,qA,qB,qC]
 refine tk ?_ 3 (some 104) rfl rfl ?_ ?_; rotate_left; · (intro w hSw; (try dsimp only at hSw); go_simp <;> with_reducible rfl)
 try simp only [Act.put,qA,qB,qC]
 refine st 4 rfl fun K hK => ?_
 go_simp
 clear hHeld
 have HO := HOE
 refine hK.out _ _ ?_ (fun hHeld => ?_); · ((try dsimp only); (first | exact ⟨HO.out.cell 0, HO.out.cell 1, HO.out.cell 2, HO.out.cell 3, HO.out.cell 4⟩ | exact hHeld | assumption))
 clear hK K
 try simp only [Act.put,qA,qB,qC]
 refine tk ?_ 5 (some 7) rfl rfl ?_ ?_; rotate_left; · (intro w hSw; (try dsimp only at hSw); go_simp <;> with_reducible rfl)
 try simp only [Act.put,qA,qB,qC]
 refine wpAnyH_done (by kernel_rfl) ?_ _
 go_wp2
 exact bodyPost_ret (results_row_tmp rfl _ _ n6 146 #[.int .i64 (kb - b), .int .i64 (kh - h), .int .i64 (kt - t), .int .i64 (min 13 (kg + b + h + t)), .bool true] (0, 0) _ rfl HE.out Tryz.underlying146 rfl (by kernel_rfl)) rfl ⟨rfl, HWE.out⟩
end
/- Walk of weigh.After at the even result. Condition: numbers from 0 to 1000, a valid batch. -/
section
open Go.RowKit Go.Maps
set_option maxRecDepth 100000 in
set_option maxHeartbeats 4000000 in
theorem weighAfterF (b h t g kb kh kt kg : Int) (hk : inK b h t g) (hK : inK kb kh kt kg) (hok : knOk kb kh kt kg = true) (w : World) :
 Calls Tryz.prog 163 #[knV kb kh kt kg true, ldV b h t g, .int .i64 0] w fun x w' => x = .returned (.tuple #[if ofR b h t g kb kh kt kg then knV (kb - b) (kh - h) (kt - t) (min 13 (kg + b + h + t)) true else knV 0 0 0 0 false, .int .i64 (if ofR b h t g kb kh kt kg then 0 else 2)]) ∧ Below w.heap.size w w' := by
 have HV := hid fun W => validF kb kh kt kg hK W
 have HF := hid fun W => ofF b h t g kb kh kt kg true hk W
 rw [hok] at HV
 have HA := hid fun (hle : b ≤ kb ∧ h ≤ kh ∧ t ≤ kt) W => afterF b h t g kb kh kt kg hk hK hle W
 have HB := hid ((((Below.refl w.heap.size w).alloc (Nat.le_refl _) (.cells #[.int .i64 kb, .int .i64 kh, .int .i64 kt, .int .i64 kg, .bool true] 146)).alloc (by simp) (.cells #[.int .i64 b, .int .i64 0, .int .i64 h, .int .i64 0, .int .i64 t, .int .i64 0, .int .i64 g, .int .i64 (b + h + t + g)] 214)).alloc (by simp; omega) (.cells #[.int .i64 0, .int .i64 0, .int .i64 0, .int .i64 0, .bool false] 146))
 have H3 := hid (((Blk.new w 146 #[.int .i64 kb, .int .i64 kh, .int .i64 kt, .int .i64 kg, .bool true]).alloc (.cells #[.int .i64 b, .int .i64 0, .int .i64 h, .int .i64 0, .int .i64 t, .int .i64 0, .int .i64 g, .int .i64 (b + h + t + g)] 214)).alloc (.cells #[.int .i64 0, .int .i64 0, .int .i64 0, .int .i64 0, .bool false] 146))
 have H4 := hid ((Blk.new_at (w.alloc (.cells #[.int .i64 kb, .int .i64 kh, .int .i64 kt, .int .i64 kg, .bool true] 146)) 214 #[.int .i64 b, .int .i64 0, .int .i64 h, .int .i64 0, .int .i64 t, .int .i64 0, .int .i64 g, .int .i64 (b + h + t + g)] (n := w.heap.size + 1) (by simp)).alloc (.cells #[.int .i64 0, .int .i64 0, .int .i64 0, .int .i64 0, .bool false] 146))
 have H6 := hid (Blk.new_at ((w.alloc (.cells #[.int .i64 kb, .int .i64 kh, .int .i64 kt, .int .i64 kg, .bool true] 146)).alloc (.cells #[.int .i64 b, .int .i64 0, .int .i64 h, .int .i64 0, .int .i64 t, .int .i64 0, .int .i64 g, .int .i64 (b + h + t + g)] 214)) 146 #[.int .i64 0, .int .i64 0, .int .i64 0, .int .i64 0, .bool false] (n := w.heap.size + 1 + 1) (by simp))
 cases hof : ofR b h t g kb kh kt kg
 · rw [hof] at HF
   simp only [Bool.false_eq_true, if_false]
   unfold knV ldV at HF ⊢
   unfold knV at HV
   clear hof hk hK hok HA
   go_enter Tryz.func163, Tryz.ntmps163
   go_wp2_with fail
   refine (HV.out _).mono ?_; rintro x X1 ⟨rfl, b1⟩
   have HB1 := hid (below_call HB.out b1 HB.out.size); have H31 := hid (H3.out.keep b1); have H41 := hid (H4.out.keep b1); have H61 := hid (H6.out.keep b1)
   clear HB H3 H4 H6 b1
   have c0 := H31.out.cell 0; have c1 := H31.out.cell 1; have c2 := H31.out.cell 2; have c3 := H31.out.cell 3; have c4 := H31.out.cell 4
   have l0 := H41.out.cell 0; have l1 := H41.out.cell 1; have l2 := H41.out.cell 2; have l3 := H41.out.cell 3; have l4 := H41.out.cell 4; have l5 := H41.out.cell 5; have l6 := H41.out.cell 6; have l7 := H41.out.cell 7
   simp only [List.getElem?_toArray, List.getElem?_cons_zero, List.getElem?_cons_succ] at c0 c1 c2 c3 c4 l0 l1 l2 l3 l4 l5 l6 l7
   go_wp2_with fail
   refine (HF.out _).mono ?_; rintro x X2 ⟨rfl, b2⟩
   have HB2 := hid (below_call HB1.out b2 HB1.out.size); have H32 := hid (H31.out.keep b2); have H42 := hid (H41.out.keep b2); have H62 := hid (H61.out.keep b2)
   clear HB1 H31 H41 H61 b2
   clear c0 c1 c2 c3 c4 l0 l1 l2 l3 l4 l5 l6 l7
   have z0 := H62.out.cell 0; have z1 := H62.out.cell 1; have z2 := H62.out.cell 2; have z3 := H62.out.cell 3; have z4 := H62.out.cell 4
   simp only [List.getElem?_toArray, List.getElem?_cons_zero, List.getElem?_cons_succ] at z0 z1 z2 z3 z4
   have f0 := H62.out.free 0; have f1 := H62.out.free 1; have f2 := H62.out.free 2; have f3 := H62.out.free 3; have f4 := H62.out.free 4
   have hl6 : w.heap.size ≤ w.heap.size + 1 + 1 := by omega
   have HE := hid (((((H62.out.set 0 (.int .i64 0)).set 1 (.int .i64 0)).set 2 (.int .i64 0)).set 3 (.int .i64 0)).set 4 (.bool false))
   have HWE := hid (((((HB2.out.setCell (p := ⟨w.heap.size + 1 + 1, 0, none⟩) hl6 (.int .i64 0)).setCell (p := ⟨w.heap.size + 1 + 1, 1, none⟩) hl6 (.int .i64 0)).setCell (p := ⟨w.heap.size + 1 + 1, 2, none⟩) hl6 (.int .i64 0)).setCell (p := ⟨w.heap.size + 1 + 1, 3, none⟩) hl6 (.int .i64 0)).setCell (p := ⟨w.heap.size + 1 + 1, 4, none⟩) hl6 (.bool false))
   clear hl6
   go_wp2
   exact bodyPost_ret (results_row_tmp rfl _ _ (w.heap.size + 1 + 1) 146 #[.int .i64 0, .int .i64 0, .int .i64 0, .int .i64 0, .bool false] (0, 0) _ rfl HE.out Tryz.underlying146 rfl (by kernel_rfl)) rfl ⟨rfl, HWE.out⟩
 · rw [hof] at HF
   simp only [if_true]
   have hle : b ≤ kb ∧ h ≤ kh ∧ t ≤ kt := by
    unfold ofR at hof
    simp only [Bool.and_eq_true, decide_eq_true_iff] at hof
    omega
   have HA2 := hid (HA.out hle)
   unfold knV ldV at HF HA2 ⊢
   unfold knV at HV
   clear hof hk hK hok HA hle
   generalize kb - b = z0' at *
   generalize kh - h = z1' at *
   generalize kt - t = z2' at *
   generalize min 13 (kg + b + h + t) = z3' at *
   go_enter Tryz.func163, Tryz.ntmps163
   go_wp2_with fail
   refine (HV.out _).mono ?_; rintro x X1 ⟨rfl, b1⟩
   have HB1 := hid (below_call HB.out b1 HB.out.size); have H31 := hid (H3.out.keep b1); have H41 := hid (H4.out.keep b1); have H61 := hid (H6.out.keep b1)
   clear HB H3 H4 H6 b1
   have c0 := H31.out.cell 0; have c1 := H31.out.cell 1; have c2 := H31.out.cell 2; have c3 := H31.out.cell 3; have c4 := H31.out.cell 4
   have l0 := H41.out.cell 0; have l1 := H41.out.cell 1; have l2 := H41.out.cell 2; have l3 := H41.out.cell 3; have l4 := H41.out.cell 4; have l5 := H41.out.cell 5; have l6 := H41.out.cell 6; have l7 := H41.out.cell 7
   simp only [List.getElem?_toArray, List.getElem?_cons_zero, List.getElem?_cons_succ] at c0 c1 c2 c3 c4 l0 l1 l2 l3 l4 l5 l6 l7
   go_wp2_with fail
   refine (HF.out _).mono ?_; rintro x X2 ⟨rfl, b2⟩
   have HB2 := hid (below_call HB1.out b2 HB1.out.size); have H32 := hid (H31.out.keep b2); have H42 := hid (H41.out.keep b2); have H62 := hid (H61.out.keep b2)
   clear HB1 H31 H41 H61 b2
   clear c0 c1 c2 c3 c4 l0 l1 l2 l3 l4 l5 l6 l7
   have c0 := H32.out.cell 0; have c1 := H32.out.cell 1; have c2 := H32.out.cell 2; have c3 := H32.out.cell 3; have c4 := H32.out.cell 4
   have l0 := H42.out.cell 0; have l1 := H42.out.cell 1; have l2 := H42.out.cell 2; have l3 := H42.out.cell 3; have l4 := H42.out.cell 4; have l5 := H42.out.cell 5; have l6 := H42.out.cell 6; have l7 := H42.out.cell 7
   simp only [List.getElem?_toArray, List.getElem?_cons_zero, List.getElem?_cons_succ] at c0 c1 c2 c3 c4 l0 l1 l2 l3 l4 l5 l6 l7
   go_wp2_with fail
   refine (HA2.out _).mono ?_; rintro x X3 ⟨rfl, b3⟩
   have HB3 := hid (below_call HB2.out b3 HB2.out.size); have H33 := hid (H32.out.keep b3); have H43 := hid (H42.out.keep b3); have H63 := hid (H62.out.keep b3)
   clear HB2 H32 H42 H62 b3
   clear c0 c1 c2 c3 c4 l0 l1 l2 l3 l4 l5 l6 l7
   have HB4 := hid (HB3.out.alloc HB3.out.size (.cells #[.int .i64 z0', .int .i64 z1', .int .i64 z2', .int .i64 z3', .bool true] 146))
   have H64 := hid (H63.out.alloc (.cells #[.int .i64 z0', .int .i64 z1', .int .i64 z2', .int .i64 z3', .bool true] 146))
   have z0 := H63.out.cell 0; have z1 := H63.out.cell 1; have z2 := H63.out.cell 2; have z3 := H63.out.cell 3; have z4 := H63.out.cell 4
   simp only [List.getElem?_toArray, List.getElem?_cons_zero, List.getElem?_cons_succ] at z0 z1 z2 z3 z4
   have f0 := H63.out.free 0; have f1 := H63.out.free 1; have f2 := H63.out.free 2; have f3 := H63.out.free 3; have f4 := H63.out.free 4
   have hl6 : w.heap.size ≤ w.heap.size + 1 + 1 := by omega
   have HE := hid (((((H64.out.set 0 (.int .i64 z0')).set 1 (.int .i64 z1')).set 2 (.int .i64 z2')).set 3 (.int .i64 z3')).set 4 (.bool true))
   have HWE := hid (((((HB4.out.setCell (p := ⟨w.heap.size + 1 + 1, 0, none⟩) hl6 (.int .i64 z0')).setCell (p := ⟨w.heap.size + 1 + 1, 1, none⟩) hl6 (.int .i64 z1')).setCell (p := ⟨w.heap.size + 1 + 1, 2, none⟩) hl6 (.int .i64 z2')).setCell (p := ⟨w.heap.size + 1 + 1, 3, none⟩) hl6 (.int .i64 z3')).setCell (p := ⟨w.heap.size + 1 + 1, 4, none⟩) hl6 (.bool true))
   clear hl6
   have n1 : w.heap.size + 1 + 1 < X3.heap.size := H63.out.lt
   have n2 : ¬ w.heap.size + 1 + 1 = X3.heap.size := by omega
   have n3 : ¬ X3.heap.size = w.heap.size + 1 + 1 := by omega
   have n4 : (X3.heap.size == w.heap.size + 1 + 1) = false := by simp; omega
   have n5 : (w.heap.size + 1 + 1 == X3.heap.size) = false := by simp; omega
   have y0 := H64.out.cell 0; have y1 := H64.out.cell 1; have y2 := H64.out.cell 2; have y3 := H64.out.cell 3; have y4 := H64.out.cell 4
   simp only [List.getElem?_toArray, List.getElem?_cons_zero, List.getElem?_cons_succ] at y0 y1 y2 y3 y4
   have g0 := H64.out.free 0; have g1 := H64.out.free 1; have g2 := H64.out.free 2; have g3 := H64.out.free 3; have g4 := H64.out.free 4
   go_wp2_with fail
   have hl7 : w.heap.size ≤ w.heap.size + 1 + 1 := by omega
   have HE2 := hid ((((((H63.out.set 0 (.int .i64 z0')).set 1 (.int .i64 z1')).set 2 (.int .i64 z2')).set 3 (.int .i64 z3')).set 4 (.bool true)).alloc (.cells #[.int .i64 z0', .int .i64 z1', .int .i64 z2', .int .i64 z3', .bool true] 146))
   have HWE2 := hid ((((((HB3.out.setCell (p := ⟨w.heap.size + 1 + 1, 0, none⟩) hl7 (.int .i64 z0')).setCell (p := ⟨w.heap.size + 1 + 1, 1, none⟩) hl7 (.int .i64 z1')).setCell (p := ⟨w.heap.size + 1 + 1, 2, none⟩) hl7 (.int .i64 z2')).setCell (p := ⟨w.heap.size + 1 + 1, 3, none⟩) hl7 (.int .i64 z3')).setCell (p := ⟨w.heap.size + 1 + 1, 4, none⟩) hl7 (.bool true)).alloc (by have := HB3.out.size; simpa using this) (.cells #[.int .i64 z0', .int .i64 z1', .int .i64 z2', .int .i64 z3', .bool true] 146))
   exact bodyPost_ret (results_row_tmp rfl _ _ (w.heap.size + 1 + 1) 146 #[.int .i64 z0', .int .i64 z1', .int .i64 z2', .int .i64 z3', .bool true] (0, 0) _ rfl HE2.out Tryz.underlying146 rfl (by kernel_rfl)) rfl ⟨rfl, HWE2.out⟩
end
/- Walk of lay at any state of a call's own. Condition: the line's numbers are small and lie below it. -/
section
open Go.RowKit Go.Maps
theorem grown_trans {w w1 w2 : World} {r : Option Nat} (h1 : w.grownBy w1 r) (h2 : w1.grownBy w2 r) : w.grownBy w2 r :=
 ⟨h2.os.trans h1.os, h2.tape.trans h1.tape, h2.output.trans h1.output, Nat.le_trans h1.size h2.size, fun k hk hne => (h2.block k (Nat.lt_of_lt_of_le hk h1.size) hne).trans (h1.block k hk hne)⟩
section
variable {X W : World} {B b : Nat} {m u p t e : Value} {s : Bk}
/-- Five cells of a state's batch written anew. -/
theorem StO.putKn (h : StO X B b m u p t e s) (x0 x1 x2 x3 : Int) :
 StO (((((X.setCell ⟨b, 4, none⟩ (.int .i64 x0)).setCell ⟨b, 5, none⟩ (.int .i64 x1)).setCell ⟨b, 6, none⟩ (.int .i64 x2)).setCell ⟨b, 7, none⟩ (.int .i64 x3)).setCell ⟨b, 8, none⟩ (.bool true)) B b m u p t e { s with both := x0, heavy := x1, light := x2, good := x3 } := by
 have hg := grown_trans (grown_trans (grown_trans (grown_trans (setGrown X ⟨b, 4, none⟩ (.int .i64 x0)) (setGrown _ ⟨b, 5, none⟩ (.int .i64 x1))) (setGrown _ ⟨b, 6, none⟩ (.int .i64 x2))) (setGrown _ ⟨b, 7, none⟩ (.int .i64 x3))) (setGrown _ ⟨b, 8, none⟩ (.bool true))
 exact ⟨((((h.blk.set 4 _).set 5 _).set 6 _).set 7 _).set 8 _, own_grown h.med h.blk (by decide) hg, own_grown h.abv h.blk (by decide) hg, own_grown h.pla h.blk (by decide) hg, own_grown h.bea h.blk (by decide) hg, own_grown h.bet h.blk (by decide) hg, h.low, h.mp, h.pm, h.ut, h.tu⟩
end
/-- lay on a mint's books; and the answer's number. -/
def layL (s : Bk) (x0 x1 x2 x3 : Int) : Bk × Nat := if knOk x0 x1 x2 x3 = true then ({ s with both := x0, heavy := x1, light := x2, good := x3 }, 0) else (s, 2)
set_option maxRecDepth 100000 in
set_option maxHeartbeats 4000000 in
theorem layAny (w : World) (B b : Nat) (m u p t e : Value) (s : Bk) (x0 x1 x2 x3 : Int) (D : Option Addr) (n c : Nat) (ln : Value) (h : StO w B b m u p t e s) (hk : inK x0 x1 x2 x3) (hs : Sl w D n c (intV [x0, x1, x2, x3])) (hln : ∃ a k d, ln = .slice a k d) (hA : ∀ a, D = some a → a.block < B) :
 Calls Tryz.prog 124 #[.pointer (some ⟨b, 0, none⟩), .agg #[ln, .slice D n c]] w fun r w' => r = .returned (.int .i64 ((layL s x0 x1 x2 x3).2 : Nat)) ∧ StO w' B b m u p t e (layL s x0 x1 x2 x3).1 ∧ Below B w w' := by
 obtain rfl : n = 4 := by have := hs.len; simp [intV] at this; exact this.symm
 obtain ⟨ab, ao, y, rfl, lb, e1, ca⟩ := hs.at (k := 0) (by omega)
 obtain ⟨ab', ao', y1, hh1, lb1, e11, ca1⟩ := hs.at (k := 1) (by omega)
 cases hh1
 obtain ⟨ab', ao', y2, hh1, lb2, e12, ca2⟩ := hs.at (k := 2) (by omega)
 cases hh1
 obtain ⟨ab', ao', y3, hh1, lb3, e13, ca3⟩ := hs.at (k := 3) (by omega)
 cases hh1
 simp only [intV, List.map_cons, List.map_nil, List.getElem?_cons_zero, List.getElem?_cons_succ, Option.some.injEq, Nat.add_zero] at e1 e11 e12 e13 ca
 subst e1 e11 e12 e13
 obtain ⟨la, lk, ld, rfl⟩ := hln
 have hab : ab < B := hA _ rfl
 have hBw : B ≤ w.heap.size := by have := h.low; have := h.blk.lt; omega
 have HK := hid hk
 have HX := hid ((Below.refl w.heap.size w).alloc (Nat.le_refl _) (.cells #[.slice la lk ld, .slice (some ⟨ab, ao, none⟩) 4 c] 124))
 have HBX := hid (Blk.new w 124 #[.slice la lk ld, .slice (some ⟨ab, ao, none⟩) 4 c])
 have HS := hid (h.below HX.out)
 have HNE := hid (show ¬ w.heap.size = b from by have := h.blk.lt; omega)
 have HLO := hid h.low
 have HC0 := hid (cell_keep HX.out ca)
 have HC1 := hid (cell_keep HX.out ca1)
 have HC2 := hid (cell_keep HX.out ca2)
 have HC3 := hid (cell_keep HX.out ca3)
 have HBW := hid hBw
 have HW := hid (Nat.le_refl w.heap.size)
 clear h hs hA lb lb1 lb2 lb3 ca ca1 ca2 ca3 hab hBw hk
 go_enter Tryz.func124, Tryz.ntmps124
 go_wp2_with fail
 have HZ := hid (show w.heap.size < (w.alloc (.cells #[.slice la lk ld, .slice (some ⟨ab, ao, none⟩) 4 c] 124)).heap.size from by simp)
 generalize w.alloc (.cells #[.slice la lk ld, .slice (some ⟨ab, ao, none⟩) 4 c] 124) = X at *
 have HX := hid (HX.out.mono HBW.out)
 go_cut [5] from 8 to 24 (fun q wx => ∃ kb, q = .pointer (some ⟨kb, 0, none⟩) ∧ Hid (StO wx B b m u p t e s) ∧ Hid (Blk wx kb 146 #[.int .i64 x0, .int .i64 x1, .int .i64 x2, .int .i64 x3, .bool true]) ∧ Hid (¬ kb = b) ∧ Hid (Below B w wx))
 case first =>
  refine wp_region_held_drew (S := (fun w' => w'.cell? ⟨w.heap.size, 1, none⟩ = some (.slice (some ⟨ab, ao, none⟩) 4 c) ∧ w'.cell? ⟨ab, ao, none⟩ = some (.int .i64 x0) ∧ w'.cell? ⟨ab, ao + 1, none⟩ = some (.int .i64 x1) ∧ w'.cell? ⟨ab, ao + 2, none⟩ = some (.int .i64 x2) ∧ w'.cell? ⟨ab, ao + 3, none⟩ = some (.int .i64 x3))) (by kernel_rfl) (by (try dsimp only); (first | exact ⟨HBX.out.cell 1, HC0.out, HC1.out, HC2.out, HC3.out⟩ | exact HKP.out)) (fun hHeld => ?_)
  have HS := hid (HS.out.below (Below.refl _ X).drew); have HBX := hid HBX.out.drew; have HX := hid HX.out.drew
  have HC0 := hid (cell_keep (Below.refl _ X).drew HC0.out); have HC1 := hid (cell_keep (Below.refl _ X).drew HC1.out); have HC2 := hid (cell_keep (Below.refl _ X).drew HC2.out); have HC3 := hid (cell_keep (Below.refl _ X).drew HC3.out)
  generalize X.drew = X1 at *
  obtain ⟨X, rfl⟩ : ∃ Y, Y = X1 := ⟨X1, rfl⟩
  refine tk ?_ 0 (some 8) rfl rfl ?_ ?_; rotate_left; · (intro w hSw; (try dsimp only at hSw); go_simp <;> with_reducible rfl)
  try simp only [Act.put,qA,qB,qC]
  refine tk ?_ 1 (some 9) rfl rfl ?_ ?_; rotate_left; · (intro w hSw; (try dsimp only at hSw); go_simp <;> with_reducible rfl)
  try simp only [Act.put,qA,qB,qC]
  refine tk ?_ 2 (some 10) rfl rfl ?_ ?_; rotate_left; · (intro w hSw; (try dsimp only at hSw); go_simp <;> with_reducible rfl)
  try simp only [Act.put,qA,qB,qC]
  refine tk ?_ 3 (some 11) rfl rfl ?_ ?_; rotate_left; · (intro w hSw; (try dsimp only at hSw); go_simp <;> with_reducible rfl)
  try simp only [Act.put,qA,qB,qC]
  refine tk ?_ 4 (some 12) rfl rfl ?_ ?_; rotate_left; · (intro w hSw; (try dsimp only at hSw); go_simp <;> with_reducible rfl)
  try simp only [Act.put,qA,qB,qC]
  refine tk ?_ 5 (some 13) rfl rfl ?_ ?_; rotate_left; · (intro w hSw; (try dsimp only at hSw); go_simp <;> with_reducible rfl)
  try simp only [Act.put,qA,qB,qC]
  refine tk ?_ 6 (some 14) rfl rfl ?_ ?_; rotate_left; · (intro w hSw; (try dsimp only at hSw); go_simp <;> with_reducible rfl)
  try simp only [Act.put,qA,qB,qC]
  refine tk ?_ 7 (some 15) rfl rfl ?_ ?_; rotate_left; · (intro w hSw; (try dsimp only at hSw); go_simp <;> with_reducible rfl)
  try simp only [Act.put,qA,qB,qC]
  refine tk ?_ 8 (some 16) rfl rfl ?_ ?_; rotate_left; · (intro w hSw; (try dsimp only at hSw); go_simp <;> with_reducible rfl)
  try simp only [Act.put,qA,qB,qC]
  refine tk ?_ 9 (some 17) rfl rfl ?_ ?_; rotate_left; · (intro w hSw; (try dsimp only at hSw); go_simp <;> with_reducible rfl)
  try simp only [Act.put,qA,qB,qC]
  refine tk ?_ 10 (some 18) rfl rfl ?_ ?_; rotate_left; · (intro w hSw; (try dsimp only at hSw); go_simp <;> with_reducible rfl)
  try simp only [Act.put,qA,qB,qC]
  refine tk ?_ 11 (some 19) rfl rfl ?_ ?_; rotate_left; · (intro w hSw; (try dsimp only at hSw); go_simp <;> with_reducible rfl)
  try simp only [Act.put,qA,qB,qC]
  refine tk ?_ 12 (some 20) rfl rfl ?_ ?_; rotate_left; · (intro w hSw; (try dsimp only at hSw); go_simp <;> with_reducible rfl)
  try simp only [Act.put,qA,qB,qC]
  refine tk ?_ 13 (some 21) rfl rfl ?_ ?_; rotate_left; · (intro w hSw; (try dsimp only at hSw); go_simp <;> with_reducible rfl)
  try simp only [Act.put,qA,qB,qC]
  refine tk ?_ 14 (some 22) rfl rfl ?_ ?_; rotate_left; · (intro w hSw; (try dsimp only at hSw); go_simp <;> with_reducible rfl)
  try simp only [Act.put,qA,qB,qC]
  refine tk ?_ 15 (some 23) rfl rfl ?_ ?_; rotate_left; · (intro w hSw; (try dsimp only at hSw); go_simp <;> with_reducible rfl)
  try simp only [Act.put,qA,qB,qC]
  refine tk ?_ 16 (some 24) rfl rfl ?_ ?_; rotate_left; · (intro w hSw; (try dsimp only at hSw); go_simp <;> with_reducible rfl)
  try simp only [Act.put,qA,qB,qC]
  refine st 17 rfl fun K hK => ?_
  go_simp
  have HKP := hid (And.intro (cell_keep ((Below.refl _ X).alloc (Nat.le_refl _) (.cells #[.int .i64 0, .int .i64 0, .int .i64 0, .int .i64 0, .bool false] 146)) (HBX.out.cell 1)) (And.intro (cell_keep ((Below.refl _ X).alloc (Nat.le_refl _) (.cells #[.int .i64 0, .int .i64 0, .int .i64 0, .int .i64 0, .bool false] 146)) HC0.out) (And.intro (cell_keep ((Below.refl _ X).alloc (Nat.le_refl _) (.cells #[.int .i64 0, .int .i64 0, .int .i64 0, .int .i64 0, .bool false] 146)) HC1.out) (And.intro (cell_keep ((Below.refl _ X).alloc (Nat.le_refl _) (.cells #[.int .i64 0, .int .i64 0, .int .i64 0, .int .i64 0, .bool false] 146)) HC2.out) (cell_keep ((Below.refl _ X).alloc (Nat.le_refl _) (.cells #[.int .i64 0, .int .i64 0, .int .i64 0, .int .i64 0, .bool false] 146)) HC3.out)))))
  clear hHeld
  refine hK.out _ _ ?_ (fun hHeld => ?_); · ((try dsimp only); (first | exact ⟨HBX.out.cell 1, HC0.out, HC1.out, HC2.out, HC3.out⟩ | exact HKP.out))
  clear hK K
  try simp only [Act.put,qA,qB,qC]
  refine st 18 rfl fun K hK => ?_
  go_simp
  have bb := (Below.refl X.heap.size X).alloc (Nat.le_refl _) (.cells #[.int .i64 x0, .int .i64 x1, .int .i64 x2, .int .i64 x3, .bool true] 146)
  have HKB := hid (Blk.new X 146 #[.int .i64 x0, .int .i64 x1, .int .i64 x2, .int .i64 x3, .bool true])
  have HKN := hid (show ¬ X.heap.size = b from by have := HS.out.blk.lt; omega)
  have HS := hid (HS.out.below bb); have HBX := hid (HBX.out.keep bb)
  have HX := hid (below_call HX.out bb (Nat.le_trans HBW.out HX.out.size))
  have HC0 := hid (cell_keep bb HC0.out); have HC1 := hid (cell_keep bb HC1.out); have HC2 := hid (cell_keep bb HC2.out); have HC3 := hid (cell_keep bb HC3.out)
  clear bb HKP hHeld
  obtain ⟨kb, hkb⟩ : ∃ kb, kb = X.heap.size := ⟨_, rfl⟩
  rw [← hkb] at HKB HKN ⊢
  clear hkb
  generalize X.alloc (.cells #[.int .i64 x0, .int .i64 x1, .int .i64 x2, .int .i64 x3, .bool true] 146) = X1 at *
  obtain ⟨X, rfl⟩ : ∃ Y, Y = X1 := ⟨X1, rfl⟩
  refine hK.out _ _ ?_ (fun hHeld => ?_); · ((try dsimp only); (first | exact ⟨HBX.out.cell 1, HC0.out, HC1.out, HC2.out, HC3.out⟩ | exact HKP.out))
  clear hK K
  try simp only [Act.put,qA,qB,qC]
  refine wpAnyH_done (by kernel_rfl) ?_ _
  go_wp2_with fail
  go_meet
  case rel => exact ⟨kb, rfl, HS, HKB, HKN, HX⟩
 case rest =>
  obtain ⟨kb, rfl, HS, HKB, HNK, HX⟩ := hcut
  have HBF := hid (boundF x0 x1 x2 x3 HK.out wc)
  unfold knV at HBF
  have c0 := HKB.out.cell 0
  have c1 := HKB.out.cell 1
  have c2 := HKB.out.cell 2
  have c3 := HKB.out.cell 3
  have c4 := HKB.out.cell 4
  simp only [List.getElem?_toArray, List.getElem?_cons_zero, List.getElem?_cons_succ] at c0 c1 c2 c3 c4
  cases hok : knOk x0 x1 x2 x3 with
  | true =>
   have HM := hid (show layL s x0 x1 x2 x3 = ({ s with both := x0, heavy := x1, light := x2, good := x3 }, 0) by unfold layL; rw [if_pos hok])
   simp only [hok, if_true] at HBF
   clear hok
   go_wp2_with fail
   refine (HBF.out).mono ?_; rintro r w5 ⟨rfl, bb⟩
   have HS := hid (HS.out.below bb)
   have HKB := hid (HKB.out.keep bb)
   have HX := hid (below_call HX.out bb (Nat.le_trans HBW.out HX.out.size))
   clear bb c0 c1 c2 c3 c4 HBF
   have c0 := HKB.out.cell 0
   have c1 := HKB.out.cell 1
   have c2 := HKB.out.cell 2
   have c3 := HKB.out.cell 3
   have c4 := HKB.out.cell 4
   have s4 := HS.out.blk.cell 4
   have s5 := HS.out.blk.cell 5
   have s6 := HS.out.blk.cell 6
   have s7 := HS.out.blk.cell 7
   have s8 := HS.out.blk.cell 8
   have f4 := HS.out.blk.free 4
   have f5 := HS.out.blk.free 5
   have f6 := HS.out.blk.free 6
   have f7 := HS.out.blk.free 7
   have f8 := HS.out.blk.free 8
   simp only [stV, List.getElem?_toArray, List.getElem?_cons_zero, List.getElem?_cons_succ] at c0 c1 c2 c3 c4 s4 s5 s6 s7 s8
   go_wp2
   go_ret
   rw [HM.out]
   exact ⟨rfl, HS.out.putKn x0 x1 x2 x3, ((((HX.out.setCell (p := ⟨b, 4, none⟩) HLO.out _).setCell (p := ⟨b, 5, none⟩) HLO.out _).setCell (p := ⟨b, 6, none⟩) HLO.out _).setCell (p := ⟨b, 7, none⟩) HLO.out _).setCell (p := ⟨b, 8, none⟩) HLO.out _⟩
  | false =>
   have HM := hid (show layL s x0 x1 x2 x3 = (s, 2) by unfold layL; rw [if_neg (by rw [hok]; decide)])
   simp only [hok, if_false, Bool.false_eq_true] at HBF
   clear hok
   go_wp2_with fail
   refine (HBF.out).mono ?_; rintro r w5 ⟨rfl, bb⟩
   have HS := hid (HS.out.below bb)
   have HX := hid (below_call HX.out bb (Nat.le_trans HBW.out HX.out.size))
   clear bb c0 c1 c2 c3 c4 HBF
   go_wp2
   go_ret
   rw [HM.out]
   exact ⟨rfl, HS.out, HX.out⟩
end
end Go.Proofs.YtnibidmlkbcfkaaGreatDoor
