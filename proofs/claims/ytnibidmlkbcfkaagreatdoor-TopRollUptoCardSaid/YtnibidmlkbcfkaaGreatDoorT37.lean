/- Walk of lines' closure where elements are left, over what it does with one less. Conditions: the boxes are as GS says; the library's table stands. -/
import Derived.Test.YtnibidmlkbcfkaaGreatDoorT36
namespace Go.Proofs.YtnibidmlkbcfkaaGreatDoor
open Go.RowKit Go.Shelf
attribute [local go_sem] Oper.semAt_some
attribute [local go_sem ↓] shl_p2 shr_v and_shr
theorem wr_six {k : Nat} (h : k ≤ 6) : wrap64 (k : Int) = (k : Int) := by simp only [wrap64]; omega
set_option maxRecDepth 100000 in
set_option maxHeartbeats 8000000 in
theorem growS (n : Nat) (a : Nat → Nat → Bool) (hn : n ≤ 6) (ho : OrdOk n a) (B bo bx bl bg : Nat) (lv F : List Nat) (r f s m : Nat) (vl vo vr : Value) (w : World) (h : GS n a B bo bx bl bg lv F r vl vo vr w) (hl : lv.length + (bitsL s).length = n) (hs : s < 2 ^ n) (h0 : s ≠ 0) (hF : r = 0 → F = lv ++ lnL n a (f + 1) s) (hr : r + 6 * m ≤ 900000) (hT : Tab w) (hB : B ≤ w.heap.size) (hb : BxL B bo bx bl bg)
 (IH : ∀ (lv' : List Nat) (r' x : Nat) (vl' vo' vr' : Value) (W : World), s.testBit x = true → GS n a B bo bx bl bg lv' F r' vl' vo' vr' W → lv'.length + (bitsL (clr s x)).length = n → (r' = 0 → F = lv' ++ lnL n a f (clr s x)) → r' + m ≤ 900000 → Tab W → B ≤ W.heap.size →
  Calls Tryz.prog 73 #[.int .i64 (clr s x : Nat), .pointer (some ⟨bx, 0, none⟩), .pointer (some ⟨bl, 0, none⟩), .pointer (some ⟨bo, 0, none⟩), .pointer (some ⟨bg, 0, none⟩)] W fun e w' => e = .returned (.tuple #[]) ∧ GrowR n a B bo bx bl bg lv' F r' m vl' vo' vr' W w') :
 Calls Tryz.prog 73 #[.int .i64 (s : Nat), .pointer (some ⟨bx, 0, none⟩), .pointer (some ⟨bl, 0, none⟩), .pointer (some ⟨bo, 0, none⟩), .pointer (some ⟨bg, 0, none⟩)] w fun e w' => e = .returned (.tuple #[]) ∧ GrowR n a B bo bx bl bg lv F r (6 * m) vl vo vr w w' := by
 refine (callsIn_wide (n := 19)).1 ?_
 refine callsIn_of_wp_marks Tryz.func73 rfl trivial ?_ rfl
 simp only [Tryz.ntmps73, List.size_toArray, List.length_cons, List.length_nil, Nat.reduceAdd, Nat.reduceSub, Array.replicate_succ, Array.replicate_zero, List.push_toArray, List.append_toArray, List.nil_append, List.cons_append]
 have HS := hid (And.intro hs (And.intro h0 hn))
 have HO := hid ho
 have HLV := hid hl
 have HFF := hid hF
 have HR6 := hid hr
 have HBB := hid hb
 have HBS := hid hB
 have HIH := hid IH
 have HG0 := hid h
 have HNS := hid (h.notS hb)
 have hs64 : s < 64 := p64 hn hs
 have HS64 := hid hs64
 have HN5 := hid (show ∀ i, w.heap.size ≤ i → ¬ grS bx bl vl vo vr i from fun i hi e => by
  have := hb.1
  rcases e with e | e | e
  · omega
  · omega
  · have := (h.lt e).2; omega)
 have hb2 : Below w.heap.size w ((w.alloc (.cells #[.int .i64 (s : Nat)] 3)).alloc (.cells #[.int .i64 (s : Nat)] 3)) := ((Below.refl _ w).alloc (Nat.le_refl _) _).alloc (by simp) _
 have HB := hid hb2
 have GL := hid (h.keep hb2)
 have GT := hid (hT.below hb2)
 have G5 := hid ((Blk.new w 3 #[.int .i64 (s : Nat)]).alloc (.cells #[.int .i64 (s : Nat)] 3))
 have GC := hid (Blk.new_at (w.alloc (.cells #[.int .i64 (s : Nat)] 3)) 3 #[.int .i64 (s : Nat)] (n := w.heap.size + 1) (by simp))
 have HSZ := hid (show ((w.alloc (.cells #[.int .i64 (s : Nat)] 3)).alloc (.cells #[.int .i64 (s : Nat)] 3)).heap.size = w.heap.size + 2 from by simp)
 have k0 := (Blk.new w 3 #[.int .i64 (s : Nat)]).cell 0
 simp only [List.getElem?_toArray, List.getElem?_cons_zero] at k0
 have hz : ((s : Int) == 0) = false := by rw [beq_eq_false_iff_ne]; omega
 have hz2 : (s == 0) = false := by rw [beq_eq_false_iff_ne]; exact h0
 clear h hT hb2 hb hB hF hr hl IH ho hs
 gi_wp2_with fail
 refine ⟨trivial, (callsIn_wide.2 (elementsF (s : Nat) _)).mono ?_⟩
 rintro e w' ⟨rfl, rfl⟩
 clear k0 hz hz2
 gi_wp2
 generalize ((w.alloc (.cells #[.int .i64 (s : Nat)] 3)).alloc (.cells #[.int .i64 (s : Nat)] 3)) = G at *
 obtain ⟨H0, hH0⟩ : ∃ H, H = w.heap.size := ⟨_, rfl⟩
 have HH := hid hH0
 refine wp_range (n := 19) (gf := 109) (c := w.heap.size + 1) (t := 3) (xs := bitsL s) rfl (fun args w => enters Tryz.func109 (by kernel_rfl) rfl args w) GC.out (elems_iter 18 _ s (bitsL s) G (elems_bits HS64.out) GC.out) rfl
  (fun k W => (GI n a B bo bx bl bg lv F s r m (w.heap.size + 2) vl vo vr k W ∧ Chs (grS bx bl vl vo vr) w W) ∧ Blk W w.heap.size 3 #[.int .i64 (s : Nat)] ∧ Tab W)
  (fun _ _ => False) ?_ (fun _ _ _ _ _ hs _ _ => hs) ?_ (fun _ _ h => h.2.2) ⟨⟨⟨r, vl, vo, vr, by omega, fun e => ⟨e, fun i hi => by simp at hi⟩, GL.out, fun g hg => .inl hg⟩, Chs.of_below HB.out⟩, G5.out, GT.out⟩ ?_ ?_ (fun _ _ _ _ h _ => h.elim)
 · have := HSZ.out
   have := HBB.out.2.1
   have := HBS.out
   exact OwnFrom.and (OwnFrom.and (GI.ownFrom _) (ownFrom_chs (by omega))) (OwnFrom.and (ownFrom_blk _ _ _ _) (ownFrom_tab (by omega)))
 · rintro k W v ⟨⟨h1, h2⟩, h3, h4⟩
   have := HBB.out.2.1
   have := HBS.out
   exact ⟨⟨h1.far HBB.out (p := ⟨w.heap.size + 1, 0, none⟩) (by simp only; omega) (fun e => by have := (HG0.out.lt e).2; simp only at this; omega) (by simp only; omega) v, h2.trans2 (p := ⟨w.heap.size + 1, 0, none⟩) (by simp) v⟩, h3.far (p := ⟨w.heap.size + 1, 0, none⟩) (by simp) v, h4.grown (setGrown W ⟨w.heap.size + 1, 0, none⟩ v) (by simp; omega)⟩
 · intro l k x W W2 hl hr hin hx hv
   obtain ⟨⟨⟨r', vl', vo', vr', hr1, hr2, hg, hown⟩, hch⟩, h5, h6⟩ := hin
   have hxb : s.testBit x = true := (mem_bits HS64.out).1 (List.mem_of_getElem? hx)
   have hxn := lt_six HS.out.1 hxb
   have hcl := clr_facts HS64.out hxb
   have HBF := hid fun X => belowF n a x HS.out.2.2 hxn X
   have hq1 := bits_min (a := a) (i := x) HS.out.2.2 HS.out.1
   have hcb := bits_clr HS.out.2.2 HS.out.1 hxb
   have htk : (bitsL s).take (k + 1) = (bitsL s).take k ++ [x] := by rw [List.take_add_one, hx]; rfl
   have hkl : k < (bitsL s).length := (List.getElem?_eq_some_iff.1 hx).1
   have hk6 : k < 6 := by have := bits_len s; omega
   have hkm : k * m + m ≤ 6 * m := by have := Nat.mul_le_mul_right m (show k + 1 ≤ 6 by omega); rw [Nat.succ_mul] at this; exact this
   have HKM := hid (show (k + 1) * m = k * m + m from Nat.succ_mul k m)
   obtain ⟨L, lc, rfl⟩ := own_form hg.ol
   have HW := hid (show ∀ g, Own3 (.slice L lv.length lc) vo' vr' g → ¬ g = w.heap.size ∧ ¬ g = w.heap.size + 1 from fun g hg => by
    rcases hown g hg with e | e
    · have := (HG0.out.lt e).2; omega
    · omega)
   have HCW := hid (show w.heap.size + 1 < W2.heap.size from by obtain ⟨v, hv⟩ := hv; exact hv.lt)
   have HNW := hid (show ∀ i, i = w.heap.size ∨ i = w.heap.size + 1 → ¬ grS bx bl (.slice L lv.length lc) vo' vr' i from fun i hi e => by
    have := HBB.out.1
    have := HBS.out
    rcases e with e | e | e
    · omega
    · omega
    · have := HW.out i e; omega)
   have H1 := hid hg; have HOW := hid hown; have HC := hid hch; have H5 := hid h5; have H6 := hid h6
   have HR1 := hid hr1; have HR2 := hid hr2; have HTK := hid htk; have HX := hid (And.intro hx hxb); have HKK := hid (And.intro hkm hkl); have HCL := hid hcl; have HCB := hid hcb
   have HXN := hid hxn
   have fx : Fits (x : Int) := ⟨by omega, by omega⟩
   have HQ := hid hg.ord
   unfold ordC at HBF HQ
   clear hg hown hch h5 h6 hl hr hv hx hr1 hr2 htk hxb hcl hkm hkl hk6 hcb
   generalize hvb : mk n (fun j => a j x) = vb at *
   gi_wp2
   refine ⟨trivial, ?_⟩
   gi_wp2
   have HMX : Tryz.prog.follows .mixedOrders = true := by kernel_rfl
   obtain ⟨mb, hmb⟩ : ∃ mb, mb = minB n a s x := ⟨_, rfl⟩
   rw [← hmb] at hq1
   have HMB := hid hmb
   clear hmb hvb
   refine wpIn_mono (Q := fun e t W4 => match e with | .normal => (∃ f, t = ({ tmps := grR bx bl bo bg w.heap.size x (.bool mb) f, defers := [] } : Act)) ∧ Below W2.heap.size W2 W4 | _ => False) ?f1 ?r1
   case f1 =>
    clear HTK HKM HIH
    refine region_round (S := (fun w' => w'.cell? ⟨w.heap.size, 0, none⟩ = some (.int .i64 (s : Nat)) ∧ (∀ i, i < 7 → w'.cell? ⟨bo, i, none⟩ = (#[Value.int .i64 (n : Nat), .int .i64 (oc n a 0), .int .i64 (oc n a 1), .int .i64 (oc n a 2), .int .i64 (oc n a 3), .int .i64 (oc n a 4), .int .i64 (oc n a 5)] : Array Value)[i]?))) (by kernel_rfl) (by kernel_rfl) (by rintro ⟨_, _, h⟩; exact h) (by (try dsimp only); (first | exact ⟨H5.out.cell 0, fun i _ => HQ.out.cell i⟩ | exact ⟨H5.out.drew.cell 0, fun i _ => HQ.out.drew.cell i⟩)) (fun hHeld => ?_)
    have H5 := hid H5.out.drew; have HQ := hid HQ.out.drew; have HBX := hid (Below.refl W2.heap.size W2).drew
    generalize W2.drew = X1 at *
    obtain ⟨X, rfl⟩ : ∃ Y, Y = X1 := ⟨X1, rfl⟩
    have o0 := HQ.out.cell 0
    have o1 := HQ.out.cell 1
    have o2 := HQ.out.cell 2
    have o3 := HQ.out.cell 3
    have o4 := HQ.out.cell 4
    have o5 := HQ.out.cell 5
    have o6 := HQ.out.cell 6
    refine tk ?_ 0 (some 17) rfl rfl ?_ ?_; rotate_left; · (intro w hSw; (try dsimp only at hSw); go_simp <;> with_reducible rfl)
    try simp only [Act.put,qA,qB,qC]
    refine tk ?_ 1 (some 18) rfl rfl ?_ ?_; rotate_left; · (intro w hSw; (try dsimp only at hSw); go_simp <;> with_reducible rfl)
    try simp only [Act.put,qA,qB,qC]
    refine tk ?_ 3 (some 20) rfl rfl ?_ ?_; rotate_left; · (intro w hSw; (try dsimp only at hSw); go_simp <;> with_reducible rfl)
    try simp only [Act.put,qA,qB,qC]
    refine st 2 rfl fun K hK => ?_
    go_simp
    refine (HBF.out _).mono ?_; rintro e X ⟨rfl, bb⟩
    have H5 := hid (H5.out.keep bb); have HQ := hid (HQ.out.keep bb); have HBX := hid (below_call HBX.out bb HBX.out.size)
    clear bb hHeld
    refine hK.out _ _ ?_ (fun hHeld => ?_); · ((try dsimp only); (first | exact ⟨H5.out.cell 0, fun i _ => HQ.out.cell i⟩ | exact ⟨H5.out.drew.cell 0, fun i _ => HQ.out.drew.cell i⟩))
    clear hK K
    try simp only [Act.put,qA,qB,qC]
    refine tk ?_ 4 (some 21) rfl rfl ?_ ?_; rotate_left; · (intro w hSw; (try dsimp only at hSw); go_simp <;> with_reducible rfl)
    try simp only [Act.put,qA,qB,qC]
    refine tk ?_ 5 (some 22) rfl rfl ?_ ?_; rotate_left; · (intro w hSw; (try dsimp only at hSw); go_simp <;> with_reducible rfl)
    try simp only [Act.put,qA,qB,qC]
    refine wpAnyH_done (by kernel_rfl) ?_ _
    refine And.intro ?_ HBX.out
    exact grR_ex rfl
   case r1 =>
    intro e t wy hq
    cases e <;> first | exact hq.elim | skip
    obtain ⟨⟨f0, rfl⟩, bb⟩ := hq
    have HBY := hid bb
    have Y1 := hid (H1.out.keep bb); have Y5 := hid (H5.out.keep bb); have Y6 := hid (H6.out.below bb)
    have YC := hid (show Chs (grS bx bl (.slice L lv.length lc) vo' vr') W2 wy from Chs.of_below bb)
    clear bb hq1
    unfold grR
    cases mb with
    | false =>
     gi_wp2
     have hcc := YC.out
     exact ⟨⟨HBY.out.size, fun r o _ ho hk => H1.out.keeps hcc ho hk⟩, HBY.out.block _ HCW.out, ⟨⟨r', _, _, _, by have := HR1.out; have := HKM.out; omega, fun e => ⟨(HR2.out e).1, fun i hi => by
      rw [HTK.out] at hi
      rcases List.mem_append.1 hi with hi | hi
      · exact (HR2.out e).2 i hi
      · rw [List.mem_singleton] at hi; subst hi; exact HMB.out.symm⟩, Y1.out, HOW.out⟩, HC.out.trans3 hcc fun i hi => by
        rcases hi with hi | hi | hi
        · exact .inl (.inl hi)
        · exact .inl (.inr (.inl hi))
        · rcases HOW.out i hi with e | e
          · exact .inl (.inr (.inr e))
          · exact .inr (by omega)⟩, Y5.out, Y6.out⟩
    | true =>
     have y2 := Y1.out.line.cell 0
     have f2 := Y1.out.line.free 0
     simp only [List.getElem?_toArray, List.getElem?_cons_zero] at y2
     obtain ⟨i0, hi0, hz0, hz1, hzz⟩ := info_parts TI27.inf
     have bq := (Below.refl wy.heap.size wy).alloc (Nat.le_refl _) (.cells #[.int .i64 (x : Nat)] 3)
     have Q1 := hid (Y1.out.keep bq)
     have HLL := hid (show lv.length ≤ 6 from by have := HLV.out; have := HS.out.2.2; omega)
     have HBQ := hid (show B ≤ (wy.alloc (.cells #[.int .i64 (x : Nat)] 3)).heap.size from by have := HBS.out; have := HCW.out; have := HBY.out.size; simp; omega)
     have QC := hid (show Chs (grS bx bl (.slice L lv.length lc) vo' vr') W2 (wy.alloc (.cells #[.int .i64 (x : Nat)] 3)) from YC.out.trans (Chs.of_below bq))
     have Q5 := hid (Y5.out.keep bq)
     have Q6 := hid (Y6.out.below bq)
     clear bq
     gi_wp2_with (gi_at_builtin; refine wpListIn_append_own_at _ rfl _ _ 36 rfl B 3 i0 (.int .i64 0) 1 8 TI27.und hi0 hz0 hz1 hzz TI27.zc TI27.sz (.slice L lv.length lc) lv.length (iV lv) rfl Q1.out.ol ⟨wy.heap.size, 0, none⟩ 1 1 [.int .i64 (x : Nat)] rfl rfl (cell_one_new _ _ _) (by simp [Value.oneCell']) (by have := HLL.out; unfold maxLen; omega) (by have := HLL.out; omega) HBQ.out ?_; intro v1 w8 hown1 hgr _ hat; obtain ⟨L1, lc1, rfl⟩ := own_form hown1; have P1 := hid (Q1.out.linePush HBB.out hown1 hgr hat); have PO := hid (push_own2 (vo := vo') (vr := vr') (W := wy.alloc (.cells #[.int .i64 (x : Nat)] 3)) hat); have PC := hid (QC.out.trans (linePush_chs (bx := bx) (bl := bl) (vo := vo') (vr := vr') (v1 := .slice L1 (lv.length + 1) lc1) hgr)); have hol : (Value.slice L lv.length lc).ownBlock ≠ some bl := (fun e => by have := (Q1.out.ol.lt bl e).1; have := HBB.out.1; omega); have z8 := blk_not Q1.out.line hgr hol; have y2 := z8.cell 0; have f2 := z8.free 0; simp only [List.getElem?_toArray, List.getElem?_cons_zero] at y2; clear hown1 hgr hat z8 hol)
     have HV5 := hid (PC.out.blk H5.out (HNW.out _ (.inl rfl)))
     have HVB := hid P1.out.grow
     have HVT := hid (H6.out.chs PC.out (H1.out.notS HBB.out))
     have HSV := hid (show W2.heap.size ≤ wy.heap.size ∧ (wy.alloc (.cells #[.int .i64 (x : Nat)] 3)).heap.size = wy.heap.size + 1 ∧ W2.heap.size ≤ (w8.setCell ⟨bl, 0, none⟩ (.slice L1 (lv.length + 1) lc1)).heap.size from ⟨HBY.out.size, by simp, PC.out.size⟩)
     clear y2 f2
     generalize w8.setCell ⟨bl, 0, none⟩ (.slice L1 (lv.length + 1) lc1) = V at *
     have HOV := hid (show ∀ g, Own3 (.slice L1 (lv.length + 1) lc1) vo' vr' g → Own3 vl vo vr g ∨ w.heap.size + 2 ≤ g from fun g hg => by
      have e1 := HSV.out
      have e2 := HCW.out
      rcases PO.out g hg with e | e
      · exact HOW.out g e
      · exact .inr (by omega))
     have HNV := hid (show ∀ i, i = w.heap.size ∨ i = w.heap.size + 1 → ¬ grS bx bl (.slice L1 (lv.length + 1) lc1) vo' vr' i from fun i hi e => by
      have := HBB.out.1
      have := HBS.out
      rcases e with e | e | e
      · omega
      · omega
      · rcases HOV.out i e with e | e
        · have := (HG0.out.lt e).2; omega
        · omega)
     have HGW0 := hid fun (X : World) (hb : Below V.heap.size V X) => HIH.out (lv ++ [x]) r' x (.slice L1 (lv.length + 1) lc1) vo' vr' X HX.out.2 (P1.out.keep hb) (by rw [List.length_append, List.length_singleton]; have := HLV.out; have := HCL.out.2.2.1; omega) (fun e => by
      obtain ⟨e1, e2⟩ := HR2.out e
      rw [HFF.out e1, ln_step HX.out.1 e2 HMB.out.symm, List.append_assoc]
      rfl) (by have := HR1.out; have := HKK.out.1; have := HR6.out; omega) (HVT.out.below hb) (by have := HBS.out; have := HCW.out; have := HSV.out; have := hb.size; omega)
     have he : ∀ args W, (callFunc 73 args).run Tryz.prog W = .ok (.enter 73 args) W := fun args W => enters Tryz.func73 (by kernel_rfl) rfl args W
     unfold growV at HVB
     refine wpIn_mono (Q := fun e t W4 => match e with | .normal => (∃ f, t = ({ tmps := grR bx bl bo bg w.heap.size x (.bool true) f, defers := [] } : Act)) ∧ ∃ wz, Below V.heap.size V wz ∧ GrowR n a B bo bx bl bg (lv ++ [x]) F r' m (.slice L1 (lv.length + 1) lc1) vo' vr' wz W4 | _ => False) ?f2 ?r2
     case f2 =>
      have hcb := HCB.out
      clear HTK HKM HIH Q1 QC Q5 Q6 Y1 Y5 Y6 YC H1 H5 H6 HC HQ
      refine region_round (S := (fun w' => w'.cell? ⟨w.heap.size, 0, none⟩ = some (.int .i64 (s : Nat)) ∧ w'.cell? ⟨bg, 0, none⟩ = some (.func (.func 73) #[] #[.pointer (some ⟨bx, 0, none⟩), .pointer (some ⟨bl, 0, none⟩), .pointer (some ⟨bo, 0, none⟩), .pointer (some ⟨bg, 0, none⟩)]))) (by kernel_rfl) (by kernel_rfl) (by rintro ⟨_, _, h⟩; exact h) (by (try dsimp only); (first | exact ⟨HV5.out.cell 0, HVB.out.cell 0⟩ | exact ⟨HV5.out.drew.cell 0, HVB.out.drew.cell 0⟩)) (fun hHeld => ?_)
      have HV5 := hid HV5.out.drew; have HVB := hid HVB.out.drew; have HBX := hid (Below.refl V.heap.size V).drew
      generalize V.drew = X1 at *
      obtain ⟨X, rfl⟩ : ∃ Y, Y = X1 := ⟨X1, rfl⟩
      refine tk ?_ 0 (some 27) rfl rfl ?_ ?_; rotate_left; · (intro w hSw; (try dsimp only at hSw); go_simp <;> with_reducible rfl)
      try simp only [Act.put,qA,qB,qC]
      refine tk ?_ 1 (some 28) rfl rfl ?_ ?_; rotate_left; · (intro w hSw; (try dsimp only at hSw); go_simp <;> with_reducible rfl)
      try simp only [Act.put,qA,qB,qC]
      refine tk ?_ 2 (some 29) rfl rfl ?_ ?_; rotate_left; · (intro w hSw; (try dsimp only at hSw); go_simp <;> with_reducible rfl)
      try simp only [Act.put,qA,qB,qC]
      refine tk ?_ 3 (some 30) rfl rfl ?_ ?_; rotate_left; · (intro w hSw; (try dsimp only at hSw); go_simp <;> with_reducible rfl)
      try simp only [Act.put,qA,qB,qC]
      refine tk ?_ 4 (some 31) rfl rfl ?_ ?_; rotate_left; · (intro w hSw; (try dsimp only at hSw); go_simp <;> with_reducible rfl)
      try simp only [Act.put,qA,qB,qC]
      refine st 5 rfl fun K hK => ?_
      go_simp
      refine (HGW0.out X HBX.out).mono ?_; rintro e Y ⟨rfl, hgr⟩
      have HGW := hid hgr
      have HV5 := hid (hgr.chs.blk HV5.out (HNV.out _ (.inl rfl))); have HVB := hid (hgr.ex.elim fun _ ⟨_, _, _, _, _, h, _⟩ => h.grow)
      unfold growV at HVB
      clear hgr hHeld
      refine hK.out _ _ ?_ (fun hHeld => ?_); · ((try dsimp only); (first | exact ⟨HV5.out.cell 0, HVB.out.cell 0⟩ | exact ⟨HV5.out.drew.cell 0, HVB.out.drew.cell 0⟩))
      clear hK K
      try simp only [Act.put,qA,qB,qC]
      refine wpAnyH_done (by kernel_rfl) ?_ _
      exact And.intro (grR_ex rfl) ⟨_, HBX.out, HGW.out⟩
     case r2 =>
      intro e t w4 hq
      cases e <;> first | exact hq.elim | skip
      obtain ⟨⟨f1, rfl⟩, wz, hbz, ⟨r2, vl2, vo2, vr2, h1, h2, h3, h4⟩, hch⟩ := hq
      have hl3 := h3.ol
      rw [List.length_append, List.length_singleton] at hl3
      obtain ⟨L2, lc2, rfl⟩ := own_form hl3
      have hcap := (Sl.of_own hl3).cap
      have y2 := h3.line.cell 0
      have f2 := h3.line.free 0
      simp only [List.getElem?_toArray, List.getElem?_cons_zero] at y2
      have hw : wrap64 (lv.length : Int) = (lv.length : Int) := wr_six HLL.out
      have G4 := hid (h3.lineCut HBB.out)
      have e1 := HSV.out
      have e2 := HCW.out
      have e3 := hbz.size
      have HO4 := hid (show ∀ g, Own3 (.slice L2 lv.length lc2) vo2 vr2 g → Own3 vl vo vr g ∨ w.heap.size + 2 ≤ g from fun g hg => by
       have hg2 : Own3 (.slice L2 (lv.length + 1) lc2) vo2 vr2 g := by
        rcases hg with hg | hg
        · exact .inl ((own_same L2 _ _ _ _).trans hg)
        · exact .inr hg
       rcases h4 g hg2 with e | e
       · exact HOV.out g e
       · exact .inr (by omega))
      have C1 : Chs (grS bx bl (.slice L lv.length lc) vo' vr') W2 w4 := (PC.out.trans (Chs.of_below hbz)).trans3 hch fun i hi => by
       rcases hi with hi | hi | hi
       · exact .inl (.inl hi)
       · exact .inl (.inr (.inl hi))
       · rcases PO.out i hi with e | e
         · exact .inl (.inr (.inr e))
         · exact .inr (by omega)
      have C4 := hid (C1.trans (Chs.setCell (S := grS bx bl (.slice L lv.length lc) vo' vr') (a := ⟨bl, 0, none⟩) (.inr (.inl rfl)) (.slice L2 lv.length lc2)))
      have HRB := hid (And.intro h1 h2)
      clear h1 h2 h3 h4 hch C1 e1 e2 e3 hl3 hbz he
      unfold grR
      gi_wp2
      have hcc := C4.out
      exact ⟨⟨hcc.size, fun r o _ ho hk => H1.out.keeps hcc ho hk⟩, hcc.block _ HCW.out (HNW.out _ (.inr rfl)), ⟨⟨r2, _, _, _, by have := HRB.out; have := HR1.out; have := HKM.out; omega, fun e => by have := HRB.out.1; omega, G4.out, HO4.out⟩, HC.out.trans3 hcc fun i hi => by
       rcases hi with hi | hi | hi
       · exact .inl (.inl hi)
       · exact .inl (.inr (.inl hi))
       · rcases HOW.out i hi with e | e
         · exact .inl (.inr (.inr e))
         · exact .inr (by omega)⟩, hcc.blk H5.out (HNW.out _ (.inl rfl)), H6.out.chs hcc (H1.out.notS HBB.out)⟩
 · rintro D W hD ⟨⟨h1, h2⟩, h3, h4⟩ hK
   obtain ⟨r', vl', vo', vr', k1, k2, k3, k4⟩ := h1
   have G0 := hid k3
   have GA := hid h2
   have GK := hid hK
   have HK1 := hid k1
   have HK2 := hid k2
   have HK4 := hid k4
   clear h2 h3 h4 hK k1 k2 k3 k4
   gi_wp2
   have := HSZ.out
   refine ⟨by simp, .inl ⟨_, _, rfl, run_takeDeferred GK.out, ?_⟩⟩
   exact ⟨_, results_none rfl _ _ _, rfl, ⟨r', vl', vo', vr', by
    rcases Nat.eq_zero_or_pos r' with e | e
    · exact absurd (HK2.out e).2 (min_some HS.out.2.2 HO.out HS.out.1 HS.out.2.1)
    · exact e, Nat.le_trans HK1.out (Nat.add_le_add_left (Nat.mul_le_mul_right m (bits_len s)) r), GS.ownFrom (β := Unit) G.heap.size () _ _ (some D) G0.out (grownBy_putObj' W D _) (fun r e => by cases e; exact ⟨hD, _, GK.out, rfl⟩), fun g hg => by
    rcases HK4.out g hg with e | e
    · exact .inl e
    · exact .inr (by omega)⟩, ownFrom_chs (β := Unit) (B := G.heap.size) (by omega) () _ _ (some D) GA.out (grownBy_putObj' W D _) (fun r e => by cases e; exact ⟨hD, _, GK.out, rfl⟩)⟩
end Go.Proofs.YtnibidmlkbcfkaaGreatDoor
