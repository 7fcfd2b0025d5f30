/- Walk of lines' closure, at any order of one to six elements. Conditions: the boxes are as GS says; the library's table stands. -/
import Derived.Test.YtnibidmlkbcfkaaGreatDoorR36
import Derived.Maps.OwnIn
namespace Go.Proofs.YtnibidmlkbcfkaaGreatDoor
open Go.RowKit Go.Shelf
attribute [local go_sem] Oper.semAt_some
/-- The walk's slots behind a round's first region. -/
def grR (bx bl bo bg b5 x : Nat) (s22 : Value) (f : Nat → Value) : Array Value := #[f 0, .pointer (some ⟨bx, 0, none⟩), .pointer (some ⟨bl, 0, none⟩), .pointer (some ⟨bo, 0, none⟩), .pointer (some ⟨bg, 0, none⟩), .pointer (some ⟨b5, 0, none⟩), .int .i64 (x : Nat), f 7, f 8, f 9, f 10, f 11, f 12, f 13, f 14, f 15, f 16, f 17, f 18, f 19, f 20, f 21, s22, f 23, f 24, f 25, f 26, f 27, f 28, f 29, f 30, f 31, f 32, f 33, f 34, f 35, f 36, f 37]
theorem grR_ex {bx bl bo bg b5 x : Nat} {s22 : Value} {T : Array Value} {D : List Deferred} (h : T = grR bx bl bo bg b5 x s22 (fun i => T.getD i undef)) : ∃ f, ({ tmps := T, defers := D } : Act) = { tmps := grR bx bl bo bg b5 x s22 f, defers := D } := ⟨_, congrArg (fun T => ({ tmps := T, defers := D } : Act)) h⟩
def grZ (bx bl bo bg b5 : Nat) (f : Nat → Value) : Array Value := #[f 0, .pointer (some ⟨bx, 0, none⟩), .pointer (some ⟨bl, 0, none⟩), .pointer (some ⟨bo, 0, none⟩), .pointer (some ⟨bg, 0, none⟩), .pointer (some ⟨b5, 0, none⟩), f 6, f 7, f 8, f 9, f 10, f 11, f 12, f 13, f 14, f 15, f 16, f 17, f 18, f 19, f 20, f 21, f 22, f 23, f 24, f 25, f 26, f 27, f 28, f 29, f 30, f 31, f 32, f 33, f 34, f 35, f 36, f 37]
theorem grZ_ex {bx bl bo bg b5 : Nat} {T : Array Value} {D : List Deferred} (h : T = grZ bx bl bo bg b5 (fun i => T.getD i undef)) : ∃ f, ({ tmps := T, defers := D } : Act) = { tmps := grZ bx bl bo bg b5 f, defers := D } := ⟨_, congrArg (fun T => ({ tmps := T, defers := D } : Act)) h⟩
set_option maxRecDepth 100000 in
set_option maxHeartbeats 4000000 in
theorem growZ (n : Nat) (a : Nat → Nat → Bool) (B bo bx bl bg : Nat) (lv F : List Nat) (r : Nat) (vl vo vr : Value) (w : World) (h : GS n a B bo bx bl bg lv F r vl vo vr w) (hl : lv.length ≤ 6) (hF : r = 0 → F = lv) (hr : r ≤ 900000) (hT : Tab w) (hB : B ≤ w.heap.size) (hb : BxL B bo bx bl bg) :
 Calls Tryz.prog 73 #[.int .i64 0, .pointer (some ⟨bx, 0, none⟩), .pointer (some ⟨bl, 0, none⟩), .pointer (some ⟨bo, 0, none⟩), .pointer (some ⟨bg, 0, none⟩)] w fun e w' => e = .returned (.tuple #[]) ∧ GrowR n a B bo bx bl bg lv F r 1 vl vo vr w w' := by
 refine (callsIn_wide (n := 9)).1 ?_
 refine callsIn_of_wp_marks Tryz.func73 rfl trivial ?_ rfl
 simp only [Tryz.ntmps73, List.size_toArray, List.length_cons, List.length_nil, Nat.reduceAdd, Nat.reduceSub, Array.replicate_succ, Array.replicate_zero, List.push_toArray, List.append_toArray, List.nil_append, List.cons_append]
 obtain ⟨A, c, rfl⟩ := own_form h.ol
 obtain ⟨O, oc, rfl⟩ := (fun ⟨rows, h1, _⟩ => own_form h1 : (∃ rows, w.ownsRow B 36 1 vo r rows ∧ (r ≠ 0 → rows[0]? = some vr)) → ∃ A c, vo = .slice A r c) h.oo
 have bA := (Below.refl w.heap.size w).alloc (Nat.le_refl _) (.cells #[.int .i64 0] 3)
 have HG := hid (h.keep bA)
 have H5 := hid (Blk.new w 3 #[.int .i64 0])
 have HB1 := hid bA
 have HT := hid (hT.below bA)
 have HVL := hid fun g (hg : (Value.slice A lv.length c).ownBlock = some g) => (h.ol.lt g hg).2
 have HOW := hid fun g hg => (h.lt (g := g) hg).2
 have HBB := hid hb
 have HBS := hid hB
 have HFF := hid hF
 have HNS := hid (h.notS hb)
 have HSZ := hid (show (w.alloc (.cells #[.int .i64 0] 3)).heap.size = w.heap.size + 1 from by simp)
 have HN5 := hid (show ¬ grS bx bl (.slice A lv.length c) (.slice O r oc) vr w.heap.size from fun e => by
  have := hb.1
  rcases e with e | e | e
  · omega
  · omega
  · have := (h.lt e).2; omega)
 have k0 := (Blk.new w 3 #[.int .i64 0]).cell 0
 simp only [List.getElem?_toArray, List.getElem?_cons_zero] at k0
 clear h hT bA hb hF hB
 gi_wp2_with fail
 clear k0
 generalize w.alloc (.cells #[.int .i64 0] 3) = W at *
 obtain ⟨i0, hi0, hz0, hz1, hzz⟩ := info_parts TII.inf
 refine wpIn_mono (Q := fun e t wx => match e with | .normal => (∃ f, t = ({ tmps := grZ bx bl bo bg w.heap.size f, defers := [] } : Act)) ∧ (∃ vo' vr', GS n a B bo bx bl bg lv F (r + 1) (.slice A lv.length c) vo' vr' wx ∧ (∀ g, Own3 (.slice A lv.length c) vo' vr' g → Own3 (.slice A lv.length c) (.slice O r oc) vr g ∨ w.heap.size ≤ g)) ∧ Chs (grS bx bl (.slice A lv.length c) (.slice O r oc) vr) W wx | _ => False) ?first ?rest
 case first =>
  have KL := hid HG.out.line
  clear HT HN5 HNS H5
  refine region_wide (S := (fun w' => w'.cell? ⟨bl, 0, none⟩ = some (.slice A lv.length c))) (by kernel_rfl) (by kernel_rfl) (by rintro ⟨_, _, h⟩; exact h) (by (try dsimp only); (first | exact KL.out.cell 0 | exact KL.out.drew.cell 0)) (fun hHeld => ?_)
  have KG := hid (HG.out.keep (Below.refl W.heap.size W).drew); have HBX := hid (Below.refl W.heap.size W).drew
  have HCL := hid fun (X : World) (hX : Sl X A lv.length c (iV lv)) => cloneI A lv.length c (iV lv) (by simp [iV, Value.oneCell']) (by omega) X hX
  generalize W.drew = X1 at *
  obtain ⟨X, rfl⟩ : ∃ Y, Y = X1 := ⟨X1, rfl⟩
  refine tk ?_ 1 (some 10) rfl rfl ?_ ?_; rotate_left; · (intro w hSw; (try dsimp only at hSw); go_simp <;> with_reducible rfl)
  try simp only [Act.put, pA0, pA1, pA2]
  refine wpAnyH_ready (rs := [0, 2]) (by kernel_rfl) (by simp) ?_
  refine AllReadyH.cons rfl (fun K hK => ?_) (AllReadyH.cons rfl (fun K hK => ?_) (AllReadyH.nil))
  · have z1 := KG.out.out.cell 0
    simp only [List.getElem?_toArray, List.getElem?_cons_zero] at z1
    go_simp
    clear z1
    have KL := hid KG.out.line
    clear hHeld
    refine hK.out _ _ ?_ (fun hHeld => ?_); · ((try dsimp only); (first | exact KL.out.cell 0 | exact KL.out.drew.cell 0))
    clear hK K
    try simp only [Act.put, pA0, pA1, pA2]
    refine wpAnyH_ready (rs := [2]) (by kernel_rfl) (by simp) ?_
    refine AllReadyH.cons rfl (fun K hK => ?_) AllReadyH.nil
    go_simp
    refine (HCL.out _ (Sl.of_own KG.out.ol)).mono ?_; rintro e X ⟨R, rc, rfl, hr2, bb⟩
    have HR := hid (own_more hr2 (base' := w.heap.size) (by have := HBX.out.size; have := HSZ.out; omega)); have KG := hid (KG.out.keep bb); have HBX := hid (below_call HBX.out bb HBX.out.size)
    have KL := hid KG.out.line
    clear hr2 bb hHeld
    refine hK.out _ _ ?_ (fun hHeld => ?_); · ((try dsimp only); (first | exact KL.out.cell 0 | exact KL.out.drew.cell 0))
    clear hK K
    try simp only [Act.put, pA0, pA1, pA2]
    refine wpAnyH_ready (rs := [3]) (by kernel_rfl) (by simp) ?_
    refine AllReadyH.cons rfl (fun K hK => ?_) AllReadyH.nil
    go_simp
    have bb := (Below.refl X.heap.size X).alloc (Nat.le_refl _) (.cells #[.slice R lv.length rc] 36)
    have HR := hid (own_below HR.out bb); have KG := hid (KG.out.keep bb); have HBX := hid (below_call HBX.out bb HBX.out.size)
    have KL := hid KG.out.line
    clear bb hHeld
    refine hK.out _ _ ?_ (fun hHeld => ?_); · ((try dsimp only); (first | exact KL.out.cell 0 | exact KL.out.drew.cell 0))
    clear hK K
    try simp only [Act.put, pA0, pA1, pA2]
    refine wpAnyH_ready (rs := [4]) (by kernel_rfl) (by simp) ?_
    refine AllReadyH.cons rfl (fun K hK => ?_) AllReadyH.nil
    have hBq : B ≤ (X.alloc (.cells #[.slice R lv.length rc] 36)).heap.size := by have := HBX.out.size; have := HSZ.out; have := HBS.out; omega
    obtain ⟨rows, hro, hr0⟩ := KG.out.oo
    refine step_append_lies _ rfl (.tmp 9) (.tmp 12) 39 rfl B 36 i0 (.slice none 0 0) 1 24 TII.und hi0 hz0 hz1 hzz TII.zc TII.sz (.slice O r oc) r rows rfl hro _ 1 1 (#[.slice R lv.length rc] : Array Value).toList rfl rfl (cells_new _ _ _) (by simp [Value.oneCell']) (by decide) (by unfold maxLen; omega) (by omega) hBq _ rfl ?_; intro g cap wA howA hgA hatA hltA
    have HP := hid (KG.out.push HBB.out HFF.out HR.out HBS.out HVL.out hro hr0 howA hgA)
    have hol : ∀ b, b < B → (Value.slice O r oc).ownBlock ≠ some b := fun b hb e => by have := (hro.lt b e).1; omega
    have KL := hid (blk_not KG.out.line hgA (hol bl HBB.out.1.2.2.1))
    have KX := hid (blk_not KG.out.out hgA (hol bx HBB.out.1.2.1))
    have HCH := hid (push_chs (w := W) (bx := bx) (bl := bl) (vl := .slice A lv.length c) (vo := .slice O r oc) (vr := vr) (v := .slice (some ⟨g, 0, none⟩) (r + 1) cap) HBX.out hgA)
    have HPO := hid (push_own (vl := .slice A lv.length c) (vo := .slice O r oc) (vr := vr) (r := r) (R := R) (m := lv.length) (rc := rc) (cap := cap) (C := w.heap.size) (fun k hk => (HR.out.lt k hk).1) hatA (by have := HBX.out.size; have := HSZ.out; omega))
    clear hro hr0 howA hgA hatA hltA hBq hol hHeld HCL
    refine hK.out _ _ ?_ (fun hHeld => ?_); · ((try dsimp only); (first | exact KL.out.cell 0 | exact KL.out.drew.cell 0))
    clear hK K
    try simp only [Act.put, List.setIfInBounds_toArray]
    refine wpAnyH_ready (rs := [5]) (by kernel_rfl) (by simp) ?_
    refine AllReadyH.cons rfl (fun K hK => ?_) AllReadyH.nil
    have z5 := KX.out.cell 0
    have g5 := KX.out.free 0
    simp only [List.getElem?_toArray, List.getElem?_cons_zero] at z5
    go_simp
    clear z5 g5
    have KL := hid (KL.out.far (p := ⟨bx, 0, none⟩) (blk_neM KL.out KX.out (by decide)) (.slice (some ⟨g, 0, none⟩) (r + 1) cap))
    clear hHeld
    refine hK.out _ _ ?_ (fun hHeld => ?_); · ((try dsimp only); (first | exact KL.out.cell 0 | exact KL.out.drew.cell 0))
    clear hK K
    try simp only [Act.put, pA0, pA1, pA2]
    refine wpAnyH_done (by kernel_rfl) ?_ _
    exact And.intro (grZ_ex rfl) (And.intro ⟨_, _, HP.out, HPO.out⟩ HCH.out)
  · go_simp
    refine (HCL.out _ (Sl.of_own KG.out.ol)).mono ?_; rintro e X ⟨R, rc, rfl, hr2, bb⟩
    have HR := hid (own_more hr2 (base' := w.heap.size) (by have := HBX.out.size; have := HSZ.out; omega)); have KG := hid (KG.out.keep bb); have HBX := hid (below_call HBX.out bb HBX.out.size)
    have KL := hid KG.out.line
    clear hr2 bb hHeld
    refine hK.out _ _ ?_ (fun hHeld => ?_); · ((try dsimp only); (first | exact KL.out.cell 0 | exact KL.out.drew.cell 0))
    clear hK K
    try simp only [Act.put, pA0, pA1, pA2]
    refine wpAnyH_ready (rs := [0, 3]) (by kernel_rfl) (by simp) ?_
    refine AllReadyH.cons rfl (fun K hK => ?_) (AllReadyH.cons rfl (fun K hK => ?_) (AllReadyH.nil))
    · have z1 := KG.out.out.cell 0
      simp only [List.getElem?_toArray, List.getElem?_cons_zero] at z1
      go_simp
      clear z1
      have KL := hid KG.out.line
      clear hHeld
      refine hK.out _ _ ?_ (fun hHeld => ?_); · ((try dsimp only); (first | exact KL.out.cell 0 | exact KL.out.drew.cell 0))
      clear hK K
      try simp only [Act.put, pA0, pA1, pA2]
      refine wpAnyH_ready (rs := [3]) (by kernel_rfl) (by simp) ?_
      refine AllReadyH.cons rfl (fun K hK => ?_) AllReadyH.nil
      go_simp
      have bb := (Below.refl X.heap.size X).alloc (Nat.le_refl _) (.cells #[.slice R lv.length rc] 36)
      have HR := hid (own_below HR.out bb); have KG := hid (KG.out.keep bb); have HBX := hid (below_call HBX.out bb HBX.out.size)
      have KL := hid KG.out.line
      clear bb hHeld
      refine hK.out _ _ ?_ (fun hHeld => ?_); · ((try dsimp only); (first | exact KL.out.cell 0 | exact KL.out.drew.cell 0))
      clear hK K
      try simp only [Act.put, pA0, pA1, pA2]
      refine wpAnyH_ready (rs := [4]) (by kernel_rfl) (by simp) ?_
      refine AllReadyH.cons rfl (fun K hK => ?_) AllReadyH.nil
      have hBq : B ≤ (X.alloc (.cells #[.slice R lv.length rc] 36)).heap.size := by have := HBX.out.size; have := HSZ.out; have := HBS.out; omega
      obtain ⟨rows, hro, hr0⟩ := KG.out.oo
      refine step_append_lies _ rfl (.tmp 9) (.tmp 12) 39 rfl B 36 i0 (.slice none 0 0) 1 24 TII.und hi0 hz0 hz1 hzz TII.zc TII.sz (.slice O r oc) r rows rfl hro _ 1 1 (#[.slice R lv.length rc] : Array Value).toList rfl rfl (cells_new _ _ _) (by simp [Value.oneCell']) (by decide) (by unfold maxLen; omega) (by omega) hBq _ rfl ?_; intro g cap wA howA hgA hatA hltA
      have HP := hid (KG.out.push HBB.out HFF.out HR.out HBS.out HVL.out hro hr0 howA hgA)
      have hol : ∀ b, b < B → (Value.slice O r oc).ownBlock ≠ some b := fun b hb e => by have := (hro.lt b e).1; omega
      have KL := hid (blk_not KG.out.line hgA (hol bl HBB.out.1.2.2.1))
      have KX := hid (blk_not KG.out.out hgA (hol bx HBB.out.1.2.1))
      have HCH := hid (push_chs (w := W) (bx := bx) (bl := bl) (vl := .slice A lv.length c) (vo := .slice O r oc) (vr := vr) (v := .slice (some ⟨g, 0, none⟩) (r + 1) cap) HBX.out hgA)
      have HPO := hid (push_own (vl := .slice A lv.length c) (vo := .slice O r oc) (vr := vr) (r := r) (R := R) (m := lv.length) (rc := rc) (cap := cap) (C := w.heap.size) (fun k hk => (HR.out.lt k hk).1) hatA (by have := HBX.out.size; have := HSZ.out; omega))
      clear hro hr0 howA hgA hatA hltA hBq hol hHeld HCL
      refine hK.out _ _ ?_ (fun hHeld => ?_); · ((try dsimp only); (first | exact KL.out.cell 0 | exact KL.out.drew.cell 0))
      clear hK K
      try simp only [Act.put, List.setIfInBounds_toArray]
      refine wpAnyH_ready (rs := [5]) (by kernel_rfl) (by simp) ?_
      refine AllReadyH.cons rfl (fun K hK => ?_) AllReadyH.nil
      have z5 := KX.out.cell 0
      have g5 := KX.out.free 0
      simp only [List.getElem?_toArray, List.getElem?_cons_zero] at z5
      go_simp
      clear z5 g5
      have KL := hid (KL.out.far (p := ⟨bx, 0, none⟩) (blk_neM KL.out KX.out (by decide)) (.slice (some ⟨g, 0, none⟩) (r + 1) cap))
      clear hHeld
      refine hK.out _ _ ?_ (fun hHeld => ?_); · ((try dsimp only); (first | exact KL.out.cell 0 | exact KL.out.drew.cell 0))
      clear hK K
      try simp only [Act.put, pA0, pA1, pA2]
      refine wpAnyH_done (by kernel_rfl) ?_ _
      exact And.intro (grZ_ex rfl) (And.intro ⟨_, _, HP.out, HPO.out⟩ HCH.out)
    · go_simp
      have bb := (Below.refl X.heap.size X).alloc (Nat.le_refl _) (.cells #[.slice R lv.length rc] 36)
      have HR := hid (own_below HR.out bb); have KG := hid (KG.out.keep bb); have HBX := hid (below_call HBX.out bb HBX.out.size)
      have KL := hid KG.out.line
      clear bb hHeld
      refine hK.out _ _ ?_ (fun hHeld => ?_); · ((try dsimp only); (first | exact KL.out.cell 0 | exact KL.out.drew.cell 0))
      clear hK K
      try simp only [Act.put, pA0, pA1, pA2]
      refine wpAnyH_ready (rs := [0]) (by kernel_rfl) (by simp) ?_
      refine AllReadyH.cons rfl (fun K hK => ?_) AllReadyH.nil
      have z1 := KG.out.out.cell 0
      simp only [List.getElem?_toArray, List.getElem?_cons_zero] at z1
      go_simp
      clear z1
      have KL := hid KG.out.line
      clear hHeld
      refine hK.out _ _ ?_ (fun hHeld => ?_); · ((try dsimp only); (first | exact KL.out.cell 0 | exact KL.out.drew.cell 0))
      clear hK K
      try simp only [Act.put, pA0, pA1, pA2]
      refine wpAnyH_ready (rs := [4]) (by kernel_rfl) (by simp) ?_
      refine AllReadyH.cons rfl (fun K hK => ?_) AllReadyH.nil
      have hBq : B ≤ (X.alloc (.cells #[.slice R lv.length rc] 36)).heap.size := by have := HBX.out.size; have := HSZ.out; have := HBS.out; omega
      obtain ⟨rows, hro, hr0⟩ := KG.out.oo
      refine step_append_lies _ rfl (.tmp 9) (.tmp 12) 39 rfl B 36 i0 (.slice none 0 0) 1 24 TII.und hi0 hz0 hz1 hzz TII.zc TII.sz (.slice O r oc) r rows rfl hro _ 1 1 (#[.slice R lv.length rc] : Array Value).toList rfl rfl (cells_new _ _ _) (by simp [Value.oneCell']) (by decide) (by unfold maxLen; omega) (by omega) hBq _ rfl ?_; intro g cap wA howA hgA hatA hltA
      have HP := hid (KG.out.push HBB.out HFF.out HR.out HBS.out HVL.out hro hr0 howA hgA)
      have hol : ∀ b, b < B → (Value.slice O r oc).ownBlock ≠ some b := fun b hb e => by have := (hro.lt b e).1; omega
      have KL := hid (blk_not KG.out.line hgA (hol bl HBB.out.1.2.2.1))
      have KX := hid (blk_not KG.out.out hgA (hol bx HBB.out.1.2.1))
      have HCH := hid (push_chs (w := W) (bx := bx) (bl := bl) (vl := .slice A lv.length c) (vo := .slice O r oc) (vr := vr) (v := .slice (some ⟨g, 0, none⟩) (r + 1) cap) HBX.out hgA)
      have HPO := hid (push_own (vl := .slice A lv.length c) (vo := .slice O r oc) (vr := vr) (r := r) (R := R) (m := lv.length) (rc := rc) (cap := cap) (C := w.heap.size) (fun k hk => (HR.out.lt k hk).1) hatA (by have := HBX.out.size; have := HSZ.out; omega))
      clear hro hr0 howA hgA hatA hltA hBq hol hHeld HCL
      refine hK.out _ _ ?_ (fun hHeld => ?_); · ((try dsimp only); (first | exact KL.out.cell 0 | exact KL.out.drew.cell 0))
      clear hK K
      try simp only [Act.put, List.setIfInBounds_toArray]
      refine wpAnyH_ready (rs := [5]) (by kernel_rfl) (by simp) ?_
      refine AllReadyH.cons rfl (fun K hK => ?_) AllReadyH.nil
      have z5 := KX.out.cell 0
      have g5 := KX.out.free 0
      simp only [List.getElem?_toArray, List.getElem?_cons_zero] at z5
      go_simp
      clear z5 g5
      have KL := hid (KL.out.far (p := ⟨bx, 0, none⟩) (blk_neM KL.out KX.out (by decide)) (.slice (some ⟨g, 0, none⟩) (r + 1) cap))
      clear hHeld
      refine hK.out _ _ ?_ (fun hHeld => ?_); · ((try dsimp only); (first | exact KL.out.cell 0 | exact KL.out.drew.cell 0))
      clear hK K
      try simp only [Act.put, pA0, pA1, pA2]
      refine wpAnyH_done (by kernel_rfl) ?_ _
      exact And.intro (grZ_ex rfl) (And.intro ⟨_, _, HP.out, HPO.out⟩ HCH.out)
 case rest =>
  intro e t wx hq
  cases e <;> first | exact hq.elim | skip
  obtain ⟨⟨f, rfl⟩, ⟨vo', vr', hg, hown⟩, hch⟩ := hq
  have HGX := hid hg
  have HOX := hid hown
  have HCW := hid ((Chs.of_below HB1.out).trans hch)
  have HTWX := hid (HT.out.chs hch HNS.out)
  have k5 := (hch.blk H5.out HN5.out).cell 0
  simp only [List.getElem?_toArray, List.getElem?_cons_zero] at k5
  clear hg hown hch HG
  unfold grZ
  gi_wp2
  refine ⟨trivial, (callsIn_wide.2 (elementsF 0 _)).mono ?_⟩
  rintro e w' ⟨rfl, rfl⟩
  have bG := (Below.refl wx.heap.size wx).alloc (Nat.le_refl _) (.cells #[.int .i64 0] 3)
  have GC := hid (Blk.new wx 3 #[.int .i64 0])
  have GG := hid (HGX.out.keep bG)
  have GH := hid (HCW.out.trans (Chs.of_below bG))
  have HSX := hid (show w.heap.size ≤ wx.heap.size from HCW.out.size)
  have HWX := hid fun g (hg : Own3 (.slice A lv.length c) vo' vr' g) => (HGX.out.lt hg).2
  have HSG := hid (show (wx.alloc (.cells #[.int .i64 0] 3)).heap.size = wx.heap.size + 1 from by simp)
  have HTX := hid (HTWX.out.below bG)
  clear k5 bG
  gi_wp2
  generalize wx.alloc (.cells #[.int .i64 0] 3) = G at *
  refine wp_range (n := 9) (gf := 109) (c := wx.heap.size) (t := 3) (xs := []) rfl (fun args w => enters Tryz.func109 (by kernel_rfl) rfl args w) GC.out (elems_iter 8 _ 0 [] G rfl GC.out) rfl
   (fun _ W => (GS n a B bo bx bl bg lv F (r + 1) (.slice A lv.length c) vo' vr' W ∧ Chs (grS bx bl (.slice A lv.length c) (.slice O r oc) vr) w W) ∧ Tab W)
   (fun _ _ => False) ?_ (fun _ _ _ _ _ hs _ _ => hs) ?_ (fun _ _ h => h.2) ⟨⟨GG.out, GH.out⟩, HTX.out⟩ ?_ ?_ (fun _ _ _ _ h _ => h.elim)
  · have := HSX.out
    have := HSG.out
    have := HBB.out.2.1
    have := HBS.out
    exact OwnFrom.and (OwnFrom.and (GS.ownFrom _) (ownFrom_chs (by omega))) (ownFrom_tab (by omega))
  · rintro k W v ⟨⟨h1, h2⟩, h3⟩
    have := HSX.out
    have := HBB.out.2.1
    have := HBB.out.1
    have := HBS.out
    exact ⟨⟨h1.far (p := ⟨wx.heap.size, 0, none⟩) (by simp only; omega) (fun e => by have := HWX.out _ e; simp only at this; omega) v, h2.trans2 (p := ⟨wx.heap.size, 0, none⟩) (by simp only; omega) v⟩, h3.grown (setGrown W ⟨wx.heap.size, 0, none⟩ v) (by simp; omega)⟩
  · intro l k x W W2 _ _ _ hx
    simp at hx
  · rintro D W hD ⟨⟨h1, h2⟩, h3⟩ hK
    have G0 := hid h1
    have GA := hid h2
    have GK := hid hK
    clear h1 h2 h3 hK
    gi_wp2
    have := HSX.out
    have := HSG.out
    refine ⟨by simp, .inl ⟨_, _, rfl, run_takeDeferred GK.out, ?_⟩⟩
    exact ⟨_, results_none rfl _ _ _, rfl, ⟨_, _, _, _, by omega, Nat.le_refl _, GS.ownFrom (β := Unit) G.heap.size () _ _ (some D) G0.out (grownBy_putObj' W D _) (fun r e => by cases e; exact ⟨hD, _, GK.out, rfl⟩), HOX.out⟩, ownFrom_chs (β := Unit) (B := G.heap.size) (by omega) () _ _ (some D) GA.out (grownBy_putObj' W D _) (fun r e => by cases e; exact ⟨hD, _, GK.out, rfl⟩)⟩
end Go.Proofs.YtnibidmlkbcfkaaGreatDoor
