/- Texts of this proof, one behind the other; each says its condition at its head. -/
import Derived.Test.YtciadmjdadnolaaGreatDoorK36
import Derived.Test.YtciadmjdadnolaaGreatDoorK8
/- Walk of lines' closure at one element. Condition: the library's table of 64 numbers stands in its variable. -/
namespace Go.Proofs.YtciadmjdadnolaaGreatDoor
open Go.RowKit Go.Shelf
attribute [local go_sem] Oper.semAt_some
theorem elems_one : Elems 1 [0] := ⟨by decide, by decide, by decide, by show (1 &&& (1 - 1) : Nat) = 0; decide⟩
theorem OwnFrom.ite {B : Nat} {I J : World → Prop} (h : OwnFrom B (fun (_ : Unit) W => I W)) (k : OwnFrom B (fun (_ : Unit) W => J W)) : OwnFrom B (fun (i : Nat) W => if i = 0 then I W else J W) := fun s X Y row hs hg hr => by
 by_cases e : s = 0
 · simp only [if_pos e] at hs ⊢
   exact h () X Y row hs hg hr
 · simp only [if_neg e] at hs ⊢
   exact k () X Y row hs hg hr
theorem LnS.ownFrom {β : Type} (B bo bx bl bg : Nat) (x l : Value) : OwnFrom B (fun (_ : β) W => LnS W bo bx bl bg x l) := fun s X Y row hs hg hr =>
 ⟨ownFrom_blk B _ _ _ s X Y row hs.ord hg hr, ownFrom_blk B _ _ _ s X Y row hs.out hg hr, ownFrom_blk B _ _ _ s X Y row hs.line hg hr, ownFrom_blk B _ _ _ s X Y row hs.grow hg hr⟩
theorem LnS.far {W : World} {bo bx bl bg : Nat} {x l : Value} (h : LnS W bo bx bl bg x l) {p : Addr} (hp : W.heap.size ≤ p.block ∨ (bo ≠ p.block ∧ bx ≠ p.block ∧ bl ≠ p.block ∧ bg ≠ p.block)) (u : Value) : LnS (W.setCell p u) bo bx bl bg x l := by
 have := h.ord.lt; have := h.out.lt; have := h.line.lt; have := h.grow.lt
 exact ⟨h.ord.far (by omega) u, h.out.far (by omega) u, h.line.far (by omega) u, h.grow.far (by omega) u⟩
/-- What came out: one line of one element. -/
def OutS (W : World) (B bx : Nat) : Prop := ∃ O oc R rc, Blk W bx 169 #[.slice O 1 oc] ∧ W.ownsRow B 89 1 (.slice O 1 oc) 1 [.slice R 1 rc] ∧ W.ownsRow B 3 1 (.slice R 1 rc) 1 [.int .i64 0]
theorem OutS.ownFrom {β : Type} (C B bx : Nat) : OwnFrom C (fun (_ : β) W => OutS W B bx) := fun s X Y row hs hg hr => by
 obtain ⟨O, oc, R, rc, h1, h2, h3⟩ := hs
 exact ⟨O, oc, R, rc, ownFrom_blk C _ _ _ s X Y row h1 hg hr, ownFrom_own C _ _ _ _ _ _ s X Y row h2 hg hr, ownFrom_own C _ _ _ _ _ _ s X Y row h3 hg hr⟩
theorem OutS.more {W : World} {B B' bx : Nat} (h : OutS W B bx) (hb : B' ≤ B) : OutS W B' bx := by
 obtain ⟨O, oc, R, rc, h1, h2, h3⟩ := h
 exact ⟨O, oc, R, rc, h1, own_more h2 hb, own_more h3 hb⟩
theorem OutS.far {W : World} {B bx : Nat} (h : OutS W B bx) {p : Addr} (h1 : bx ≠ p.block) (h2 : p.block < B) (u : Value) : OutS (W.setCell p u) B bx := by
 obtain ⟨O, oc, R, rc, k1, k2, k3⟩ := h
 refine ⟨O, oc, R, rc, k1.far h1 u, k2.kept (setGrown W p u) ?_, k3.kept (setGrown W p u) ?_⟩
 · cases hv : (Value.slice O 1 oc).ownBlock with
   | none => exact .inl rfl
   | some g => exact .inr fun e => by cases e; have := (k2.lt _ hv).1; omega
 · cases hv : (Value.slice R 1 rc).ownBlock with
   | none => exact .inl rfl
   | some g => exact .inr fun e => by cases e; have := (k3.lt _ hv).1; omega
set_option maxRecDepth 100000 in
set_option maxHeartbeats 4000000 in
theorem growOne (bo bx bl bg : Nat) (w : World) (h : LnS w bo bx bl bg (.slice none 0 0) (.slice none 0 0)) (hT : Tab w) (HBX : ¬ bx = 4 ∧ ¬ bl = 4) :
 Calls Tryz.prog 194 #[.int .i64 1, .pointer (some ⟨bx, 0, none⟩), .pointer (some ⟨bl, 0, none⟩), .pointer (some ⟨bo, 0, none⟩), .pointer (some ⟨bg, 0, none⟩)] w fun e w' => e = .returned (.tuple #[]) ∧
  OutS w' w.heap.size bx ∧ Chs (fun i => i = bx ∨ i = bl) w w' := by
 refine (callsIn_wide (n := 19)).1 ?_
 refine callsIn_of_wp_marks Tryz.func194 rfl trivial ?_ rfl
 simp only [Tryz.ntmps194, List.size_toArray, List.length_cons, List.length_nil, Nat.reduceAdd, Nat.reduceSub, Array.replicate_succ, Array.replicate_zero, List.push_toArray, List.append_toArray, List.nil_append, List.cons_append]
 have HT := hid hT
 have HL := hid h
 have k0 := (Blk.new w 3 #[.int .i64 1]).cell 0
 simp only [List.getElem?_toArray, List.getElem?_cons_zero] at k0
 clear h hT
 gi_wp2
 refine ⟨trivial, (callsIn_wide.2 (elementsF 1 _)).mono ?_⟩
 rintro e w' ⟨rfl, rfl⟩
 have hb : Below w.heap.size w ((w.alloc (.cells #[.int .i64 1] 3)).alloc (.cells #[.int .i64 1] 3)) := ((Below.refl _ w).alloc (Nat.le_refl _) _).alloc (by simp) _
 have HB := hid hb
 have GL := hid (HL.out.keep hb)
 have GT := hid (HT.out.below hb)
 have G5 := hid ((Blk.new w 3 #[.int .i64 1]).alloc (.cells #[.int .i64 1] 3))
 have GC := hid (Blk.new_at (w.alloc (.cells #[.int .i64 1] 3)) 3 #[.int .i64 1] (n := w.heap.size + 1) (by simp))
 have HSZ := hid (show ((w.alloc (.cells #[.int .i64 1] 3)).alloc (.cells #[.int .i64 1] 3)).heap.size = w.heap.size + 2 from by simp)
 have HP := hid HT.out.pos
 clear hb k0
 gi_wp2
 generalize ((w.alloc (.cells #[.int .i64 1] 3)).alloc (.cells #[.int .i64 1] 3)) = G at *
 refine wp_range (n := 19) (gf := 184) (c := w.heap.size + 1) (t := 3) (xs := [0]) rfl (fun args w => enters Tryz.func184 (by kernel_rfl) rfl args w) GC.out (elems_iter 18 _ 1 [0] G elems_one GC.out) rfl
  (fun k W => ((if k = 0 then LnS W bo bx bl bg (.slice none 0 0) (.slice none 0 0) else OutS W (w.heap.size + 2) bx) ∧ Chs (fun i => i = bx ∨ i = bl) w W) ∧ Blk W w.heap.size 3 #[.int .i64 1] ∧ Tab W)
  (fun _ _ => False) ?_ (fun _ _ _ _ _ hs _ _ => hs) ?_ (fun _ _ h => h.2.2) ⟨⟨by simpa using GL.out, Chs.of_below HB.out⟩, G5.out, GT.out⟩ ?_ ?_ (fun _ _ _ _ h _ => h.elim)
 · have := HSZ.out
   have := HP.out
   exact OwnFrom.and (OwnFrom.and (OwnFrom.ite (LnS.ownFrom _ _ _ _ _ _ _) (OutS.ownFrom _ _ _)) (ownFrom_chs (by omega))) (OwnFrom.and (ownFrom_blk _ _ _ _) (ownFrom_tab (by omega)))
 · rintro k W v ⟨⟨h1, h2⟩, h3, h4⟩
   have := HP.out
   have g1 := HL.out.ord.lt
   have g2 := HL.out.out.lt
   have g3 := HL.out.line.lt
   have g4 := HL.out.grow.lt
   refine ⟨⟨?_, h2.trans2 (p := ⟨w.heap.size + 1, 0, none⟩) (by simp) v⟩, h3.far (p := ⟨w.heap.size + 1, 0, none⟩) (by simp) v, h4.grown (setGrown W ⟨w.heap.size + 1, 0, none⟩ v) (by simp; omega)⟩
   by_cases e : k = 0
   · simp only [if_pos e] at h1 ⊢
     exact h1.far (p := ⟨w.heap.size + 1, 0, none⟩) (Or.inr (by simp; omega)) v
   · simp only [if_neg e] at h1 ⊢
     exact h1.far (p := ⟨w.heap.size + 1, 0, none⟩) (by simp; omega) (by simp) v
 · intro l k x W W2 hl hr hI hx hv
   have hk : k = 0 := by
    have := (List.getElem?_eq_some_iff.1 hx).1
    simp at this
    exact this
   subst hk
   have hx0 : x = 0 := by simpa using hx.symm
   subst hx0
   simp only [if_true] at hI
   obtain ⟨⟨hL, hC⟩, h5, hT2⟩ := hI
   gi_wp2
   refine ⟨trivial, ?_⟩
   gi_wp2
   have o0 := hL.ord.cell 0
   have o1 := hL.ord.cell 1
   have o2 := hL.ord.cell 2
   have o3 := hL.ord.cell 3
   have o4 := hL.ord.cell 4
   have o5 := hL.ord.cell 5
   have o6 := hL.ord.cell 6
   have k5 := h5.cell 0
   simp only [ord1, List.getElem?_toArray, List.getElem?_cons_zero, List.getElem?_cons_succ] at o0 o1 o2 o3 o4 o5 o6 k5
   have HLL := hid hL
   have HC := hid hC
   have H5 := hid h5
   have HT2 := hid hT2
   have HMX : Tryz.prog.follows .mixedOrders = true := by kernel_rfl
   clear hL hC h5 hT2 hx hv
   have hand0 : bits .and .i64 0 1 = 0 := by kernel_rfl
   refine wpIn_mono (Q := fun e a wx => e = .normal ∧ a = ({ tmps := #[.int .i64 1, .pointer (some ⟨bx, 0, none⟩), .pointer (some ⟨bl, 0, none⟩), .pointer (some ⟨bo, 0, none⟩), .pointer (some ⟨bg, 0, none⟩), .pointer (some ⟨w.heap.size, 0, none⟩), .int .i64 0, .int .i64 1, .bool false, undef, undef, undef, undef, undef, .int .i64 1, .func (.func 184) #[] #[.pointer (some ⟨w.heap.size + 1, 0, none⟩)], .int .i64 0, .agg #[.int .i64 1, .int .i64 0, .int .i64 0, .int .i64 0, .int .i64 0, .int .i64 0, .int .i64 0], .int .i64 0, .int .i64 0, .int .i64 1, .int .i64 0, .bool true, undef, undef, undef, undef, undef, undef, undef, undef, undef, undef, undef, undef, undef, undef, undef], defers := [] } : Act) ∧ Below W2.heap.size W2 wx) ?first5 ?rest5
   case first5 =>
    gi_region_with_o (first | (refine ⟨trivial, ?_⟩; gi_at_call 134; refine (CallsIn.inRound l (callsIn_wide.2 (belowOne _))).mono ?_; rintro e w7 ⟨rfl, b7⟩; have B7 := hid b7; have k7 : w7.cell? ⟨w.heap.size, 0, none⟩ = some (.int .i64 1) := cell_keep b7 k5; clear b7) | (gi_at_call 134; refine (CallsIn.inRound l (callsIn_wide.2 (belowOne _))).mono ?_; rintro e w7 ⟨rfl, b7⟩; have B7 := hid b7; have k7 : w7.cell? ⟨w.heap.size, 0, none⟩ = some (.int .i64 1) := cell_keep b7 k5; clear b7))
    all_goals exact ⟨rfl, rfl, (Below.refl _ W2).drew.trans B7.out⟩
   case rest5 =>
    rintro e a wx ⟨rfl, rfl, hb7⟩
    have J7 := hid (HLL.out.keep hb7)
    have K5 := hid (H5.out.keep hb7)
    have T7 := hid (HT2.out.below hb7)
    have C7 := hid (show Chs (fun i => i = bx ∨ i = bl) w wx from HC.out.trans (Chs.of_below hb7))
    have CW7 := hid (show Chs (fun i => i = bx ∨ i = bl) W2 wx from Chs.of_below hb7)
    have z2 := J7.out.line.cell 0
    simp only [List.getElem?_toArray, List.getElem?_cons_zero] at z2
    clear o0 o1 o2 o3 o4 o5 o6 k5 HLL hb7
    obtain ⟨i0, hi0, hz0, hz1, hzz⟩ := info_parts TI27.inf
    dsimp only
    gi_wp2_with (gi_at_builtin; refine wpListIn_append_own _ rfl _ _ 89 rfl w.heap.size 3 i0 (.int .i64 0) 1 8 TI27.und hi0 hz0 hz1 hzz TI27.zc TI27.sz (.slice none 0 0) 0 [] rfl (World.ownsRow_nil _ _ _ _) ⟨wx.heap.size, 0, none⟩ 1 1 [.int .i64 0] rfl rfl (cell_one_new _ _ _) (by simp [Value.oneCell']) (by unfold maxLen; omega) (by omega) (by have := C7.out.size; simp; omega) ?_; intro v1 w8 hown1 hgr _; obtain ⟨L, lc, rfl⟩ := own_form hown1; have b8 := ((Below.refl wx.heap.size wx).alloc (Nat.le_refl _) (.cells #[.int .i64 0] 3)).grown hgr (by simp) (fun k hk => by simp [Value.ownBlock] at hk); have B8 := hid b8; have J8 := hid (J7.out.keep b8); have L8 := hid hown1; have y2 := J8.out.line.cell 0; have f2 := J8.out.line.free 0; simp only [List.getElem?_toArray, List.getElem?_cons_zero] at y2; clear hown1 hgr b8)
    have hbl := HL.out.line.lt
    have J9 := hid (show LnS (w8.setCell ⟨bl, 0, none⟩ (.slice L 1 lc)) bo bx bl bg (.slice none 0 0) (.slice L 1 lc) from
     ⟨J8.out.ord.far (p := ⟨bl, 0, none⟩) (blk_neM J8.out.ord J8.out.line (by decide)) _, J8.out.out.far (p := ⟨bl, 0, none⟩) (blk_neM J8.out.out J8.out.line (by decide)) _, J8.out.line.set 0 _, J8.out.grow.far (p := ⟨bl, 0, none⟩) (blk_neM J8.out.grow J8.out.line (by decide)) _⟩)
    have L9 := hid (own_grown L8.out J8.out.line (by decide) (setGrown w8 ⟨bl, 0, none⟩ (.slice L 1 lc)))
    have CW9 := hid (CW7.out.trans ((Chs.of_below B8.out).trans (Chs.setCell (S := fun i => i = bx ∨ i = bl) (a := ⟨bl, 0, none⟩) (Or.inr rfl) (.slice L 1 lc))))
    have C9 := hid (HC.out.trans CW9.out)
    have K9 := hid ((K5.out.keep B8.out).far (p := ⟨bl, 0, none⟩) (by simp; omega) (.slice L 1 lc))
    have T9 := hid (HT2.out.chs CW9.out (fun e => by rcases e with e | e <;> first | exact HBX.1 e.symm | exact HBX.2 e.symm))
    clear y2 f2 z2 CW7 C7 K5 T7 J7 J8 L8 B8
    generalize w8.setCell ⟨bl, 0, none⟩ (.slice L 1 lc) = V at *
    have HGZ := hid (growZero (w.heap.size + 2) bo bx bl bg L lc V.drew ⟨J9.out.ord.drew, J9.out.out.drew, J9.out.line.drew, J9.out.grow.drew⟩ (Sl.of_own L9.out).drew (T9.out.below (Below.refl _ V).drew) (by obtain ⟨r, hr⟩ := hr; have h1 := (Array.getElem?_eq_some_iff.1 hr).1; have h2 := HSZ.out; have h3 := CW9.out.size; show w.heap.size + 2 ≤ V.heap.size; omega) HBX.1)
    have v0 := J9.out.grow.cell 0
    have v1 := K9.out.cell 0
    simp only [List.getElem?_toArray, List.getElem?_cons_zero] at v0 v1
    have hshl : bits .andNot .i64 1 1 = 0 := by kernel_rfl
    refine wpIn_mono (Q := fun e a wy => e = .normal ∧ a = ({ tmps := #[.int .i64 1, .pointer (some ⟨bx, 0, none⟩), .pointer (some ⟨bl, 0, none⟩), .pointer (some ⟨bo, 0, none⟩), .pointer (some ⟨bg, 0, none⟩), .pointer (some ⟨w.heap.size, 0, none⟩), .int .i64 0, .int .i64 1, .bool false, undef, undef, undef, undef, undef, .int .i64 1, .func (.func 184) #[] #[.pointer (some ⟨w.heap.size + 1, 0, none⟩)], .int .i64 0, .agg #[.int .i64 1, .int .i64 0, .int .i64 0, .int .i64 0, .int .i64 0, .int .i64 0, .int .i64 0], .int .i64 0, .int .i64 0, .int .i64 1, .int .i64 0, .bool true, .slice none 0 0, .int .i64 0, .slice (some ⟨wx.heap.size, 0, none⟩) 1 1, .slice L 1 lc, .func (.func 194) #[] #[.pointer (some ⟨bx, 0, none⟩), .pointer (some ⟨bl, 0, none⟩), .pointer (some ⟨bo, 0, none⟩), .pointer (some ⟨bg, 0, none⟩)], .int .i64 1, .int .i64 0, .int .i64 1, .int .i64 0, .tuple #[], undef, undef, undef, undef, undef], defers := [] } : Act) ∧ OutS wy (w.heap.size + 2) bx ∧ Chs (· = bx) V wy) ?first7 ?rest7
    case first7 =>
     gi_region_with_o (first | (refine ⟨trivial, ?_⟩; gi_at_call 194; refine (CallsIn.inRound l (callsIn_wide.2 HGZ.out)).mono ?_; rintro e w9 ⟨rfl, O, oc, R, rc, q1, q2, q3, q4⟩; have Q1 := hid q1; have Q2 := hid q2; have Q3 := hid q3; have Q4 := hid q4; clear q1 q2 q3 q4) | (gi_at_call 194; refine (CallsIn.inRound l (callsIn_wide.2 HGZ.out)).mono ?_; rintro e w9 ⟨rfl, O, oc, R, rc, q1, q2, q3, q4⟩; have Q1 := hid q1; have Q2 := hid q2; have Q3 := hid q3; have Q4 := hid q4; clear q1 q2 q3 q4))
     all_goals exact ⟨rfl, rfl, ⟨O, oc, R, rc, Q1.out, Q2.out, Q3.out⟩, (Chs.of_below (Below.refl _ V).drew).trans Q4.out⟩
    case rest7 =>
     rintro e a wy ⟨rfl, rfl, hO, hCy⟩
     have hne : ¬ bl = bx := blk_neM J9.out.line J9.out.out (by decide)
     have Y2 := hid (hCy.blk J9.out.line hne)
     have HOO := hid hO
     have CY := hid (CW9.out.trans (hCy.mono fun i e => Or.inl e))
     have KY := hid (hCy.blk K9.out (blk_neM K9.out J9.out.out (by decide)))
     have TY := hid (T9.out.chs hCy (fun e => HBX.1 e.symm))
     have y2 := Y2.out.cell 0
     have f2 := Y2.out.free 0
     simp only [List.getElem?_toArray, List.getElem?_cons_zero] at y2
     have hlc := (Sl.of_own L9.out).cap
     clear hO hCy hshl v0 v1 HGZ hand0
     have hbx := HL.out.out.lt
     have CF := hid (CY.out.trans (Chs.setCell (S := fun i => i = bx ∨ i = bl) (a := ⟨bl, 0, none⟩) (Or.inr rfl) (.slice L 0 lc)))
     have KF := hid (KY.out.far (p := ⟨bl, 0, none⟩) (by simp; omega) (.slice L 0 lc))
     have OF := hid (HOO.out.far (p := ⟨bl, 0, none⟩) (fun e => hne e.symm) (by simp; omega) (.slice L 0 lc))
     have TF := hid (TY.out.grown (setGrown wy ⟨bl, 0, none⟩ (.slice L 0 lc)) (by simp; exact HBX.2))
     dsimp only
     gi_wp2
     have := HSZ.out
     obtain ⟨r, hr⟩ := hr
     have hlw := (Array.getElem?_eq_some_iff.1 hr).1
     exact ⟨⟨CF.out.size, fun k o hk ho _ => (CF.out.block k (lt_of_block ho) (by omega)).trans ho⟩, CF.out.block (w.heap.size + 1) (by omega) (by omega), ⟨OF.out, HC.out.trans CF.out⟩, KF.out, TF.out⟩
 · rintro D W hD ⟨⟨h1, h2⟩, h3, h4⟩ hK
   have h1 : OutS W (w.heap.size + 2) bx := h1
   have G0 := hid h1
   have GA := hid h2
   have GK := hid hK
   clear h1 h2 h3 h4 hK
   gi_wp2
   have := HSZ.out
   refine ⟨by simp, .inl ⟨_, _, rfl, run_takeDeferred GK.out, ?_⟩⟩
   have q1 := OutS.ownFrom (β := Unit) G.heap.size _ _ () _ _ (some D) G0.out (grownBy_putObj' W D (.deferred none)) (fun r e => by cases e; exact ⟨hD, _, GK.out, rfl⟩)
   have q2 := ownFrom_chs (β := Unit) (B := G.heap.size) (by omega) () _ _ (some D) GA.out (grownBy_putObj' W D (.deferred none)) (fun r e => by cases e; exact ⟨hD, _, GK.out, rfl⟩)
   exact ⟨_, results_none rfl _ _ _, rfl, q1.more (by omega), q2⟩
end Go.Proofs.YtciadmjdadnolaaGreatDoor
/- Walks of order's lines and Lines, and of roll, at one element. Condition: the library's table of 64 numbers stands in its variable. -/
namespace Go.Proofs.YtciadmjdadnolaaGreatDoor
open Go.RowKit Go.Shelf
set_option maxRecDepth 100000 in
set_option maxHeartbeats 4000000 in
theorem linesOne (w : World) (hT : Tab w) :
 Calls Tryz.prog 145 #[.agg ord1] w fun e w' => ∃ O oc R rc, e = .returned (.slice O 1 oc) ∧ w'.ownsRow w.heap.size 89 1 (.slice O 1 oc) 1 [.slice R 1 rc] ∧ w'.ownsRow w.heap.size 3 1 (.slice R 1 rc) 1 [.int .i64 0] ∧ Below w.heap.size w w' := by
 have he : ∀ args W, (callFunc 194 args).run Tryz.prog W = .ok (.enter 194 args) W := fun args W => enters Tryz.func194 (by kernel_rfl) rfl args W
 have HT := hid hT
 clear hT
 unfold ord1
 go_enter Tryz.func145, Tryz.ntmps145
 go_wp2_with fail
 have HLN := hid (show LnS ((((w.alloc (.cells #[.int .i64 1, .int .i64 0, .int .i64 0, .int .i64 0, .int .i64 0, .int .i64 0, .int .i64 0] 150)).alloc (.cells #[.slice none 0 0] 169)).alloc (.cells #[.slice none 0 0] 89)).alloc (.cells #[.func (.func 194) #[] #[.pointer (some ⟨w.heap.size + 1, 0, none⟩), .pointer (some ⟨w.heap.size + 1 + 1, 0, none⟩), .pointer (some ⟨w.heap.size, 0, none⟩), .pointer (some ⟨w.heap.size + 1 + 1 + 1, 0, none⟩)]] 280)) w.heap.size (w.heap.size + 1) (w.heap.size + 1 + 1) (w.heap.size + 1 + 1 + 1) (.slice none 0 0) (.slice none 0 0) from
  ⟨(((Blk.new w _ _).alloc _).alloc _).alloc _, ((Blk.new_at _ _ _ (by simp)).alloc _).alloc _, (Blk.new_at _ _ _ (by simp)).alloc _, Blk.new_at _ _ _ (by simp)⟩)
 have HLO := hid (show Below w.heap.size w ((((w.alloc (.cells #[.int .i64 1, .int .i64 0, .int .i64 0, .int .i64 0, .int .i64 0, .int .i64 0, .int .i64 0] 150)).alloc (.cells #[.slice none 0 0] 169)).alloc (.cells #[.slice none 0 0] 89)).alloc (.cells #[.func (.func 194) #[] #[.pointer (some ⟨w.heap.size + 1, 0, none⟩), .pointer (some ⟨w.heap.size + 1 + 1, 0, none⟩), .pointer (some ⟨w.heap.size, 0, none⟩), .pointer (some ⟨w.heap.size + 1 + 1 + 1, 0, none⟩)]] 280)) from ((((Below.refl _ w).alloc (Nat.le_refl _) _).alloc (by simp) _).alloc (by simp; omega) _).alloc (by simp; omega) _)
 generalize ((((w.alloc (.cells #[.int .i64 1, .int .i64 0, .int .i64 0, .int .i64 0, .int .i64 0, .int .i64 0, .int .i64 0] 150)).alloc (.cells #[.slice none 0 0] 169)).alloc (.cells #[.slice none 0 0] 89)).alloc (.cells #[.func (.func 194) #[] #[.pointer (some ⟨w.heap.size + 1, 0, none⟩), .pointer (some ⟨w.heap.size + 1 + 1, 0, none⟩), .pointer (some ⟨w.heap.size, 0, none⟩), .pointer (some ⟨w.heap.size + 1 + 1 + 1, 0, none⟩)]] 280)) = W at *
 have HP := hid HT.out.pos
 have HTW := hid (HT.out.below HLO.out)
 have z := HLN.out.grow.cell 0
 have o0 := HLN.out.ord.cell 0
 have o1 := HLN.out.ord.cell 1
 have o2 := HLN.out.ord.cell 2
 have o3 := HLN.out.ord.cell 3
 have o4 := HLN.out.ord.cell 4
 have o5 := HLN.out.ord.cell 5
 have o6 := HLN.out.ord.cell 6
 simp only [ord1, List.getElem?_toArray, List.getElem?_cons_zero, List.getElem?_cons_succ] at z o0 o1 o2 o3 o4 o5 o6
 have HAL := hid (allOne W.drew)
 unfold ord1 at HAL
 go_region_held3 (fun w' => w'.cell? ⟨w.heap.size + 1 + 1 + 1, 0, none⟩ = some (.func (.func 194) #[] #[.pointer (some ⟨w.heap.size + 1, 0, none⟩), .pointer (some ⟨w.heap.size + 1 + 1, 0, none⟩), .pointer (some ⟨w.heap.size, 0, none⟩), .pointer (some ⟨w.heap.size + 1 + 1 + 1, 0, none⟩)]) ∧ w'.cell? ⟨w.heap.size, 0, none⟩ = some (.int .i64 1) ∧ w'.cell? ⟨w.heap.size, 1, none⟩ = some (.int .i64 0) ∧ w'.cell? ⟨w.heap.size, 2, none⟩ = some (.int .i64 0) ∧ w'.cell? ⟨w.heap.size, 3, none⟩ = some (.int .i64 0) ∧ w'.cell? ⟨w.heap.size, 4, none⟩ = some (.int .i64 0) ∧ w'.cell? ⟨w.heap.size, 5, none⟩ = some (.int .i64 0) ∧ w'.cell? ⟨w.heap.size, 6, none⟩ = some (.int .i64 0)) (first | exact ⟨z, o0, o1, o2, o3, o4, o5, o6⟩ | exact HK.out | exact HK2.out) (first
  | (go_at_call 195; refine (HAL.out).mono ?_; rintro e w5 ⟨rfl, b5⟩; have B5 := hid b5; have HK : Hid (w5.cell? ⟨w.heap.size + 1 + 1 + 1, 0, none⟩ = some (.func (.func 194) #[] #[.pointer (some ⟨w.heap.size + 1, 0, none⟩), .pointer (some ⟨w.heap.size + 1 + 1, 0, none⟩), .pointer (some ⟨w.heap.size, 0, none⟩), .pointer (some ⟨w.heap.size + 1 + 1 + 1, 0, none⟩)]) ∧ w5.cell? ⟨w.heap.size, 0, none⟩ = some (.int .i64 1) ∧ w5.cell? ⟨w.heap.size, 1, none⟩ = some (.int .i64 0) ∧ w5.cell? ⟨w.heap.size, 2, none⟩ = some (.int .i64 0) ∧ w5.cell? ⟨w.heap.size, 3, none⟩ = some (.int .i64 0) ∧ w5.cell? ⟨w.heap.size, 4, none⟩ = some (.int .i64 0) ∧ w5.cell? ⟨w.heap.size, 5, none⟩ = some (.int .i64 0) ∧ w5.cell? ⟨w.heap.size, 6, none⟩ = some (.int .i64 0)) := hid (And.intro (cell_keep b5 z) (And.intro (cell_keep b5 o0) (And.intro (cell_keep b5 o1) (And.intro (cell_keep b5 o2) (And.intro (cell_keep b5 o3) (And.intro (cell_keep b5 o4) (And.intro (cell_keep b5 o5) (cell_keep b5 o6)))))))); clear b5)
  | (go_at_call 194; refine (growOne w.heap.size (w.heap.size + 1) (w.heap.size + 1 + 1) (w.heap.size + 1 + 1 + 1) w5 (HLN.out.keep ((Below.refl _ W).drew.trans B5.out)) (HTW.out.below ((Below.refl _ W).drew.trans B5.out)) (by have := HP.out; omega)).mono ?_; rintro e w6 ⟨rfl, hO, hC⟩; have HO := hid hO; have HC := hid hC; have KO := hid (hC.blk (HLN.out.keep ((Below.refl _ W).drew.trans B5.out)).ord (by omega)); have KG := hid (hC.blk (HLN.out.keep ((Below.refl _ W).drew.trans B5.out)).grow (by omega)); have HK2 : Hid (w6.cell? ⟨w.heap.size + 1 + 1 + 1, 0, none⟩ = some (.func (.func 194) #[] #[.pointer (some ⟨w.heap.size + 1, 0, none⟩), .pointer (some ⟨w.heap.size + 1 + 1, 0, none⟩), .pointer (some ⟨w.heap.size, 0, none⟩), .pointer (some ⟨w.heap.size + 1 + 1 + 1, 0, none⟩)]) ∧ w6.cell? ⟨w.heap.size, 0, none⟩ = some (.int .i64 1) ∧ w6.cell? ⟨w.heap.size, 1, none⟩ = some (.int .i64 0) ∧ w6.cell? ⟨w.heap.size, 2, none⟩ = some (.int .i64 0) ∧ w6.cell? ⟨w.heap.size, 3, none⟩ = some (.int .i64 0) ∧ w6.cell? ⟨w.heap.size, 4, none⟩ = some (.int .i64 0) ∧ w6.cell? ⟨w.heap.size, 5, none⟩ = some (.int .i64 0) ∧ w6.cell? ⟨w.heap.size, 6, none⟩ = some (.int .i64 0)) := hid ⟨KG.out.cell 0, KO.out.cell 0, KO.out.cell 1, KO.out.cell 2, KO.out.cell 3, KO.out.cell 4, KO.out.cell 5, KO.out.cell 6⟩; clear hO hC))
 obtain ⟨O, oc, R, rc, h1, h2, h3⟩ := HO.out
 have x0 := h1.cell 0
 simp only [List.getElem?_toArray, List.getElem?_cons_zero] at x0
 have hlow := HC.out.below (HLO.out.drew.trans (B5.out.mono HLO.out.size)) (Nat.le_trans HLO.out.size B5.out.size) (fun i e => by omega)
 have HLW := hid hlow
 have H2 := hid h2
 have H3 := hid h3
 have H5S := hid (show w.heap.size ≤ w5.heap.size from Nat.le_trans HLO.out.size B5.out.size)
 clear hlow h1 h2 h3
 go_wp2
 go_ret
 exact ⟨O, oc, R, rc, rfl, own_more H2.out H5S.out, own_more H3.out H5S.out, HLW.out⟩
end Go.Proofs.YtciadmjdadnolaaGreatDoor
/- Walk of medal at the first state of a call's own. Condition: the line's name reads as one name. -/
namespace Go.Proofs.YtciadmjdadnolaaGreatDoor
open Go.RowKit Go.Maps
/-- The cells of a state with medals, what is above them, and nothing else. -/
def stC (m a : Value) : Array Value := #[m, a, .slice none 0 0, .slice none 0 0, .int .i64 0, .int .i64 0, .int .i64 0, .int .i64 1, .bool true, .slice none 0 0]
set_option maxRecDepth 100000 in
set_option maxHeartbeats 4000000 in
theorem medalF (nb : Nat) (A : Option Addr) (c : Nat) (s : ByteArray) (w : World) (h : Blk w nb 102 (stC (.slice none 0 0) (.slice none 0 0))) (hs : Sl w A 1 c [.string s]) (hnb : ∀ b o, A = some ⟨b, o, none⟩ → ¬ b = nb) :
 Calls Tryz.prog 44 #[.pointer (some ⟨nb, 0, none⟩), .agg #[.slice A 1 c, .slice none 0 0]] w fun e w' => e = .returned (.int .i64 0) ∧ ∃ M mc U uc, Blk w' nb 102 (stC (.slice M 1 mc) (.slice U 1 uc)) ∧ w'.ownsRow w.heap.size 9 1 (.slice M 1 mc) 1 [.string s] ∧ w'.ownsRow w.heap.size 3 1 (.slice U 1 uc) 1 [.int .i64 0] ∧ Chs (· = nb) w w' := by
 obtain ⟨b, o, u, rfl, lb, e1, ca⟩ := hs.at (k := 0) (by omega)
 simp only [List.getElem?_cons_zero, Option.some.injEq, Nat.add_zero] at e1 ca
 subst e1
 have HNB := hnb _ _ rfl
 have HE := hid fun W => enterYes W.heap.size none 0 0 [] s 6 W (Nat.le_refl _) (World.ownsRow_nil _ _ _ _) (by simp) (by omega) (by omega)
 have c0 := h.cell 0
 simp only [stC, List.getElem?_toArray, List.getElem?_cons_zero] at c0
 have HB := hid h
 have HLB := hid lb
 clear h hs hnb
 have HB1 := hid (HB.out.alloc (.cells #[.slice (some ⟨b, o, none⟩) 1 c, .slice none 0 0] 91))
 have k0 := (Blk.new w 91 #[.slice (some ⟨b, o, none⟩) 1 c, .slice none 0 0]).cell 0
 simp only [List.getElem?_toArray, List.getElem?_cons_zero] at k0
 go_enter Tryz.func44, Tryz.ntmps44
 go_wp2_with fail
 have n0 := HB1.out.cell 0
 simp only [stC, List.getElem?_toArray, List.getElem?_cons_zero] at n0
 have ca1 : (w.alloc (.cells #[.slice (some ⟨b, o, none⟩) 1 c, .slice none 0 0] 91)).cell? ⟨b, o, none⟩ = some (.string s) := cell_keep ((Below.refl _ w).alloc (Nat.le_refl _) _) ca
 have BW := hid ((Below.refl w.heap.size w).alloc (Nat.le_refl _) (.cells #[.slice (some ⟨b, o, none⟩) 1 c, .slice none 0 0] 91))
 have WLT := hid (show w.heap.size < (w.alloc (.cells #[.slice (some ⟨b, o, none⟩) 1 c, .slice none 0 0] 91)).heap.size from by simp)
 have NW := hid (show ¬ w.heap.size = nb from by have := HB.out.lt; omega)
 have NB := hid (show ¬ b = nb from HNB)
 clear c0 ca
 generalize w.alloc (.cells #[.slice (some ⟨b, o, none⟩) 1 c, .slice none 0 0] 91) = W at *
 go_cut [4] from 5 to 19 (fun t wx => t = .int .i64 0 ∧ ∃ M mc, Hid (Blk wx nb 102 (stC (.slice M 1 mc) (.slice none 0 0))) ∧ Hid (wx.ownsRow W.heap.size 9 1 (.slice M 1 mc) 1 [.string s]) ∧ Hid (Chs (· = nb) W wx))
 case first =>
  refine wp_region_held_drew (S := (fun w' => w'.cell? ⟨w.heap.size, 0, none⟩ = some (.slice (some ⟨b, o, none⟩) 1 c) ∧ w'.cell? ⟨b, o, none⟩ = some (.string s))) (by kernel_rfl) (by (try dsimp only); (first | exact ⟨k0, ca1⟩ | exact HK.out | exact HK2.out)) (fun hHeld => ?_)
  refine tk (v := ?_) 0 (some 6) rfl rfl (by rfl) ?_ (by assumption) ?_; rotate_left; · (intro w hSw; (try dsimp only at hSw); first | (go_simp; done) | (go_simp; with_reducible rfl))
  try simp only [Act.put, pA0, pA1, pA2]
  refine tk (v := ?_) 1 (some 7) rfl rfl (by rfl) ?_ (by assumption) ?_; rotate_left; · (intro w hSw; (try dsimp only at hSw); first | (go_simp; done) | (go_simp; with_reducible rfl))
  try simp only [Act.put, pA0, pA1, pA2]
  refine tk (v := ?_) 2 (some 8) rfl rfl (by rfl) ?_ (by assumption) ?_; rotate_left; · (intro w hSw; (try dsimp only at hSw); first | (go_simp; done) | (go_simp; with_reducible rfl))
  try simp only [Act.put, pA0, pA1, pA2]
  refine tk (v := ?_) 3 (some 9) rfl rfl (by rfl) ?_ (by assumption) ?_; rotate_left; · (intro w hSw; (try dsimp only at hSw); first | (go_simp; done) | (go_simp; with_reducible rfl))
  try simp only [Act.put, pA0, pA1, pA2]
  refine tk (v := ?_) 5 (some 11) rfl rfl (by rfl) ?_ (by assumption) ?_; rotate_left; · (intro w hSw; (try dsimp only at hSw); first | (go_simp; done) | (go_simp; with_reducible rfl))
  try simp only [Act.put, pA0, pA1, pA2]
  refine tk (v := ?_) 6 (some 12) rfl rfl (by rfl) ?_ (by assumption) ?_; rotate_left; · (intro w hSw; (try dsimp only at hSw); first | (go_simp; done) | (go_simp; with_reducible rfl))
  try simp only [Act.put, pA0, pA1, pA2]
  refine tk (v := ?_) 7 (some 13) rfl rfl (by rfl) ?_ (by assumption) ?_; rotate_left; · (intro w hSw; (try dsimp only at hSw); first | (go_simp; done) | (go_simp; with_reducible rfl))
  try simp only [Act.put, pA0, pA1, pA2]
  refine tk (v := ?_) 8 (some 14) rfl rfl (by rfl) ?_ (by assumption) ?_; rotate_left; · (intro w hSw; (try dsimp only at hSw); first | (go_simp; done) | (go_simp; with_reducible rfl))
  try simp only [Act.put, pA0, pA1, pA2]
  refine wpAnyH_ready (rs := [4]) (by kernel_rfl) (by simp) ?_
  refine AllReadyH.cons rfl (fun K hK => ?_) AllReadyH.nil
  go_simp
  clear n0
  refine hK.out _ _ ?_ (fun hHeld => ?_); · ((try dsimp only); (first | exact ⟨k0, ca1⟩ | exact HK.out | exact HK2.out))
  clear hK K
  try simp only [Act.put, pA0, pA1, pA2]
  refine wpAnyH_ready (rs := [9]) (by kernel_rfl) (by simp) ?_
  refine AllReadyH.cons rfl (fun K hK => ?_) AllReadyH.nil
  go_simp
  refine (HE.out _).mono ?_; rintro e w5 ⟨⟨M, mc, rfl, hown⟩, hg⟩
  have J5 := hid ((HB1.out.drew.alloc (.cells #[.string s] 9)).grown hg (by simp [Value.ownBlock]))
  have B5 := hid ((((Below.refl W.heap.size W).drew).alloc (Nat.le_refl _) (.cells #[.string s] 9)).grown hg (by simp) (fun k hk => by simp [Value.ownBlock] at hk))
  have O5 := hid hown
  have HK : Hid (w5.cell? ⟨w.heap.size, 0, none⟩ = some (.slice (some ⟨b, o, none⟩) 1 c) ∧ w5.cell? ⟨b, o, none⟩ = some (.string s)) := hid (And.intro (cell_keep B5.out k0) (cell_keep B5.out ca1))
  clear hown hg k0 ca1
  have m0 := J5.out.cell 0
  have f0 := J5.out.free 0
  simp only [stC, List.getElem?_toArray, List.getElem?_cons_zero] at m0
  refine hK.out _ _ ?_ (fun hHeld => ?_); · ((try dsimp only); (first | exact ⟨k0, ca1⟩ | exact HK.out | exact HK2.out))
  clear hK K
  try simp only [Act.put, pA0, pA1, pA2]
  refine tk (v := ?_) 10 (some 5) rfl rfl (by rfl) ?_ (by assumption) ?_; rotate_left; · (intro w hSw; (try dsimp only at hSw); first | (go_simp; done) | (go_simp; with_reducible rfl))
  try simp only [Act.put, pA0, pA1, pA2]
  refine tk (v := ?_) 11 (some 16) rfl rfl (by rfl) ?_ (by assumption) ?_; rotate_left; · (intro w hSw; (try dsimp only at hSw); first | (go_simp; done) | (go_simp; with_reducible rfl))
  try simp only [Act.put, pA0, pA1, pA2]
  refine tk (v := ?_) 12 (some 17) rfl rfl (by rfl) ?_ (by assumption) ?_; rotate_left; · (intro w hSw; (try dsimp only at hSw); first | (go_simp; done) | (go_simp; with_reducible rfl))
  try simp only [Act.put, pA0, pA1, pA2]
  refine tk (v := ?_) 13 (some 18) rfl rfl (by rfl) ?_ (by assumption) ?_; rotate_left; · (intro w hSw; (try dsimp only at hSw); first | (go_simp; done) | (go_simp; with_reducible rfl))
  try simp only [Act.put, pA0, pA1, pA2]
  refine tk (v := ?_) 14 (some 19) rfl rfl (by rfl) ?_ (by assumption) ?_; rotate_left; · (intro w hSw; (try dsimp only at hSw); first | (go_simp; done) | (go_simp; with_reducible rfl))
  try simp only [Act.put, pA0, pA1, pA2]
  refine wpAnyH_ready (rs := [15]) (by kernel_rfl) (by simp) ?_
  refine AllReadyH.cons rfl (fun K hK => ?_) AllReadyH.nil
  go_simp
  have J6 := hid (J5.out.set 0 (.slice M 1 mc))
  have O6 := hid (own_grown O5.out J5.out (by decide) (setGrown w5 ⟨nb, 0, none⟩ (.slice M 1 mc)))
  have C6 := hid (show Chs (· = nb) W w5 from Chs.of_below B5.out)
  have C7 := hid (C6.out.trans (Chs.setCell (S := (· = nb)) (a := ⟨nb, 0, none⟩) rfl (.slice M 1 mc)))
  have HK2 : Hid ((w5.setCell ⟨nb, 0, none⟩ (.slice M 1 mc)).cell? ⟨w.heap.size, 0, none⟩ = some (.slice (some ⟨b, o, none⟩) 1 c) ∧ (w5.setCell ⟨nb, 0, none⟩ (.slice M 1 mc)).cell? ⟨b, o, none⟩ = some (.string s)) := hid (And.intro (cell_far _ NW.out HK.out.1) (cell_far _ NB.out HK.out.2))
  clear m0 f0 HK
  refine hK.out _ _ ?_ (fun hHeld => ?_); · ((try dsimp only); (first | exact ⟨k0, ca1⟩ | exact HK.out | exact HK2.out))
  clear hK K
  try simp only [Act.put, pA0, pA1, pA2]
  refine tk (v := ?_) 16 (some 4) rfl rfl (by rfl) ?_ (by assumption) ?_; rotate_left; · (intro w hSw; (try dsimp only at hSw); first | (go_simp; done) | (go_simp; with_reducible rfl))
  try simp only [Act.put, pA0, pA1, pA2]
  refine wpAnyH_done (by kernel_rfl) ?_ _
  go_wp2_with fail
  go_meet
  case rel => exact ⟨rfl, M, mc, J6, O6, C7⟩
 case rest =>
  obtain ⟨rfl, M, mc, HJ, HO, HC⟩ := hcut
  have d1 := HJ.out.cell 1
  simp only [stC, List.getElem?_toArray, List.getElem?_cons_zero, List.getElem?_cons_succ] at d1
  go_wp2_with (at_builtin; refine push1P TI27 wc #[.int .i64 0] wc.heap.size 0 (.slice none 0 0) [] (World.ownsRow_nil _ _ _ _) _ _ wc.heap.size rfl rfl rfl rfl rfl rfl (by simp [Value.oneCell']) (by omega) (by omega) (Nat.le_refl _) ?_; intro v1 w8 hown1 hgr; obtain ⟨U, uc, rfl⟩ := own_form hown1; have HJ8 := hid ((HJ.out.alloc (.cells #[.int .i64 0] 3)).grown hgr (by simp [Value.ownBlock])); have HL8 := hid (((Below.refl wc.heap.size wc).alloc (Nat.le_refl _) (.cells #[.int .i64 0] 3)).grown hgr (by simp) (fun k hk => by simp [Value.ownBlock] at hk)); have HU8 := hid hown1; have e1 := HJ8.out.cell 1; have g1 := HJ8.out.free 1; simp only [stC, List.getElem?_toArray, List.getElem?_cons_zero, List.getElem?_cons_succ] at e1; clear hown1 hgr d1)
  go_ret
  have hJ := HJ8.out.set 1 (.slice U 1 uc)
  have hM := own_grown (own_below HO.out HL8.out) HJ8.out (by decide) (setGrown w8 ⟨nb, 1, none⟩ (.slice U 1 uc))
  have hU := own_grown HU8.out HJ8.out (by decide) (setGrown w8 ⟨nb, 1, none⟩ (.slice U 1 uc))
  have hC := ((Chs.of_below (S := (· = nb)) BW.out).trans HC.out).trans ((Chs.of_below (S := (· = nb)) HL8.out).trans (Chs.setCell (S := (· = nb)) (a := ⟨nb, 1, none⟩) rfl (.slice U 1 uc)))
  exact ⟨rfl, M, mc, U, uc, hJ, own_more hM BW.out.size, own_more hU (Nat.le_trans BW.out.size HC.out.size), hC⟩
end Go.Proofs.YtciadmjdadnolaaGreatDoor
/- Walk of do at the first state and the line 'medal gold'. Condition: the library's MaxLen stands in its variable. -/
namespace Go.Proofs.YtciadmjdadnolaaGreatDoor
open Go.RowKit Go.Maps
abbrev sMG : ByteArray := ⟨#[109, 101, 100, 97, 108, 32, 103, 111, 108, 100]⟩
abbrev sMedal : ByteArray := ⟨#[109, 101, 100, 97, 108]⟩
abbrev sGold : ByteArray := ⟨#[103, 111, 108, 100]⟩
abbrev sRoll : ByteArray := ⟨#[114, 111, 108, 108]⟩
theorem parts_MG : Parts sMG [sMedal, sGold] := parts_of (by decide) (by kernel_rfl) (by kernel_rfl)
theorem parts_R : Parts sRoll [sRoll] := parts_of (by decide) (by kernel_rfl) (by kernel_rfl)
theorem word_MG : Word sMG sMedal := word_of (by decide) (by kernel_rfl)
theorem word_R : Word sRoll sRoll := word_of (by decide) (by kernel_rfl)
theorem nm_gold : IsNm sGold := ⟨fun i h => by
 have h : i < 4 := h
 rcases (show i = 0 ∨ i = 1 ∨ i = 2 ∨ i = 3 by omega) with rfl | rfl | rfl | rfl <;> rfl, by decide, by decide⟩
theorem no_empty {l : List ByteArray} (h : (l.all fun x => decide (0 < x.size)) = true) : ByteArray.empty ∉ l := fun hm => by
 have := List.all_eq_true.1 h _ hm
 simp at this
theorem no_odd {s : ByteArray} (h : (s.data.toList.all fun b => !odd8 b) = true) : ∀ b ∈ s.data.toList, odd8 b = false := fun b hb => by
 have := List.all_eq_true.1 h b hb
 simpa using this
theorem line_MG (w : World) (hm : MaxL w) : Calls Tryz.prog 43 #[.string sMG] w fun e w' => e = .returned (.bool true) ∧ Below w.heap.size w w' := lineF sMG [sMedal, sGold] parts_MG (no_empty (by kernel_rfl)) (no_odd (by kernel_rfl)) (by decide) (by decide) w hm
theorem line_R (w : World) (hm : MaxL w) : Calls Tryz.prog 43 #[.string sRoll] w fun e w' => e = .returned (.bool true) ∧ Below w.heap.size w w' := lineF sRoll [sRoll] parts_R (no_empty (by kernel_rfl)) (no_odd (by kernel_rfl)) (by decide) (by decide) w hm
theorem read_MG (f1 f2 : Value) : ReadSays (.int .i64 1) (.int .i64 0) f1 f2 sMG 1 [.string sGold] := fun w hm => readNames 1 f1 f2 sMG sMedal [sGold] parts_MG rfl (fun x hx => by simp at hx; subst hx; exact nm_gold) (by decide) (by decide) w hm
theorem read_R (f1 f2 : Value) : ReadSays (.int .i64 0) (.int .i64 0) f1 f2 sRoll 0 [] := fun w hm => (readBare f1 f2 sRoll sRoll parts_R w hm).mono fun _ _ ⟨h1, h2⟩ => ⟨none, 0, h1, World.ownsRow_nil _ _ _ _, h2⟩
theorem key_str (s : ByteArray) (h : s.size ≤ 1000) : ∃ kl, keyOf Tryz.prog 9 (.string s) = some kl := ⟨_, Go.WideMaps.keyOf_string_mk Tryz.underlying9 (by unfold maxLen; omega)⟩
/-- A state of one medal, gold. -/
structure StG (W : World) (nb B : Nat) (M : Option Addr) (mc : Nat) (U : Option Addr) (uc : Nat) : Prop where
 blk : Blk W nb 102 (stC (.slice M 1 mc) (.slice U 1 uc))
 med : W.ownsRow B 9 1 (.slice M 1 mc) 1 [.string sGold]
 abv : W.ownsRow B 3 1 (.slice U 1 uc) 1 [.int .i64 0]
 low : B ≤ nb
theorem StG.keep {W W' : World} {nb B : Nat} {M : Option Addr} {mc : Nat} {U : Option Addr} {uc : Nat} (h : StG W nb B M mc U uc) (hb : Below W.heap.size W W') : StG W' nb B M mc U uc := ⟨h.blk.keep hb, own_below h.med hb, own_below h.abv hb, h.low⟩
set_option maxRecDepth 100000 in
set_option maxHeartbeats 4000000 in
theorem doMG (sb : Nat) (w : World) (hm : MaxL w) (h : Blk w sb 102 begC) :
 Calls Tryz.prog 21 #[.pointer (some ⟨sb, 0, none⟩), .string sMG] w fun e w' => ∃ nb M mc U uc, e = .returned (.tuple #[.pointer (some ⟨nb, 0, none⟩), .int .i64 0]) ∧ StG w' nb w.heap.size M mc U uc ∧ Below w.heap.size w w' := by
 have HC := hid (changesF w)
 have HM := hid hm
 have HS := hid h
 have he : ∀ args W, (callFunc 44 args).run Tryz.prog W = .ok (.enter 44 args) W := fun args W => enters Tryz.func44 (by kernel_rfl) rfl args W
 clear hm h
 go_enter Tryz.func21, Tryz.ntmps21
 go_wp2_with fail
 refine (HC.out).mono ?_; rintro e w1 ⟨bm, rfl, hmap, hb, b1⟩
 have HB1 := hid b1
 have HF := hid (findDo bm (asS changesL) sMG sMedal 1 0 44 1 [.string sGold] w1 (HM.out.keep b1) hmap word_MG (by kernel_rfl) (key_str _ (by decide)) (read_MG _ _) line_MG)
 clear hmap hb b1 HC
 go_wp2_with fail
 refine (HF.out).mono ?_; rintro e w2 ⟨A, c, rfl, ho, b2⟩
 have HO := hid ho
 have HB2 := hid (below_call HB1.out b2 HB1.out.size)
 clear ho b2 HF
 go_wp2_with fail
 have HR0 := hid ((Blk.new w2 88 #[.int .i64 1, .int .i64 0, .func (.func 44) #[] #[], .nilFunc]).alloc (.cells #[.slice A 1 c, .slice none 0 0] 91))
 have HL0 := hid (Blk.new_at (w2.alloc (.cells #[.int .i64 1, .int .i64 0, .func (.func 44) #[] #[], .nilFunc] 88)) 91 #[.slice A 1 c, .slice none 0 0] (n := w2.heap.size + 1) (by simp))
 have b3 := (HB2.out.alloc HB2.out.size (.cells #[.int .i64 1, .int .i64 0, .func (.func 44) #[] #[], .nilFunc] 88)).alloc (by have := HB2.out.size; simp; omega) (.cells #[.slice A 1 c, .slice none 0 0] 91)
 have HB3 := hid b3
 have HO3 := hid ((HO.out.alloc (.cells #[.int .i64 1, .int .i64 0, .func (.func 44) #[] #[], .nilFunc] 88)).alloc (.cells #[.slice A 1 c, .slice none 0 0] 91))
 clear HO b3
 generalize hW3 : ((w2.alloc (.cells #[.int .i64 1, .int .i64 0, .func (.func 44) #[] #[], .nilFunc] 88)).alloc (.cells #[.slice A 1 c, .slice none 0 0] 91)) = W3 at *
 clear hW3
 have HCL := hid (cloneBeg sb W3 (HS.out.keep HB3.out))
 refine (HCL.out).mono ?_; rintro e w4 ⟨nb, rfl, hnb, hsz, b4⟩
 have HN4 := hid hnb
 have HSZ := hid hsz
 have HB4 := hid (below_call HB3.out b4 HB3.out.size)
 have HO4 := hid (own_below HO3.out b4)
 have HA := hid (show ∀ b o, A = some ⟨b, o, none⟩ → ¬ b = nb from fun b o e hbn => by
  have := (HO3.out.lt b (by rw [e]; rfl)).2
  omega)
 have r2 := (HR0.out.keep b4).cell 2
 have l0 := (HL0.out.keep b4).cell 0
 have l1 := (HL0.out.keep b4).cell 1
 simp only [List.getElem?_toArray, List.getElem?_cons_zero, List.getElem?_cons_succ] at r2 l0 l1
 have HMD := hid (medalF nb A c sGold w4 hnb (Sl.of_own HO4.out) HA.out)
 clear hnb hsz b4 HCL
 go_wp2_with fail
 refine (HMD.out).mono ?_; rintro e w5 ⟨rfl, M, mc, U, uc, hb5, hm5, hu5, hc5⟩
 have HX := hid (show StG w5 nb w.heap.size M mc U uc from ⟨hb5, own_more hm5 HB4.out.size, own_more hu5 HB4.out.size, Nat.le_trans HB3.out.size HSZ.out⟩)
 have HB5 := hid (hc5.below HB4.out HB4.out.size (fun i e => by rw [e]; exact Nat.le_trans HB3.out.size HSZ.out))
 clear hb5 hm5 hu5 hc5 r2 l0 l1
 go_wp2
 go_ret2
 exact ⟨nb, M, mc, U, uc, rfl, HX.out, HB5.out⟩
end Go.Proofs.YtciadmjdadnolaaGreatDoor
