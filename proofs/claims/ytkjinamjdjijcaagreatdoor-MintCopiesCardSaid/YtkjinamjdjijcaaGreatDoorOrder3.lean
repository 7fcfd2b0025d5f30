/- Walk of lines' closure at one element. Condition: the library's table of 64 numbers stands in its variable. -/
import Derived.Test.YtkjinamjdjijcaaGreatDoorOrder2
namespace Go.Proofs.YtkjinamjdjijcaaGreatDoor
open Go.RowKit Go.Shelf
attribute [local go_sem] Oper.semAt_some

theorem elems_one : Elems 1 [0] := ⟨by decide, by decide, by decide, by show (1 &&& (1 - 1) : Nat) = 0; decide⟩
theorem OwnFrom.ite {B : Nat} {I J : World → Prop} (h : OwnFrom B (fun (_ : Unit) W => I W)) (k : OwnFrom B (fun (_ : Unit) W => J W)) : OwnFrom B (fun (i : Nat) W => if i = 0 then I W else J W) := fun s X Y row hs hg hr => by
  by_cases e : s = 0
  · simp only [if_pos e] at hs ⊢
    exact h () X Y row hs hg hr
  · simp only [if_neg e] at hs ⊢
    exact k () X Y row hs hg hr
theorem LnS.ownFrom {β : Type} (B bo bx bl bg : Nat) (x l : Value) : OwnFrom B (fun (_ : β) W => LnS W bo bx bl bg x l) := fun s X Y row hs hg hr =>
  ⟨ownFrom_blk B _ _ _ s X Y row hs.ord hg hr, ownFrom_blk B _ _ _ s X Y row hs.out hg hr, ownFrom_blk B _ _ _ s X Y row hs.line hg hr, ownFrom_blk B _ _ _ s X Y row hs.grow hg hr⟩
theorem LnS.far {W : World} {bo bx bl bg : Nat} {x l : Value} (h : LnS W bo bx bl bg x l) {p : Addr} (hp : W.heap.size ≤ p.block ∨ (bo ≠ p.block ∧ bx ≠ p.block ∧ bl ≠ p.block ∧ bg ≠ p.block)) (u : Value) : LnS (W.setCell p u) bo bx bl bg x l := by
  have := h.ord.lt; have := h.out.lt; have := h.line.lt; have := h.grow.lt
  exact ⟨h.ord.far (by omega) u, h.out.far (by omega) u, h.line.far (by omega) u, h.grow.far (by omega) u⟩
/-- What came out: one line of one element. -/
def OutS (W : World) (B bx : Nat) : Prop := ∃ O oc R rc, Blk W bx 151 #[.slice O 1 oc] ∧ W.ownsRow B 98 1 (.slice O 1 oc) 1 [.slice R 1 rc] ∧ W.ownsRow B 3 1 (.slice R 1 rc) 1 [.int .i64 0]
theorem OutS.ownFrom {β : Type} (C B bx : Nat) : OwnFrom C (fun (_ : β) W => OutS W B bx) := fun s X Y row hs hg hr => by
  obtain ⟨O, oc, R, rc, h1, h2, h3⟩ := hs
  exact ⟨O, oc, R, rc, ownFrom_blk C _ _ _ s X Y row h1 hg hr, ownFrom_own C _ _ _ _ _ _ s X Y row h2 hg hr, ownFrom_own C _ _ _ _ _ _ s X Y row h3 hg hr⟩
theorem OutS.more {W : World} {B B' bx : Nat} (h : OutS W B bx) (hb : B' ≤ B) : OutS W B' bx := by
  obtain ⟨O, oc, R, rc, h1, h2, h3⟩ := h
  exact ⟨O, oc, R, rc, h1, own_more h2 hb, own_more h3 hb⟩
theorem OutS.far {W : World} {B bx : Nat} (h : OutS W B bx) {p : Addr} (h1 : bx ≠ p.block) (h2 : p.block < B) (u : Value) : OutS (W.setCell p u) B bx := by
  obtain ⟨O, oc, R, rc, k1, k2, k3⟩ := h
  refine ⟨O, oc, R, rc, k1.far h1 u, k2.kept (setGrown W p u) ?_, k3.kept (setGrown W p u) ?_⟩
  · cases hv : (Value.slice O 1 oc).ownBlock with
    | none => exact .inl rfl
    | some g => exact .inr fun e => by cases e; have := (k2.lt _ hv).1; omega
  · cases hv : (Value.slice R 1 rc).ownBlock with
    | none => exact .inl rfl
    | some g => exact .inr fun e => by cases e; have := (k3.lt _ hv).1; omega
set_option maxRecDepth 100000 in
set_option maxHeartbeats 4000000 in
theorem growOne (bo bx bl bg : Nat) (w : World) (h : LnS w bo bx bl bg (.slice none 0 0) (.slice none 0 0)) (hT : Tab w) (HBX : ¬ bx = 3 ∧ ¬ bl = 3) :
    Calls Tryz.prog 182 #[.int .i64 1, .pointer (some ⟨bx, 0, none⟩), .pointer (some ⟨bl, 0, none⟩), .pointer (some ⟨bo, 0, none⟩), .pointer (some ⟨bg, 0, none⟩)] w fun e w' => e = .returned (.tuple #[]) ∧
      OutS w' w.heap.size bx ∧ Chs (fun i => i = bx ∨ i = bl) w w' := by
  refine (callsIn_wide (n := 19)).1 ?_
  refine callsIn_of_wp_marks Tryz.func182 rfl trivial ?_ rfl
  simp only [Tryz.ntmps182, List.size_toArray, List.length_cons, List.length_nil, Nat.reduceAdd, Nat.reduceSub, Array.replicate_succ, Array.replicate_zero, List.push_toArray, List.append_toArray, List.nil_append, List.cons_append]
  have HT := hid hT
  have HL := hid h
  have k0 := (Blk.new w 3 #[.int .i64 1]).cell 0
  simp only [List.getElem?_toArray, List.getElem?_cons_zero] at k0
  clear h hT
  gi_wp2
  refine ⟨trivial, (callsIn_wide.2 (elementsF 1 _)).mono ?_⟩
  rintro e w' ⟨rfl, rfl⟩
  have hb : Below w.heap.size w ((w.alloc (.cells #[.int .i64 1] 3)).alloc (.cells #[.int .i64 1] 3)) := ((Below.refl _ w).alloc (Nat.le_refl _) _).alloc (by simp) _
  have HB := hid hb
  have GL := hid (HL.out.keep hb)
  have GT := hid (HT.out.below hb)
  have G5 := hid ((Blk.new w 3 #[.int .i64 1]).alloc (.cells #[.int .i64 1] 3))
  have GC := hid (Blk.new_at (w.alloc (.cells #[.int .i64 1] 3)) 3 #[.int .i64 1] (n := w.heap.size + 1) (by simp))
  have HSZ := hid (show ((w.alloc (.cells #[.int .i64 1] 3)).alloc (.cells #[.int .i64 1] 3)).heap.size = w.heap.size + 2 from by simp)
  have HP := hid HT.out.pos
  clear hb k0
  gi_wp2
  generalize ((w.alloc (.cells #[.int .i64 1] 3)).alloc (.cells #[.int .i64 1] 3)) = G at *
  refine wp_range (n := 19) (gf := 225) (c := w.heap.size + 1) (t := 3) (xs := [0]) rfl (fun args w => enters Tryz.func225 (by kernel_rfl) rfl args w) GC.out (elems_iter 18 _ 1 [0] G elems_one GC.out) rfl
    (fun k W => ((if k = 0 then LnS W bo bx bl bg (.slice none 0 0) (.slice none 0 0) else OutS W (w.heap.size + 2) bx) ∧ Chs (fun i => i = bx ∨ i = bl) w W) ∧ Blk W w.heap.size 3 #[.int .i64 1] ∧ Tab W)
    (fun _ _ => False) ?_ (fun _ _ _ _ _ hs _ _ => hs) ?_ (fun _ _ h => h.2.2) ⟨⟨by simpa using GL.out, Chs.of_below HB.out⟩, G5.out, GT.out⟩ ?_ ?_ (fun _ _ _ _ h _ => h.elim)
  · have := HSZ.out
    have := HP.out
    exact OwnFrom.and (OwnFrom.and (OwnFrom.ite (LnS.ownFrom _ _ _ _ _ _ _) (OutS.ownFrom _ _ _)) (ownFrom_chs (by omega))) (OwnFrom.and (ownFrom_blk _ _ _ _) (ownFrom_tab (by omega)))
  · rintro k W v ⟨⟨h1, h2⟩, h3, h4⟩
    have := HP.out
    have g1 := HL.out.ord.lt
    have g2 := HL.out.out.lt
    have g3 := HL.out.line.lt
    have g4 := HL.out.grow.lt
    refine ⟨⟨?_, h2.trans2 (p := ⟨w.heap.size + 1, 0, none⟩) (by simp) v⟩, h3.far (p := ⟨w.heap.size + 1, 0, none⟩) (by simp) v, h4.grown (setGrown W ⟨w.heap.size + 1, 0, none⟩ v) (by simp; omega)⟩
    by_cases e : k = 0
    · simp only [if_pos e] at h1 ⊢
      exact h1.far (p := ⟨w.heap.size + 1, 0, none⟩) (Or.inr (by simp; omega)) v
    · simp only [if_neg e] at h1 ⊢
      exact h1.far (p := ⟨w.heap.size + 1, 0, none⟩) (by simp; omega) (by simp) v
  · intro l k x W W2 hl hr hI hx hv
    have hk : k = 0 := by
      have := (List.getElem?_eq_some_iff.1 hx).1
      simp at this
      exact this
    subst hk
    have hx0 : x = 0 := by simpa using hx.symm
    subst hx0
    simp only [if_true] at hI
    obtain ⟨⟨hL, hC⟩, h5, hT2⟩ := hI
    gi_wp2
    refine ⟨trivial, ?_⟩
    gi_wp2
    have o0 := hL.ord.cell 0
    have o1 := hL.ord.cell 1
    have o2 := hL.ord.cell 2
    have o3 := hL.ord.cell 3
    have o4 := hL.ord.cell 4
    have o5 := hL.ord.cell 5
    have o6 := hL.ord.cell 6
    have k5 := h5.cell 0
    simp only [ord1, List.getElem?_toArray, List.getElem?_cons_zero, List.getElem?_cons_succ] at o0 o1 o2 o3 o4 o5 o6 k5
    have HLL := hid hL
    have HC := hid hC
    have H5 := hid h5
    have HT2 := hid hT2
    have HMX : Tryz.prog.follows .mixedOrders = true := by kernel_rfl
    clear hL hC h5 hT2 hx hv
    have hand0 : bits .and .i64 0 1 = 0 := by kernel_rfl
    refine wpIn_mono (Q := fun e a wx => e = .normal ∧ a = ({ tmps := #[.int .i64 1, .pointer (some ⟨bx, 0, none⟩), .pointer (some ⟨bl, 0, none⟩), .pointer (some ⟨bo, 0, none⟩), .pointer (some ⟨bg, 0, none⟩), .pointer (some ⟨w.heap.size, 0, none⟩), .int .i64 0, .int .i64 1, .bool false, undef, undef, undef, undef, undef, .int .i64 1, .func (.func 225) #[] #[.pointer (some ⟨w.heap.size + 1, 0, none⟩)], .int .i64 0, .agg #[.int .i64 1, .int .i64 0, .int .i64 0, .int .i64 0, .int .i64 0, .int .i64 0, .int .i64 0], .int .i64 0, .int .i64 0, .int .i64 1, .int .i64 0, .bool true, undef, undef, undef, undef, undef, undef, undef, undef, undef, undef, undef, undef, undef, undef, undef], defers := [] } : Act) ∧ Below W2.heap.size W2 wx) ?first5 ?rest5
    case first5 =>
      gi_region_with_o (first | (refine ⟨trivial, ?_⟩; gi_at_call 172; refine (CallsIn.inRound l (callsIn_wide.2 (belowOne _))).mono ?_; rintro e w7 ⟨rfl, b7⟩; have B7 := hid b7; have k7 : w7.cell? ⟨w.heap.size, 0, none⟩ = some (.int .i64 1) := cell_keep b7 k5; clear b7) | (gi_at_call 172; refine (CallsIn.inRound l (callsIn_wide.2 (belowOne _))).mono ?_; rintro e w7 ⟨rfl, b7⟩; have B7 := hid b7; have k7 : w7.cell? ⟨w.heap.size, 0, none⟩ = some (.int .i64 1) := cell_keep b7 k5; clear b7))
      all_goals exact ⟨rfl, rfl, (Below.refl _ W2).drew.trans B7.out⟩
    case rest5 =>
      rintro e a wx ⟨rfl, rfl, hb7⟩
      have J7 := hid (HLL.out.keep hb7)
      have K5 := hid (H5.out.keep hb7)
      have T7 := hid (HT2.out.below hb7)
      have C7 := hid (show Chs (fun i => i = bx ∨ i = bl) w wx from HC.out.trans (Chs.of_below hb7))
      have CW7 := hid (show Chs (fun i => i = bx ∨ i = bl) W2 wx from Chs.of_below hb7)
      have z2 := J7.out.line.cell 0
      simp only [List.getElem?_toArray, List.getElem?_cons_zero] at z2
      clear o0 o1 o2 o3 o4 o5 o6 k5 HLL hb7
      obtain ⟨i0, hi0, hz0, hz1, hzz⟩ := info_parts TI27.inf
      dsimp only
      gi_wp2_with (gi_at_builtin; refine wpListIn_append_own _ rfl _ _ 98 rfl w.heap.size 3 i0 (.int .i64 0) 1 8 TI27.und hi0 hz0 hz1 hzz TI27.zc TI27.sz (.slice none 0 0) 0 [] rfl (World.ownsRow_nil _ _ _ _) ⟨wx.heap.size, 0, none⟩ 1 1 [.int .i64 0] rfl rfl (cell_one_new _ _ _) (by simp [Value.oneCell']) (by unfold maxLen; omega) (by omega) (by have := C7.out.size; simp; omega) ?_; intro v1 w8 hown1 hgr _; obtain ⟨L, lc, rfl⟩ := own_form hown1; have b8 := ((Below.refl wx.heap.size wx).alloc (Nat.le_refl _) (.cells #[.int .i64 0] 3)).grown hgr (by simp) (fun k hk => by simp [Value.ownBlock] at hk); have B8 := hid b8; have J8 := hid (J7.out.keep b8); have L8 := hid hown1; have y2 := J8.out.line.cell 0; have f2 := J8.out.line.free 0; simp only [List.getElem?_toArray, List.getElem?_cons_zero] at y2; clear hown1 hgr b8)
      have hbl := HL.out.line.lt
      have J9 := hid (show LnS (w8.setCell ⟨bl, 0, none⟩ (.slice L 1 lc)) bo bx bl bg (.slice none 0 0) (.slice L 1 lc) from
        ⟨J8.out.ord.far (p := ⟨bl, 0, none⟩) (blk_neM J8.out.ord J8.out.line (by decide)) _, J8.out.out.far (p := ⟨bl, 0, none⟩) (blk_neM J8.out.out J8.out.line (by decide)) _, J8.out.line.set 0 _, J8.out.grow.far (p := ⟨bl, 0, none⟩) (blk_neM J8.out.grow J8.out.line (by decide)) _⟩)
      have L9 := hid (own_grown L8.out J8.out.line (by decide) (setGrown w8 ⟨bl, 0, none⟩ (.slice L 1 lc)))
      have CW9 := hid (CW7.out.trans ((Chs.of_below B8.out).trans (Chs.setCell (S := fun i => i = bx ∨ i = bl) (a := ⟨bl, 0, none⟩) (Or.inr rfl) (.slice L 1 lc))))
      have C9 := hid (HC.out.trans CW9.out)
      have K9 := hid ((K5.out.keep B8.out).far (p := ⟨bl, 0, none⟩) (by simp; omega) (.slice L 1 lc))
      have T9 := hid (HT2.out.chs CW9.out (fun e => by rcases e with e | e <;> first | exact HBX.1 e.symm | exact HBX.2 e.symm))
      clear y2 f2 z2 CW7 C7 K5 T7 J7 J8 L8 B8
      generalize w8.setCell ⟨bl, 0, none⟩ (.slice L 1 lc) = V at *
      have HGZ := hid (growZero (w.heap.size + 2) bo bx bl bg L lc V.drew ⟨J9.out.ord.drew, J9.out.out.drew, J9.out.line.drew, J9.out.grow.drew⟩ (Sl.of_own L9.out).drew (T9.out.below (Below.refl _ V).drew) (by obtain ⟨r, hr⟩ := hr; have h1 := (Array.getElem?_eq_some_iff.1 hr).1; have h2 := HSZ.out; have h3 := CW9.out.size; show w.heap.size + 2 ≤ V.heap.size; omega) HBX.1)
      have v0 := J9.out.grow.cell 0
      have v1 := K9.out.cell 0
      simp only [List.getElem?_toArray, List.getElem?_cons_zero] at v0 v1
      have hshl : bits .andNot .i64 1 1 = 0 := by kernel_rfl
      refine wpIn_mono (Q := fun e a wy => e = .normal ∧ a = ({ tmps := #[.int .i64 1, .pointer (some ⟨bx, 0, none⟩), .pointer (some ⟨bl, 0, none⟩), .pointer (some ⟨bo, 0, none⟩), .pointer (some ⟨bg, 0, none⟩), .pointer (some ⟨w.heap.size, 0, none⟩), .int .i64 0, .int .i64 1, .bool false, undef, undef, undef, undef, undef, .int .i64 1, .func (.func 225) #[] #[.pointer (some ⟨w.heap.size + 1, 0, none⟩)], .int .i64 0, .agg #[.int .i64 1, .int .i64 0, .int .i64 0, .int .i64 0, .int .i64 0, .int .i64 0, .int .i64 0], .int .i64 0, .int .i64 0, .int .i64 1, .int .i64 0, .bool true, .slice none 0 0, .int .i64 0, .slice (some ⟨wx.heap.size, 0, none⟩) 1 1, .slice L 1 lc, .func (.func 182) #[] #[.pointer (some ⟨bx, 0, none⟩), .pointer (some ⟨bl, 0, none⟩), .pointer (some ⟨bo, 0, none⟩), .pointer (some ⟨bg, 0, none⟩)], .int .i64 1, .int .i64 0, .int .i64 1, .int .i64 0, .tuple #[], undef, undef, undef, undef, undef], defers := [] } : Act) ∧ OutS wy (w.heap.size + 2) bx ∧ Chs (· = bx) V wy) ?first7 ?rest7
      case first7 =>
        gi_region_with_o (first | (refine ⟨trivial, ?_⟩; gi_at_call 182; refine (CallsIn.inRound l (callsIn_wide.2 HGZ.out)).mono ?_; rintro e w9 ⟨rfl, O, oc, R, rc, q1, q2, q3, q4⟩; have Q1 := hid q1; have Q2 := hid q2; have Q3 := hid q3; have Q4 := hid q4; clear q1 q2 q3 q4) | (gi_at_call 182; refine (CallsIn.inRound l (callsIn_wide.2 HGZ.out)).mono ?_; rintro e w9 ⟨rfl, O, oc, R, rc, q1, q2, q3, q4⟩; have Q1 := hid q1; have Q2 := hid q2; have Q3 := hid q3; have Q4 := hid q4; clear q1 q2 q3 q4))
        all_goals exact ⟨rfl, rfl, ⟨O, oc, R, rc, Q1.out, Q2.out, Q3.out⟩, (Chs.of_below (Below.refl _ V).drew).trans Q4.out⟩
      case rest7 =>
        rintro e a wy ⟨rfl, rfl, hO, hCy⟩
        have hne : ¬ bl = bx := blk_neM J9.out.line J9.out.out (by decide)
        have Y2 := hid (hCy.blk J9.out.line hne)
        have HOO := hid hO
        have CY := hid (CW9.out.trans (hCy.mono fun i e => Or.inl e))
        have KY := hid (hCy.blk K9.out (blk_neM K9.out J9.out.out (by decide)))
        have TY := hid (T9.out.chs hCy (fun e => HBX.1 e.symm))
        have y2 := Y2.out.cell 0
        have f2 := Y2.out.free 0
        simp only [List.getElem?_toArray, List.getElem?_cons_zero] at y2
        have hlc := (Sl.of_own L9.out).cap
        clear hO hCy hshl v0 v1 HGZ hand0
        have hbx := HL.out.out.lt
        have CF := hid (CY.out.trans (Chs.setCell (S := fun i => i = bx ∨ i = bl) (a := ⟨bl, 0, none⟩) (Or.inr rfl) (.slice L 0 lc)))
        have KF := hid (KY.out.far (p := ⟨bl, 0, none⟩) (by simp; omega) (.slice L 0 lc))
        have OF := hid (HOO.out.far (p := ⟨bl, 0, none⟩) (fun e => hne e.symm) (by simp; omega) (.slice L 0 lc))
        have TF := hid (TY.out.grown (setGrown wy ⟨bl, 0, none⟩ (.slice L 0 lc)) (by simp; exact HBX.2))
        dsimp only
        gi_wp2
        have := HSZ.out
        obtain ⟨r, hr⟩ := hr
        have hlw := (Array.getElem?_eq_some_iff.1 hr).1
        exact ⟨⟨CF.out.size, fun k o hk ho _ => (CF.out.block k (lt_of_block ho) (by omega)).trans ho⟩, CF.out.block (w.heap.size + 1) (by omega) (by omega), ⟨OF.out, HC.out.trans CF.out⟩, KF.out, TF.out⟩
  · rintro D W hD ⟨⟨h1, h2⟩, h3, h4⟩ hK
    have h1 : OutS W (w.heap.size + 2) bx := h1
    have G0 := hid h1
    have GA := hid h2
    have GK := hid hK
    clear h1 h2 h3 h4 hK
    gi_wp2
    have := HSZ.out
    refine ⟨by simp, .inl ⟨_, _, rfl, run_takeDeferred GK.out, ?_⟩⟩
    have q1 := OutS.ownFrom (β := Unit) G.heap.size _ _ () _ _ (some D) G0.out (grownBy_putObj' W D (.deferred none)) (fun r e => by cases e; exact ⟨hD, _, GK.out, rfl⟩)
    have q2 := ownFrom_chs (β := Unit) (B := G.heap.size) (by omega) () _ _ (some D) GA.out (grownBy_putObj' W D (.deferred none)) (fun r e => by cases e; exact ⟨hD, _, GK.out, rfl⟩)
    exact ⟨_, results_none rfl _ _ _, rfl, q1.more (by omega), q2⟩
end Go.Proofs.YtkjinamjdjijcaaGreatDoor

