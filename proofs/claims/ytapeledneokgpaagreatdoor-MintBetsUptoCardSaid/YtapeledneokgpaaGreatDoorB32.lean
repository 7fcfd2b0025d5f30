/- Texts of this proof, one behind the other; each says its condition at its head. -/
import Derived.Test.YtapeledneokgpaaGreatDoorB31
/- Walk of bets.Bounds at three worlds. Conditions: bets that a table of three worlds takes, and that some belief agrees with. -/
namespace Go.Proofs.YtapeledneokgpaaGreatDoor
open Go.RowKit Go.Maps
theorem isEventT (v : Value) (e : Nat) (he : e ≤ 1000) (w : World) :
 Calls Tryz.prog 107 #[.agg #[.int .i64 3, v], .int .i64 (e : Nat)] w fun r w' => r = .returned (.bool (decide (e < 8))) ∧ Below w.heap.size w w' := by
 have hB := (Blk.new w 114 #[.int .i64 3, v])
 have t0 := hB.cell 0
 simp only [List.getElem?_toArray, List.getElem?_cons_zero] at t0
 have HB := hid ((Below.refl w.heap.size w).alloc (Nat.le_refl _) (.cells #[.int .i64 3, v] 114))
 have hd : decide (e < 8) = decide ((e : Int) < 8) := by rw [decide_eq_decide]; omega
 rw [hd]
 clear hB hd
 go_enter Tryz.func107, Tryz.ntmps107
 go_wp2
 go_ret
 exact ⟨rfl, HB.out⟩
set_option maxRecDepth 100000 in
set_option maxHeartbeats 4000000 in
theorem boundsNo (A : Option Addr) (n c : Nat) (l : List (Int × Int)) (e : Nat) (he : e ≤ 1000) (h8 : ¬ e < 8) (w : World) (hs : Sl2 w A n c l) (hl : BetOk l) :
 Calls Tryz.prog 65 #[.int .i64 3, .slice A n c, .int .i64 (e : Nat)] w fun r w' => r = .returned (.tuple #[frV (0, 0), frV (0, 0), .int .i64 2]) ∧ Below w.heap.size w w' := by
 have B1 := (Below.refl w.heap.size w).alloc (Nat.le_refl _) (.cells #[.int .i64 0, .int .i64 0] 48)
 have B2 := B1.alloc B1.size (.cells #[.int .i64 0, .int .i64 0] 48)
 have B3 := B2.alloc B2.size (.cells #[.int .i64 3, .slice A n c] 114)
 have H6 := hid (((Blk.new w 48 #[.int .i64 0, .int .i64 0]).alloc (.cells #[.int .i64 0, .int .i64 0] 48)).alloc (.cells #[.int .i64 3, .slice A n c] 114))
 have H7 := hid ((Blk.new_at (w.alloc (.cells #[.int .i64 0, .int .i64 0] 48)) 48 #[.int .i64 0, .int .i64 0] (n := w.heap.size + 1) (by simp)).alloc (.cells #[.int .i64 3, .slice A n c] 114))
 have H9 := hid (Blk.new_at ((w.alloc (.cells #[.int .i64 0, .int .i64 0] 48)).alloc (.cells #[.int .i64 0, .int .i64 0] 48)) 114 #[.int .i64 3, .slice A n c] (n := w.heap.size + 1 + 1) (by simp))
 have HB := hid B3
 have HV := hid (validT A n c l _ (hs.below B3) hl)
 have HI := hid fun W => isEventT (.slice A n c) e he W
 rw [show decide (e < 8) = false from decide_eq_false h8] at HI
 clear B1 B2 B3 hs hl he h8
 go_enter Tryz.func65, Tryz.ntmps65
 go_wp2_with fail
 generalize (((w.alloc (.cells #[.int .i64 0, .int .i64 0] 48)).alloc (.cells #[.int .i64 0, .int .i64 0] 48)).alloc (.cells #[.int .i64 3, .slice A n c] 114)) = W at *
 refine (HV.out).mono ?_; rintro r w1 ⟨rfl, b1⟩
 have H6 := hid (H6.out.keep b1); have H7 := hid (H7.out.keep b1); have H9 := hid (H9.out.keep b1); have HB := hid (below_call HB.out b1 HB.out.size)
 clear HV b1
 have t0 := H9.out.cell 0
 have t1 := H9.out.cell 1
 simp only [List.getElem?_toArray, List.getElem?_cons_zero, List.getElem?_cons_succ] at t0 t1
 go_wp2_with fail
 refine (HI.out _).mono ?_; rintro r w2 ⟨rfl, b2⟩
 have H6 := hid (H6.out.keep b2); have H7 := hid (H7.out.keep b2); have HB := hid (below_call HB.out b2 HB.out.size)
 clear HI b2 t0 t1
 have f60 := H6.out.free 0
 have f61 := H6.out.free 1
 have f70 := H7.out.free 0
 have f71 := H7.out.free 1
 have r0 := H6.out.cell 0
 have r1 := H6.out.cell 1
 have s0 := H7.out.cell 0
 have s1 := H7.out.cell 1
 simp only [List.getElem?_toArray, List.getElem?_cons_zero, List.getElem?_cons_succ] at r0 r1 s0 s1
 go_wp2
 exact bodyPost_ret (results_rows_tmp rfl _ _ w.heap.size (w.heap.size + 1) 48 48 #[.int .i64 0, .int .i64 0] #[.int .i64 0, .int .i64 0] (0, 0) (0, 0) _ _ rfl rfl ((((H6.out.set 0 _).set 1 _).far (p := ⟨w.heap.size + 1, 0, none⟩) (by simp) _).far (p := ⟨w.heap.size + 1, 1, none⟩) (by simp) _) ((((H7.out.far (p := ⟨w.heap.size, 0, none⟩) (by simp) _).far (p := ⟨w.heap.size, 1, none⟩) (by simp) _).set 0 _).set 1 _) Tryz.underlying48 rfl (by kernel_rfl) Tryz.underlying48 rfl (by kernel_rfl)) rfl ⟨rfl, (((HB.out.setCell (p := ⟨w.heap.size, 0, none⟩) (by simp) _).setCell (p := ⟨w.heap.size, 1, none⟩) (by simp) _).setCell (p := ⟨w.heap.size + 1, 0, none⟩) (by simp) _).setCell (p := ⟨w.heap.size + 1, 1, none⟩) (by simp) _⟩
/-- The corners in memory: q holds the slices; b and b' are other blocks. -/
def CRow (W : World) (q b b' : Nat) (cs : List (List Int)) : Prop := q ≠ b ∧ q ≠ b' ∧ ∀ k x, cs[k]? = some x → ∃ g, W.cell? ⟨q, k, none⟩ = some (.slice (some ⟨g, 0, none⟩) 3 3) ∧ Blk W g 48 (flat (x.map tw)).toArray ∧ x.length = 3 ∧ g ≠ b ∧ g ≠ b'
theorem CRow.keep {W W' : World} {q b b' : Nat} {cs : List (List Int)} (h : CRow W q b b' cs) (hb : Below W.heap.size W W') : CRow W' q b b' cs := ⟨h.1, h.2.1, fun k x hx => by
 obtain ⟨g, h1, h2, h3, h4⟩ := h.2.2 k x hx
 exact ⟨g, cell_keep hb h1, h2.keep hb, h3, h4⟩⟩
theorem CRow.set {W : World} {q b b' : Nat} {cs : List (List Int)} (h : CRow W q b b' cs) (i : Nat) (v : Value) : CRow (W.setCell ⟨b, i, none⟩ v) q b b' cs := ⟨h.1, h.2.1, fun k x hx => by
 obtain ⟨g, h1, h2, h3, h4, h5⟩ := h.2.2 k x hx
 exact ⟨g, cell_far _ (p := ⟨b, i, none⟩) h.1 h1, h2.far (p := ⟨b, i, none⟩) h4 _, h3, h4, h5⟩⟩
theorem CRow.set' {W : World} {q b b' : Nat} {cs : List (List Int)} (h : CRow W q b b' cs) (i : Nat) (v : Value) : CRow (W.setCell ⟨b', i, none⟩ v) q b b' cs := ⟨h.1, h.2.1, fun k x hx => by
 obtain ⟨g, h1, h2, h3, h4, h5⟩ := h.2.2 k x hx
 exact ⟨g, cell_far _ (p := ⟨b', i, none⟩) h.2.1 h1, h2.far (p := ⟨b', i, none⟩) h5 _, h3, h4, h5⟩⟩
theorem blk_ne_size {W : World} {g g' : Nat} {t t' : TypeId} {cs cs' : Array Value} (h : Blk W g t cs) (h' : Blk W g' t' cs') (hn : cs.size ≠ cs'.size) : g ≠ g' := fun e => by
 subst e
 have := Option.some.inj (h.symm.trans h')
 cases this
 exact hn rfl
def twC (x : Int) : Array Value := #[.int .i64 (tw x).1, .int .i64 (tw x).2]
def bdP (p : Int × Int) : Prop := 0 ≤ p.1 ∧ p.1 ≤ 12 ∧ 0 ≤ p.2 ∧ p.2 ≤ 12
theorem agr_bd {l : List (Int × Int)} {b : List Int} (h : Agr l b) : ∀ x ∈ b, 0 ≤ x ∧ x ≤ 12 := by
 obtain ⟨b0, b1, b2, rfl, n0, n1, n2, hs, _⟩ := h
 intro x hx
 simp at hx
 rcases hx with rfl | rfl | rfl <;> omega
set_option maxRecDepth 100000 in
set_option maxHeartbeats 8000000 in
theorem boundsF (A : Option Addr) (n c : Nat) (l : List (Int × Int)) (e : Nat) (h8 : e < 8) (w : World) (hs : Sl2 w A n c l) (hl : BetOk l) (hc0 : cornersL l ≠ []) :
 Calls Tryz.prog 65 #[.int .i64 3, .slice A n c, .int .i64 (e : Nat)] w fun r w' => r = .returned (.tuple #[frV (tw (bndL e (cornersL l)).1), frV (tw (bndL e (cornersL l)).2), .int .i64 0]) ∧ Below w.heap.size w w' := by
 have B1 := (Below.refl w.heap.size w).alloc (Nat.le_refl _) (.cells #[.int .i64 0, .int .i64 0] 48)
 have B2 := B1.alloc B1.size (.cells #[.int .i64 0, .int .i64 0] 48)
 have B3 := B2.alloc B2.size (.cells #[.int .i64 3, .slice A n c] 114)
 have H6 := hid (((Blk.new w 48 #[.int .i64 0, .int .i64 0]).alloc (.cells #[.int .i64 0, .int .i64 0] 48)).alloc (.cells #[.int .i64 3, .slice A n c] 114))
 have H7 := hid ((Blk.new_at (w.alloc (.cells #[.int .i64 0, .int .i64 0] 48)) 48 #[.int .i64 0, .int .i64 0] (n := w.heap.size + 1) (by simp)).alloc (.cells #[.int .i64 3, .slice A n c] 114))
 have H9 := hid (Blk.new_at ((w.alloc (.cells #[.int .i64 0, .int .i64 0] 48)).alloc (.cells #[.int .i64 0, .int .i64 0] 48)) 114 #[.int .i64 3, .slice A n c] (n := w.heap.size + 1 + 1) (by simp))
 have HB := hid B3
 have HV := hid (validT A n c l _ (hs.below B3) hl)
 have HI := hid fun W => isEventT (.slice A n c) e (by omega) W
 rw [show decide (e < 8) = true from decide_eq_true h8] at HI
 have HC := hid fun W (hb : Below w.heap.size w W) => cornersS A n c l W (hs.below hb) hl
 have HBB := hid fun x (hx : x ∈ cornersL l) => agr_bd (corners_agr hl hx)
 have HEV := hid fun x (hx : x ∈ cornersL l) => agr_ev (corners_agr hl hx) (e : Int)
 obtain ⟨m, hm⟩ : ∃ m, m = (cornersL l).length := ⟨_, rfl⟩
 have hm0 : 0 < m := by have := List.length_pos_iff.2 hc0; omega
 have HM := hid hm
 have hm7 : m ≤ 7 := by rw [hm]; unfold cornersL cornersTo; exact Nat.le_trans (List.length_filterMap_le _ _) (by simp)
 unfold bndL
 obtain ⟨x0, hx0⟩ : ∃ x0, x0 = (cornersL l).headD [] := ⟨_, rfl⟩
 have hg0 : (cornersL l)[0]? = some x0 := by
  rw [hx0]
  match cornersL l, hc0 with
  | x :: xs, _ => rfl
 rw [← hx0]
 rw [← hm] at HC
 have HG0 := hid hg0
 have HX0 := hid (List.mem_of_getElem? hg0)
 generalize cornersL l = cs at *
 clear B1 B2 B3 hs hl h8 hc0 hm hx0 hg0
 go_enter Tryz.func65, Tryz.ntmps65
 go_wp2_with fail
 generalize (((w.alloc (.cells #[.int .i64 0, .int .i64 0] 48)).alloc (.cells #[.int .i64 0, .int .i64 0] 48)).alloc (.cells #[.int .i64 3, .slice A n c] 114)) = W at *
 refine (HV.out).mono ?_; rintro r w1 ⟨rfl, b1⟩
 have H6 := hid (H6.out.keep b1); have H7 := hid (H7.out.keep b1); have H9 := hid (H9.out.keep b1); have HB := hid (below_call HB.out b1 HB.out.size)
 clear HV b1
 have t0 := H9.out.cell 0
 have t1 := H9.out.cell 1
 simp only [List.getElem?_toArray, List.getElem?_cons_zero, List.getElem?_cons_succ] at t0 t1
 go_wp2_with fail
 refine (HI.out _).mono ?_; rintro r w2 ⟨rfl, b2⟩
 have H6 := hid (H6.out.keep b2); have H7 := hid (H7.out.keep b2); have HB := hid (below_call HB.out b2 HB.out.size)
 have t0 := cell_keep b2 t0
 have t1 := cell_keep b2 t1
 have HC2 := hid (HC.out _ HB.out)
 clear HI b2 H9 HC
 go_wp2_with fail
 refine (HC2.out).mono ?_; rintro r w3 ⟨O, oc, vs, rfl, ho, hv, b3⟩
 obtain ⟨q, rfl⟩ := own_some ho hm0
 have hq := own_blkIv ho _ rfl
 have HQL := hid (show w.heap.size + 1 < w2.heap.size from H7.out.lt)
 have H6 := hid (H6.out.keep b3); have H7 := hid (H7.out.keep b3); have HB := hid (below_call HB.out b3 HB.out.size)
 have HR := hid (show CRow w3 q w.heap.size (w.heap.size + 1) cs from ⟨fun e => by have := HQL.out; unfold Iv at hq; simp only at hq; omega, fun e => by have := HQL.out; unfold Iv at hq; simp only at hq; omega, fun k x hx => by
  have hk := (List.getElem?_eq_some_iff.1 hx).1
  have hvl := hv.1
  have hkv : k < vs.length := by have := ho.1; have := HM.out; omega
  obtain ⟨g, h1, h2, h3⟩ := hv.2 k _ x (List.getElem?_eq_getElem hkv) hx
  have hsz : (flat (x.map tw)).toArray.size = 6 := by simp [flat_len, h3]
  exact ⟨g, own_at ho (by rw [← h1]; exact List.getElem?_eq_getElem hkv), h2, h3, blk_ne_size h2 H6.out (by rw [hsz]; decide), blk_ne_size h2 H7.out (by rw [hsz]; decide)⟩⟩)
 clear HC2 t0 t1 ho hv b3 hq
 have z1 : ((m : Int) == 0) = false := by rw [beq_eq_false_iff_ne]; omega
 have z2 : (m == 0) = false := by rw [beq_eq_false_iff_ne]; omega
 have hmz : (0 : Int) < (m : Int) := by omega
 go_wp2
 obtain ⟨g0, c0, hg, h3, _⟩ := HR.out.2.2 0 x0 HG0.out
 have HS0 := hid (sl2_blk hg h3)
 have HF := hid fun W (hW : Sl2 W (some ⟨g0, 0, none⟩) 3 3 (x0.map tw)) => ofB (e : Int) x0 (some ⟨g0, 0, none⟩) 3 W hW (HBB.out x0 HX0.out)
 unfold frV at HF
 have HC0 := hid c0
 have HWW := hid (Below.refl w3.heap.size w3)
 clear hg h3 c0
 obtain ⟨P, hP⟩ : ∃ P, P = tw (evOf e x0) := ⟨_, rfl⟩
 have HP := hid hP
 rw [← hP] at HF
 clear hP hmz z1 z2
 have hz0 : (0 : Int) < (m : Int) := by omega
 refine wp_region_held_drew (S := (fun w' => w'.cell? ⟨q, 0, none⟩ = some (.slice (some ⟨g0, 0, none⟩) 3 3))) (by kernel_rfl) (by (try dsimp only); (first | exact HC0.out | exact cell_keep (Below.refl _ w3).drew HC0.out)) (fun hHeld => ?_)
 have bd := (Below.refl w3.heap.size w3).drew
 have H6 := hid (H6.out.keep bd); have H7 := hid (H7.out.keep bd); have HB := hid (below_call HB.out bd HB.out.size)
 have HS0 := hid (HS0.out.below bd); have HC0 := hid (cell_keep bd HC0.out); have HR := hid (HR.out.keep bd)
 clear bd HWW
 generalize w3.drew = X1 at *
 obtain ⟨X, rfl⟩ : ∃ Y, Y = X1 := ⟨X1, rfl⟩
 refine tk ?_ 0 (some 35) rfl rfl ?_ ?_; rotate_left; · (intro w hSw; (try dsimp only at hSw); go_simp <;> with_reducible rfl)
 try simp only [Act.put, pA0, pA1, pA2]
 refine tk ?_ 1 (some 36) rfl rfl ?_ ?_; rotate_left; · (intro w hSw; (try dsimp only at hSw); go_simp <;> with_reducible rfl)
 try simp only [Act.put, pA0, pA1, pA2]
 refine tk ?_ 2 (some 37) rfl rfl ?_ ?_; rotate_left; · (intro w hSw; (try dsimp only at hSw); go_simp <;> with_reducible rfl)
 try simp only [Act.put, pA0, pA1, pA2]
 refine tk ?_ 3 (some 38) rfl rfl ?_ ?_; rotate_left; · (intro w hSw; (try dsimp only at hSw); go_simp <;> with_reducible rfl)
 try simp only [Act.put, pA0, pA1, pA2]
 refine tk ?_ 5 (some 40) rfl rfl ?_ ?_; rotate_left; · (intro w hSw; (try dsimp only at hSw); go_simp <;> with_reducible rfl)
 try simp only [Act.put, pA0, pA1, pA2]
 refine tk ?_ 6 (some 41) rfl rfl ?_ ?_; rotate_left; · (intro w hSw; (try dsimp only at hSw); go_simp <;> with_reducible rfl)
 try simp only [Act.put, pA0, pA1, pA2]
 refine tk ?_ 7 (some 42) rfl rfl ?_ ?_; rotate_left; · (intro w hSw; (try dsimp only at hSw); go_simp <;> with_reducible rfl)
 try simp only [Act.put, pA0, pA1, pA2]
 refine tk ?_ 8 (some 43) rfl rfl ?_ ?_; rotate_left; · (intro w hSw; (try dsimp only at hSw); go_simp <;> with_reducible rfl)
 try simp only [Act.put, pA0, pA1, pA2]
 refine wpAnyH_ready (rs := [4]) (by kernel_rfl) (by simp) ?_
 refine AllReadyH.cons rfl (fun K hK => ?_) AllReadyH.nil
 go_simp
 refine (HF.out _ HS0.out).mono ?_; rintro r X ⟨rfl, bb⟩
 have H6 := hid (H6.out.keep bb); have H7 := hid (H7.out.keep bb); have HB := hid (below_call HB.out bb HB.out.size)
 have HS0 := hid (HS0.out.below bb); have HC0 := hid (cell_keep bb HC0.out); have HR := hid (HR.out.keep bb)
 clear bb hHeld
 refine hK.out _ _ ?_ (fun hHeld => ?_); · ((try dsimp only); (first | exact HC0.out | exact cell_keep (Below.refl _ w3).drew HC0.out))
 clear hK K
 try simp only [Act.put, pA0, pA1, pA2]
 refine wpAnyH_ready (rs := [9]) (by kernel_rfl) (by simp) ?_
 refine AllReadyH.cons rfl (fun K hK => ?_) AllReadyH.nil
 go_simp
 refine (HF.out _ HS0.out).mono ?_; rintro r X ⟨rfl, bb⟩
 have H6 := hid (H6.out.keep bb); have H7 := hid (H7.out.keep bb); have HB := hid (below_call HB.out bb HB.out.size)
 have HS0 := hid (HS0.out.below bb); have HC0 := hid (cell_keep bb HC0.out); have HR := hid (HR.out.keep bb)
 clear bb hHeld
 refine hK.out _ _ ?_ (fun hHeld => ?_); · ((try dsimp only); (first | exact HC0.out | exact cell_keep (Below.refl _ w3).drew HC0.out))
 clear hK K
 try simp only [Act.put, pA0, pA1, pA2]
 refine wpAnyH_ready (rs := [10]) (by kernel_rfl) (by simp) ?_
 refine AllReadyH.cons rfl (fun K hK => ?_) AllReadyH.nil
 have f0 := H6.out.free 0
 have f1 := H6.out.free 1
 have r0 := H6.out.cell 0
 have r1 := H6.out.cell 1
 simp only [List.getElem?_toArray, List.getElem?_cons_zero, List.getElem?_cons_succ] at r0 r1
 go_simp
 have HC0 := hid (cell_far _ (p := ⟨w.heap.size, 1, none⟩) (v := .slice (some ⟨g0, 0, none⟩) 3 3) (u := .int .i64 P.2) HR.out.1 (cell_far _ (p := ⟨w.heap.size, 0, none⟩) (u := .int .i64 P.1) HR.out.1 HC0.out))
 have HR := hid ((HR.out.set 0 (.int .i64 P.1)).set 1 (.int .i64 P.2))
 have H6 := hid ((H6.out.set 0 (.int .i64 P.1)).set 1 (.int .i64 P.2))
 have H7 := hid ((H7.out.far (p := ⟨w.heap.size, 0, none⟩) (by simp) (.int .i64 P.1)).far (p := ⟨w.heap.size, 1, none⟩) (by simp) (.int .i64 P.2))
 have HB := hid ((HB.out.setCell (p := ⟨w.heap.size, 0, none⟩) (Nat.le_refl _) (.int .i64 P.1)).setCell (p := ⟨w.heap.size, 1, none⟩) (Nat.le_refl _) (.int .i64 P.2))
 clear f0 f1 r0 r1 hHeld HS0
 generalize (X.setCell ⟨w.heap.size, 0, none⟩ (.int .i64 P.1)).setCell ⟨w.heap.size, 1, none⟩ (.int .i64 P.2) = X1 at *
 obtain ⟨X, rfl⟩ : ∃ Y, Y = X1 := ⟨X1, rfl⟩
 refine hK.out _ _ ?_ (fun hHeld => ?_); · ((try dsimp only); (first | exact HC0.out | exact cell_keep (Below.refl _ w3).drew HC0.out))
 clear hK K
 try simp only [Act.put, pA0, pA1, pA2]
 refine wpAnyH_ready (rs := [11]) (by kernel_rfl) (by simp) ?_
 refine AllReadyH.cons rfl (fun K hK => ?_) AllReadyH.nil
 have f0 := H7.out.free 0
 have f1 := H7.out.free 1
 have r0 := H7.out.cell 0
 have r1 := H7.out.cell 1
 simp only [List.getElem?_toArray, List.getElem?_cons_zero, List.getElem?_cons_succ] at r0 r1
 go_simp
 have HC0 := hid (cell_far _ (p := ⟨w.heap.size + 1, 1, none⟩) (v := .slice (some ⟨g0, 0, none⟩) 3 3) (u := .int .i64 P.2) HR.out.2.1 (cell_far _ (p := ⟨w.heap.size + 1, 0, none⟩) (u := .int .i64 P.1) HR.out.2.1 HC0.out))
 have HR := hid ((HR.out.set' 0 (.int .i64 P.1)).set' 1 (.int .i64 P.2))
 have H7 := hid ((H7.out.set 0 (.int .i64 P.1)).set 1 (.int .i64 P.2))
 have H6 := hid ((H6.out.far (p := ⟨w.heap.size + 1, 0, none⟩) (by simp) (.int .i64 P.1)).far (p := ⟨w.heap.size + 1, 1, none⟩) (by simp) (.int .i64 P.2))
 have HB := hid ((HB.out.setCell (p := ⟨w.heap.size + 1, 0, none⟩) (by simp) (.int .i64 P.1)).setCell (p := ⟨w.heap.size + 1, 1, none⟩) (by simp) (.int .i64 P.2))
 clear f0 f1 r0 r1 hHeld
 generalize (X.setCell ⟨w.heap.size + 1, 0, none⟩ (.int .i64 P.1)).setCell ⟨w.heap.size + 1, 1, none⟩ (.int .i64 P.2) = X1 at *
 obtain ⟨X, rfl⟩ : ∃ Y, Y = X1 := ⟨X1, rfl⟩
 refine hK.out _ _ ?_ (fun hHeld => ?_); · ((try dsimp only); (first | exact HC0.out | exact cell_keep (Below.refl _ w3).drew HC0.out))
 clear hK K
 try simp only [Act.put, pA0, pA1, pA2]
 refine wpAnyH_done (by kernel_rfl) ?_ _
 have H6 := hid (show Blk X w.heap.size 48 (twC (bndFrom e (evOf e x0, evOf e x0) (cs.take 0)).1) from by have h := H6.out; rw [HP.out] at h; rw [List.take_zero]; exact h)
 have H7 := hid (show Blk X (w.heap.size + 1) 48 (twC (bndFrom e (evOf e x0, evOf e x0) (cs.take 0)).2) from by have h := H7.out; rw [HP.out] at h; rw [List.take_zero]; exact h)
 have HP0 := hid (show bdP (bndFrom e (evOf e x0, evOf e x0) (cs.take 0)) from by have h := HEV.out x0 HX0.out; rw [List.take_zero]; exact ⟨h.1, h.2, h.1, h.2⟩)
 clear hHeld HF HP HC0 hz0
 obtain ⟨p0, hp0⟩ : ∃ p0, p0 = (evOf (e : Int) x0, evOf (e : Int) x0) := ⟨_, rfl⟩
 rw [← hp0] at H6 H7 HP0
 have HP00 := hid hp0
 clear hp0
 go_wp2_with fail
 go_loopg [47] m (fun gk i wr => ∃ k : Nat, gk + k = m ∧ i = .int .i64 k ∧ Hid (Blk wr w.heap.size 48 (twC (bndFrom e p0 (cs.take k)).1)) ∧ Hid (Blk wr (w.heap.size + 1) 48 (twC (bndFrom e p0 (cs.take k)).2)) ∧ Hid (bdP (bndFrom e p0 (cs.take k))) ∧ Hid (CRow wr q w.heap.size (w.heap.size + 1) cs) ∧ Hid (Below w.heap.size w wr))
 case atStart => exact ⟨0, by omega, rfl, H6, H7, HP0, HR, HB⟩
 case round =>
  clear H6 H7 HP0 HR HB
  obtain ⟨k, hk, rfl, H6, H7, HPB, HR, HB⟩ := hrel
  have HK := hid hk
  by_cases hlt : k < m
  · have HLT := hid hlt
    have hkl : k < cs.length := by have := HM.out; omega
    obtain ⟨x, hx⟩ : ∃ x, cs[k]? = some x := ⟨_, List.getElem?_eq_getElem hkl⟩
    have hxm := List.mem_of_getElem? hx
    obtain ⟨g, ck, hg, h3, _⟩ := HR.out.2.2 k x hx
    have HF := hid (ofB (e : Int) x (some ⟨g, 0, none⟩) 3 wr (sl2_blk hg h3) (HBB.out x hxm))
    have hev := HEV.out x hxm
    have HST := hid (show bndFrom e p0 (cs.take (k + 1)) = stepB e (bndFrom e p0 (cs.take k)) x from by
     rw [List.take_add_one, hx]
     unfold bndFrom
     rw [List.foldl_append]
     rfl)
    unfold stepB at HST
    generalize bndFrom e p0 (cs.take k) = p at *
    obtain ⟨lo, hi⟩ := p
    generalize evOf e x = v at *
    have hpb := HPB.out
    unfold bdP at hpb
    simp only at hpb HST
    have HPV := hid (And.intro hpb hev)
    have HL1 := hid fun W => lessT v lo (by unfold rg; omega) (by unfold rg; omega) (by unfold rg; omega) W
    have HL2 := hid fun W => lessT hi v (by unfold rg; omega) (by unfold rg; omega) (by unfold rg; omega) W
    have hkm : (k : Int) < (m : Int) := by omega
    unfold twC at H6 H7
    simp only at H6 H7
    unfold frV at HF HL1 HL2
    have HTV := hid (show twC v = #[.int .i64 (tw v).1, .int .i64 (tw v).2] from rfl)
    have HTL := hid (show twC lo = #[.int .i64 (tw lo).1, .int .i64 (tw lo).2] from rfl)
    have HTH := hid (show twC hi = #[.int .i64 (tw hi).1, .int .i64 (tw hi).2] from rfl)
    generalize tw v = V at *
    generalize tw lo = LO at *
    generalize tw hi = HI2 at *
    clear hk hx hxm hg h3 hev hpb hkl HPB
    go_wp2_with fail
    refine (HF.out).mono ?_; rintro r w4 ⟨rfl, b4⟩
    have bA := b4.alloc b4.size (.cells #[.int .i64 V.1, .int .i64 V.2] 48)
    have H6 := hid (H6.out.keep bA); have H7 := hid (H7.out.keep bA); have HB := hid (below_call HB.out bA HB.out.size); have HR := hid (HR.out.keep bA)
    have H13 := hid (Blk.new w4 48 #[.int .i64 V.1, .int .i64 V.2])
    have p0' := H13.out.cell 0
    have p1' := H13.out.cell 1
    have r0 := H6.out.cell 0
    have r1 := H6.out.cell 1
    simp only [List.getElem?_toArray, List.getElem?_cons_zero, List.getElem?_cons_succ] at p0' p1' r0 r1
    clear b4 bA HF ck
    go_wp2_with fail
    generalize w4.alloc (.cells #[.int .i64 V.1, .int .i64 V.2] 48) = W4 at *
    refine (HL1.out _).mono ?_; rintro r w5 ⟨rfl, b5⟩
    have H6 := hid (H6.out.keep b5); have H7 := hid (H7.out.keep b5); have HB := hid (below_call HB.out b5 HB.out.size); have HR := hid (HR.out.keep b5); have H13 := hid (H13.out.keep b5)
    clear b5 HL1 p0' p1' r0 r1
    have p0' := H13.out.cell 0
    have p1' := H13.out.cell 1
    simp only [List.getElem?_toArray, List.getElem?_cons_zero, List.getElem?_cons_succ] at p0' p1'
    by_cases c1 : v < lo
    · have hc1 : decide (v < lo) = true := decide_eq_true c1
      rw [hc1]
      have HST := hid (HST.out.trans (if_pos c1))
      have r0 := H6.out.cell 0
      have r1 := H6.out.cell 1
      have f0 := H6.out.free 0
      have f1 := H6.out.free 1
      simp only [List.getElem?_toArray, List.getElem?_cons_zero, List.getElem?_cons_succ] at r0 r1
      clear hc1 c1 HL2
      go_wp2
      go_roundg (gk - 1)
      case measure => have := HK.out; have := HLT.out; omega
      case rel =>
       exact ⟨k + 1, by have := HK.out; have := HLT.out; omega, by go_num, hid (by rw [HST.out, HTV.out]; exact (H6.out.set 0 _).set 1 _), hid (by rw [HST.out, HTH.out]; exact (H7.out.far (p := ⟨w.heap.size, 0, none⟩) (by simp) _).far (p := ⟨w.heap.size, 1, none⟩) (by simp) _), hid (by have := HPV.out; rw [HST.out]; unfold bdP; simp only; omega), hid ((HR.out.set 0 _).set 1 _), hid ((HB.out.setCell (p := ⟨w.heap.size, 0, none⟩) (Nat.le_refl _) _).setCell (p := ⟨w.heap.size, 1, none⟩) (Nat.le_refl _) _)⟩
    · have hc1 : decide (v < lo) = false := decide_eq_false c1
      rw [hc1]
      have HST := hid (HST.out.trans (if_neg c1))
      have r0 := H7.out.cell 0
      have r1 := H7.out.cell 1
      simp only [List.getElem?_toArray, List.getElem?_cons_zero, List.getElem?_cons_succ] at r0 r1
      clear hc1 c1
      go_wp2_with fail
      refine (HL2.out _).mono ?_; rintro r w6 ⟨rfl, b6⟩
      have H6 := hid (H6.out.keep b6); have H7 := hid (H7.out.keep b6); have HB := hid (below_call HB.out b6 HB.out.size); have HR := hid (HR.out.keep b6); have H13 := hid (H13.out.keep b6)
      clear b6 HL2 p0' p1' r0 r1
      by_cases c2 : hi < v
      · have hc2 : decide (hi < v) = true := decide_eq_true c2
        rw [hc2]
        have HST := hid (HST.out.trans (if_pos c2))
        have p0' := H13.out.cell 0
        have p1' := H13.out.cell 1
        have r0 := H7.out.cell 0
        have r1 := H7.out.cell 1
        have f0 := H7.out.free 0
        have f1 := H7.out.free 1
        simp only [List.getElem?_toArray, List.getElem?_cons_zero, List.getElem?_cons_succ] at r0 r1 p0' p1'
        clear hc2 c2
        go_wp2
        go_roundg (gk - 1)
        case measure => have := HK.out; have := HLT.out; omega
        case rel =>
         exact ⟨k + 1, by have := HK.out; have := HLT.out; omega, by go_num, hid (by rw [HST.out, HTL.out]; exact (H6.out.far (p := ⟨w.heap.size + 1, 0, none⟩) (by simp) _).far (p := ⟨w.heap.size + 1, 1, none⟩) (by simp) _), hid (by rw [HST.out, HTV.out]; exact (H7.out.set 0 _).set 1 _), hid (by have := HPV.out; rw [HST.out]; unfold bdP; simp only; omega), hid ((HR.out.set' 0 _).set' 1 _), hid ((HB.out.setCell (p := ⟨w.heap.size + 1, 0, none⟩) (by simp) _).setCell (p := ⟨w.heap.size + 1, 1, none⟩) (by simp) _)⟩
      · have hc2 : decide (hi < v) = false := decide_eq_false c2
        rw [hc2]
        have HST := hid (HST.out.trans (if_neg c2))
        clear hc2 c2
        go_wp2
        go_roundg (gk - 1)
        case measure => have := HK.out; have := HLT.out; omega
        case rel =>
         exact ⟨k + 1, by have := HK.out; have := HLT.out; omega, by go_num, hid (by rw [HST.out, HTL.out]; exact H6.out), hid (by rw [HST.out, HTH.out]; exact H7.out), hid (by have := HPV.out; rw [HST.out]; unfold bdP; simp only; omega), HR, HB⟩
  · obtain rfl : k = m := by have := HK.out; omega
    rw [List.take_of_length_le (by have := HM.out; omega)] at H6 H7 HPB
    have HFIN : ∀ p : Int × Int, p = bndFrom e p0 cs → Hid (Value.tuple #[.agg #[.int .i64 (tw p.1).1, .int .i64 (tw p.1).2], .agg #[.int .i64 (tw p.2).1, .int .i64 (tw p.2).2], .int .i64 0] = .tuple #[frV (tw (bndFrom e (evOf e x0, evOf e x0) cs).1), frV (tw (bndFrom e (evOf e x0, evOf e x0) cs).2), .int .i64 0]) := fun p hp => hid (by rw [hp, HP00.out]; rfl)
    have HFIN := HFIN _ rfl
    unfold twC at H6 H7
    generalize tw (bndFrom e p0 cs).1 = LO at *
    generalize tw (bndFrom e p0 cs).2 = HI2 at *
    have r0 := H6.out.cell 0
    have r1 := H6.out.cell 1
    have s0 := H7.out.cell 0
    have s1 := H7.out.cell 1
    have f60 := H6.out.free 0
    have f61 := H6.out.free 1
    have f70 := H7.out.free 0
    have f71 := H7.out.free 1
    simp only [List.getElem?_toArray, List.getElem?_cons_zero, List.getElem?_cons_succ] at r0 r1 s0 s1
    clear hk HPB HR HEV HBB
    go_wp2_with fail
    go_region
    all_goals go_wp2
    all_goals exact bodyPost_ret (results_rows_tmp rfl _ _ w.heap.size (w.heap.size + 1) 48 48 #[.int .i64 LO.1, .int .i64 LO.2] #[.int .i64 HI2.1, .int .i64 HI2.2] (0, 0) (0, 0) _ _ rfl rfl ((((H6.out.drew.set 0 _).set 1 _).far (p := ⟨w.heap.size + 1, 0, none⟩) (by simp) _).far (p := ⟨w.heap.size + 1, 1, none⟩) (by simp) _) ((((H7.out.drew.far (p := ⟨w.heap.size, 0, none⟩) (by simp) _).far (p := ⟨w.heap.size, 1, none⟩) (by simp) _).set 0 _).set 1 _) Tryz.underlying48 rfl (by kernel_rfl) Tryz.underlying48 rfl (by kernel_rfl)) rfl ⟨by rw [← HFIN.out]; rfl, (((HB.out.drew.setCell (p := ⟨w.heap.size, 0, none⟩) (Nat.le_refl _) _).setCell (p := ⟨w.heap.size, 1, none⟩) (Nat.le_refl _) _).setCell (p := ⟨w.heap.size + 1, 0, none⟩) (by simp) _).setCell (p := ⟨w.heap.size + 1, 1, none⟩) (by simp) _⟩
end Go.Proofs.YtapeledneokgpaaGreatDoor
/- Walk of bets.Price at three worlds. Conditions: bets that a table of three worlds takes, and that some belief agrees with. -/
namespace Go.Proofs.YtapeledneokgpaaGreatDoor
open Go.RowKit Go.Maps
def nV (l : List Nat) : List Value := l.map fun i : Nat => Value.int .i64 i
theorem nV_push (l : List Nat) (x : Nat) : nV l ++ [Value.int .i64 (x : Nat)] = nV (l ++ [x]) := by unfold nV; simp
set_option maxRecDepth 100000 in
set_option maxHeartbeats 4000000 in
theorem priceNo (A : Option Addr) (n c : Nat) (l : List (Int × Int)) (e : Nat) (he : e ≤ 1000) (h8 : ¬ e < 8) (w : World) (hs : Sl2 w A n c l) (hl : BetOk l) :
 Calls Tryz.prog 33 #[.int .i64 3, .slice A n c, .int .i64 (e : Nat)] w fun r w' => r = .returned (.tuple #[.slice none 0 0, .int .i64 2]) ∧ Below w.heap.size w w' := by
 have HBF := hid (boundsNo A n c l e he h8 w hs hl)
 unfold frV at HBF
 clear hs hl h8 he
 go_enter Tryz.func33, Tryz.ntmps33
 go_wp2_with fail
 refine (HBF.out).mono ?_; rintro r w1 ⟨rfl, b1⟩
 have HB := hid ((b1.alloc b1.size (.cells #[.int .i64 0, .int .i64 0] 48)).alloc (by have := b1.size; simp; omega) (.cells #[.int .i64 0, .int .i64 0] 48))
 clear HBF b1
 go_wp2
 go_ret2
 exact ⟨rfl, HB.out⟩
def priB (lo hi : Int) (k : Nat) : Bool := !decide ((k : Int) < lo) && !decide (hi < (k : Int))
set_option maxRecDepth 100000 in
set_option maxHeartbeats 8000000 in
theorem priceF (A : Option Addr) (n c : Nat) (l : List (Int × Int)) (e : Nat) (h8 : e < 8) (w : World) (hs : Sl2 w A n c l) (hl : BetOk l) (hc0 : cornersL l ≠ []) :
 Calls Tryz.prog 33 #[.int .i64 3, .slice A n c, .int .i64 (e : Nat)] w fun r w' => ∃ O oc, r = .returned (.tuple #[.slice O (priceL l e).length oc, .int .i64 0]) ∧ Sl w' O (priceL l e).length oc (nV (priceL l e)) ∧ Below w.heap.size w w' := by
 have HBF := hid (boundsF A n c l e h8 w hs hl hc0)
 have hbd := bnd_ok hl hc0 (e : Int)
 have hpr : priceL l e = (List.range 13).filter (priB (bndL e (cornersL l)).1 (bndL e (cornersL l)).2) := rfl
 rw [hpr]
 generalize (bndL e (cornersL l)).1 = lo at *
 generalize (bndL e (cornersL l)).2 = hi at *
 unfold frV at HBF
 have HBD := hid hbd
 have HL1 := hid fun (k : Nat) (hk : k < 13) W => lessT k lo (by unfold rg; omega) (by unfold rg; omega) (by unfold rg; omega) W
 have HL2 := hid fun (k : Nat) (hk : k < 13) W => lessT hi k (by unfold rg; omega) (by unfold rg; omega) (by unfold rg; omega) W
 have HFR := hid fun (k : Nat) (hk : k < 13) W => frac_tw k (by unfold rg; omega) W
 unfold frV at HL1 HL2 HFR
 generalize tw lo = LO at *
 generalize tw hi = HI2 at *
 clear hs hl h8 hc0 hbd hpr
 go_enter Tryz.func33, Tryz.ntmps33
 go_wp2_with fail
 refine (HBF.out).mono ?_; rintro r w1 ⟨rfl, b1⟩
 have H8 := hid ((Blk.new w1 48 #[.int .i64 LO.1, .int .i64 LO.2]).alloc (.cells #[.int .i64 HI2.1, .int .i64 HI2.2] 48))
 have H9 := hid (Blk.new_at (w1.alloc (.cells #[.int .i64 LO.1, .int .i64 LO.2] 48)) 48 #[.int .i64 HI2.1, .int .i64 HI2.2] (n := w1.heap.size + 1) (by simp))
 have HB := hid ((b1.alloc b1.size (.cells #[.int .i64 LO.1, .int .i64 LO.2] 48)).alloc (by have := b1.size; simp; omega) (.cells #[.int .i64 HI2.1, .int .i64 HI2.2] 48))
 clear HBF b1
 go_wp2_with fail
 generalize (w1.alloc (.cells #[.int .i64 LO.1, .int .i64 LO.2] 48)).alloc (.cells #[.int .i64 HI2.1, .int .i64 HI2.2] 48) = W0 at *
 go_loopg [11, 25] 13 (fun gk v i wr => ∃ (k : Nat) (O : Option Addr) (oc : Nat), gk + k = 13 ∧ i = .int .i64 k ∧ v = .slice O ((List.range k).filter (priB lo hi)).length oc ∧ Hid (wr.ownsRow W0.heap.size 3 1 (.slice O ((List.range k).filter (priB lo hi)).length oc) ((List.range k).filter (priB lo hi)).length (nV ((List.range k).filter (priB lo hi)))) ∧ Hid (Below W0.heap.size W0 wr))
 case atStart => exact ⟨0, none, 0, rfl, rfl, rfl, hid (World.ownsRow_nil _ _ _ _), hid (Below.refl _ _)⟩
 case round =>
  obtain ⟨k, O, oc, hk, rfl, rfl, HO, HBB⟩ := hrel
  have HK := hid hk
  by_cases hlt : k < 13
  · have HLT := hid hlt
    have hk3 : (k : Int) < 13 := by omega
    have HF := hid (HFR.out k hlt wr)
    have HG1 := hid (HL1.out k hlt)
    have HG2 := hid (HL2.out k hlt)
    have hrs : (List.range (k + 1)).filter (priB lo hi) = (List.range k).filter (priB lo hi) ++ (if priB lo hi k then [k] else []) := by
     rw [List.range_succ, List.filter_append]
     congr 1
     cases hh : priB lo hi k <;> simp [hh]
    have HRS := hid hrs
    have hln : ((List.range k).filter (priB lo hi)).length ≤ 13 := by
     have := List.length_filter_le (priB lo hi) (List.range k)
     rw [List.length_range] at this
     omega
    have H8 := hid (H8.out.below HBB.out H8.out.lt)
    have H9 := hid (H9.out.below HBB.out H9.out.lt)
    generalize tw (k : Nat) = V at *
    clear hk hrs
    go_wp2_with fail
    refine (HF.out).mono ?_; rintro r w4 ⟨rfl, b4⟩
    have bA := b4.alloc b4.size (.cells #[.int .i64 V.1, .int .i64 V.2] 48)
    have HOA := hid (own_below HO.out bA)
    have HBA := hid (below_call HBB.out bA HBB.out.size)
    have H8 := hid (H8.out.keep bA)
    have H9 := hid (H9.out.keep bA)
    have H13 := hid (Blk.new w4 48 #[.int .i64 V.1, .int .i64 V.2])
    have p0 := H13.out.cell 0
    have p1 := H13.out.cell 1
    have r0 := H8.out.cell 0
    have r1 := H8.out.cell 1
    simp only [List.getElem?_toArray, List.getElem?_cons_zero, List.getElem?_cons_succ] at p0 p1 r0 r1
    clear HF HO HBB b4 bA
    go_wp2_with fail
    generalize w4.alloc (.cells #[.int .i64 V.1, .int .i64 V.2] 48) = W4 at *
    refine (HG1.out _).mono ?_; rintro r w5 ⟨rfl, b5⟩
    have HO := hid (own_below HOA.out b5)
    have HBB := hid (below_call HBA.out b5 HBA.out.size)
    have H9 := hid (H9.out.keep b5); have H13 := hid (H13.out.keep b5)
    clear b5 HG1 p0 p1 r0 r1 HOA HBA H8
    by_cases c1 : (k : Int) < lo
    · have hc1 : decide ((k : Int) < lo) = true := decide_eq_true c1
      rw [hc1]
      have hpk : priB lo hi k = false := by unfold priB; rw [hc1]; rfl
      rw [hpk, if_neg Bool.false_ne_true, List.append_nil] at HRS
      clear hc1 c1 HG2 hpk
      go_wp2
      go_roundg (gk - 1)
      case measure => have := HK.out; have := HLT.out; omega
      case rel => exact ⟨k + 1, O, oc, by have := HK.out; have := HLT.out; omega, by go_num, by rw [HRS.out], by rw [HRS.out]; exact HO, HBB⟩
    · have hc1 : decide ((k : Int) < lo) = false := decide_eq_false c1
      rw [hc1]
      have p0 := H13.out.cell 0
      have p1 := H13.out.cell 1
      have r0 := H9.out.cell 0
      have r1 := H9.out.cell 1
      simp only [List.getElem?_toArray, List.getElem?_cons_zero, List.getElem?_cons_succ] at p0 p1 r0 r1
      have HC1 := hid hc1
      clear hc1 c1
      go_wp2_with fail
      refine (HG2.out _).mono ?_; rintro r w6 ⟨rfl, b6⟩
      have HO := hid (own_below HO.out b6)
      have HBB := hid (below_call HBB.out b6 HBB.out.size)
      clear b6 HG2 p0 p1 r0 r1 H9 H13
      by_cases c2 : hi < (k : Int)
      · have hc2 : decide (hi < (k : Int)) = true := decide_eq_true c2
        rw [hc2]
        have hpk : priB lo hi k = false := by unfold priB; rw [hc2]; simp
        rw [hpk, if_neg Bool.false_ne_true, List.append_nil] at HRS
        clear hc2 c2 hpk
        go_wp2
        go_roundg (gk - 1)
        case measure => have := HK.out; have := HLT.out; omega
        case rel => exact ⟨k + 1, O, oc, by have := HK.out; have := HLT.out; omega, by go_num, by rw [HRS.out], by rw [HRS.out]; exact HO, HBB⟩
      · have hc2 : decide (hi < (k : Int)) = false := decide_eq_false c2
        rw [hc2]
        have hpk : priB lo hi k = true := by unfold priB; rw [hc2, HC1.out]; rfl
        rw [hpk, if_pos rfl] at HRS
        clear hc2 c2 hpk
        generalize hL : (List.range k).filter (priB lo hi) = L at *
        clear hL
        go_wp2_with (at_builtin; refine push1L TI27 w6 #[.int .i64 (k : Nat)] W0.heap.size _ _ _ HO.out _ _ w6.heap.size rfl rfl rfl rfl rfl rfl (by simp [Value.oneCell']) (by omega) (by omega) HBB.out.size ?_; intro v1 w8 hown1 hgr hap; obtain ⟨O8, c8, rfl⟩ := own_form hown1; have HO8 := hid (show w8.ownsRow W0.heap.size 3 1 (.slice O8 (L.length + 1) c8) (L.length + 1) (nV (L ++ [k])) from by rw [← nV_push]; exact hown1); have HB8 := hid (HBB.out.grown hgr HBB.out.size (fun g hg => (HO.out.lt g hg).1)); clear hown1 hgr hap)
        go_roundg (gk - 1)
        case measure => have := HK.out; have := HLT.out; omega
        case rel => exact ⟨k + 1, O8, c8, by have := HK.out; have := HLT.out; omega, by go_num, by rw [HRS.out, List.length_append, List.length_singleton], by rw [HRS.out, List.length_append, List.length_singleton]; exact HO8, HB8⟩
  · obtain rfl : k = 13 := by have := HK.out; omega
    clear hk hlt
    go_wp2
    go_ret2
    exact ⟨_, _, rfl, Sl.of_own HO.out, below_call HB.out HBB.out HB.out.size⟩
end Go.Proofs.YtapeledneokgpaaGreatDoor
