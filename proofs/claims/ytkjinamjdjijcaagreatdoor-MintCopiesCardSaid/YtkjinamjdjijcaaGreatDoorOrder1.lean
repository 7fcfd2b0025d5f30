/- Walks of order.read and of lines at one element. Condition: the library's table of 64 numbers stands in its variable. -/
import Derived.Test.YtkjinamjdjijcaaGreatDoorElem
import Derived.Test.YtkjinamjdjijcaaGreatDoorClone0
import Derived.Laws.IdiomCopy
namespace Go.Proofs.YtkjinamjdjijcaaGreatDoor
open Go.RowKit Go.Shelf
attribute [local go_sem] Oper.semAt_some

/-- Two results, each in a block: a struct, and a plain value. -/
theorem results_row_var {P : Program} {fn : Func} {p q : Tmp} {ty ty2 : TypeId} (h : fn.results = #[.cell p ty, .cell q ty2]) (tmps : Array Value) (w : World) (g g2 : Nat) (t : TypeId) (cs : Array Value) (fr : Nat × Nat) (d : TypeDesc) (v : Value)
    (hp : tmps.getD p undef = .pointer (some ⟨g, 0, none⟩)) (hq : tmps.getD q undef = .pointer (some ⟨g2, 0, none⟩)) (hg : w.heap[g]? = some (.cells cs t fr)) (hl : (loadVar ty2 ⟨g2, 0, none⟩).run P w = .ok v w)
    (hu : P.underlying ty = some d) (hd : (match d with | .struct _ | .array _ _ => true | _ => false) = true) (hi : (P.info? ty).map (·.size) = some cs.size) :
    (results fn tmps).run P w = .ok (.tuple #[.agg cs, v]) w := by
  have hp' : tmps[p]?.getD undef = .pointer (some ⟨g, 0, none⟩) := by simpa using hp
  have hq' : tmps[q]?.getD undef = .pointer (some ⟨g2, 0, none⟩) := by simpa using hq
  simp only [results, h]
  simp [Sem.run_bind, Result.andThen, hp', hq', asAddr, run_loadVar_row w g t ty cs fr d hg hu hd hi, hl]
theorem loadVar_bool {w : World} {g2 : Nat} {t2 : TypeId} {b : Bool} (hg2 : Blk w g2 t2 #[.bool b]) : (loadVar 4 ⟨g2, 0, none⟩).run Tryz.prog w = .ok (.bool b) w := by
  have hc : w.cell? ⟨g2, 0, none⟩ = some (.bool b) := hg2.cell 0
  simp [loadVar, Sem.run_bind, Tryz.isAgg4, Result.andThen, hc]
/-- The cells of the order of one element. -/
def ord1 : Array Value := #[.int .i64 1, .int .i64 0, .int .i64 0, .int .i64 0, .int .i64 0, .int .i64 0, .int .i64 0]
set_option maxRecDepth 100000 in
set_option maxHeartbeats 4000000 in
theorem orderRead1 (A : Option Addr) (c : Nat) (w : World) (hs : Sl w A 1 c [.int .i64 0]) (hT : Tab w) :
    Calls Tryz.prog 118 #[.slice A 1 c] w fun e w' => e = .returned (.tuple #[.agg ord1, .bool true]) ∧ Below w.heap.size w w' := by
  obtain ⟨b, o, u, rfl, lb, e1, ca⟩ := hs.at (k := 0) (by omega)
  simp only [List.getElem?_cons_zero, Option.some.injEq, Nat.add_zero] at e1 ca
  subst e1
  refine (callsIn_wide (n := 9)).1 ?_
  refine callsIn_of_wp_marks Tryz.func118 rfl trivial ?_ rfl
  simp only [Tryz.ntmps118, List.size_toArray, List.length_cons, List.length_nil, Nat.reduceAdd, Nat.reduceSub, Array.replicate_succ, Array.replicate_zero, List.push_toArray, List.append_toArray, List.nil_append, List.cons_append]
  have HT := hid hT
  have X0 := hid ((((Blk.new w 98 #[.slice (some ⟨b, o, none⟩) 1 c]).alloc (.cells #[.int .i64 0, .int .i64 0, .int .i64 0, .int .i64 0, .int .i64 0, .int .i64 0, .int .i64 0] 174)).alloc (.cells #[.bool false] 4)).alloc (.cells ord1 174))
  have X1 := hid (((Blk.new_at (w.alloc (.cells #[.slice (some ⟨b, o, none⟩) 1 c] 98)) 174 #[.int .i64 0, .int .i64 0, .int .i64 0, .int .i64 0, .int .i64 0, .int .i64 0, .int .i64 0] (n := w.heap.size + 1) (by simp)).alloc (.cells #[.bool false] 4)).alloc (.cells ord1 174))
  have X2 := hid ((Blk.new_at ((w.alloc (.cells #[.slice (some ⟨b, o, none⟩) 1 c] 98)).alloc (.cells #[.int .i64 0, .int .i64 0, .int .i64 0, .int .i64 0, .int .i64 0, .int .i64 0, .int .i64 0] 174)) 4 #[.bool false] (n := w.heap.size + 1 + 1) (by simp)).alloc (.cells ord1 174))
  have X3 := hid (Blk.new_at (((w.alloc (.cells #[.slice (some ⟨b, o, none⟩) 1 c] 98)).alloc (.cells #[.int .i64 0, .int .i64 0, .int .i64 0, .int .i64 0, .int .i64 0, .int .i64 0, .int .i64 0] 174)).alloc (.cells #[.bool false] 4)) 174 ord1 (n := w.heap.size + 1 + 1 + 1) (by simp))
  have XB := hid (((((Below.refl w.heap.size w).alloc (Nat.le_refl _) (.cells #[.slice (some ⟨b, o, none⟩) 1 c] 98)).alloc (by simp) (.cells #[.int .i64 0, .int .i64 0, .int .i64 0, .int .i64 0, .int .i64 0, .int .i64 0, .int .i64 0] 174)).alloc (by simp; omega) (.cells #[.bool false] 4)).alloc (by simp; omega) (.cells ord1 174))
  clear hT
  simp only [ord1] at X0 X1 X2 X3 XB
  gi_wp2
  generalize ((((w.alloc (.cells #[.slice (some ⟨b, o, none⟩) 1 c] 98)).alloc (.cells #[.int .i64 0, .int .i64 0, .int .i64 0, .int .i64 0, .int .i64 0, .int .i64 0, .int .i64 0] 174)).alloc (.cells #[.bool false] 4)).alloc (.cells #[.int .i64 1, .int .i64 0, .int .i64 0, .int .i64 0, .int .i64 0, .int .i64 0, .int .i64 0] 174)) = W at *
  have cW := cell_keep XB.out ca
  have x0 := X0.out.cell 0
  simp only [List.getElem?_toArray, List.getElem?_cons_zero] at x0
  have hcp := run_copy_cells (P := Tryz.prog) W.drew 98 98 3 3 (w.heap.size + 1 + 1 + 1) 1 6 6 ⟨b, o, none⟩ 1 c [.int .i64 0] Tryz.underlying98 (by kernel_rfl) (by decide) (fun j v hv => by
    match j, hv with
    | 0, hv => simp at hv; subst hv; simpa [Addr.add] using cW) (fun j hj => by
    have : j = 0 := by simp at hj; omega
    subst this
    have := X3.out.drew.cell 1
    simp at this
    simp [this]) (fun j hj => X3.out.drew.free _) (by simp [Value.oneCell'])
  simp only [World.setCells, List.length_cons, List.length_nil] at hcp
  gi_region
  all_goals gi_wp2
  have Y0 := hid ((X0.out.far (p := ⟨w.heap.size + 1 + 1 + 1, 1, none⟩) (by simp; omega) (.int .i64 0)).drew)
  have Y1 := hid ((X1.out.far (p := ⟨w.heap.size + 1 + 1 + 1, 1, none⟩) (by simp) (.int .i64 0)).drew)
  have Y2 := hid ((X2.out.far (p := ⟨w.heap.size + 1 + 1 + 1, 1, none⟩) (by simp) (.int .i64 0)).drew)
  have Y3 := hid (show Blk (W.setCell ⟨w.heap.size + 1 + 1 + 1, 1, none⟩ (.int .i64 0)).drew (w.heap.size + 1 + 1 + 1) 174 ord1 from (X3.out.set 1 (.int .i64 0)).drew)
  have YB := hid ((XB.out.setCell (p := ⟨w.heap.size + 1 + 1 + 1, 1, none⟩) (by simp; omega) (.int .i64 0)).drew)
  clear X0 X1 X2 X3 XB cW x0 hcp
  generalize (W.setCell ⟨w.heap.size + 1 + 1 + 1, 1, none⟩ (.int .i64 0)).drew = V at *
  have cV := cell_keep YB.out ca
  have y0 := Y0.out.cell 0
  simp only [List.getElem?_toArray, List.getElem?_cons_zero] at y0
  refine wpIn_loop_rounds 2 ?_
  rw [roundsIn_succ]
  gi_wp2
  have S6 := (Blk.new V 3 #[.int .i64 0]).cell 0
  simp only [List.getElem?_toArray, List.getElem?_cons_zero] at S6
  have y0a := (Y0.out.alloc (.cells #[.int .i64 0] 3)).cell 0
  simp only [List.getElem?_toArray, List.getElem?_cons_zero] at y0a
  gi_region
  all_goals gi_wp2
  refine ⟨trivial, (callsIn_wide.2 (elementsF 0 _)).mono ?_⟩
  rintro e w' ⟨rfl, rfl⟩
  have Z0 := hid ((((Y0.out.alloc (.cells #[.int .i64 0] 3))).alloc (.cells #[.int .i64 0] 3)).drew)
  have Z1 := hid ((((Y1.out.alloc (.cells #[.int .i64 0] 3))).alloc (.cells #[.int .i64 0] 3)).drew)
  have Z2 := hid ((((Y2.out.alloc (.cells #[.int .i64 0] 3))).alloc (.cells #[.int .i64 0] 3)).drew)
  have Z3 := hid ((((Y3.out.alloc (.cells #[.int .i64 0] 3))).alloc (.cells #[.int .i64 0] 3)).drew)
  have ZC := hid ((Blk.new_at (V.alloc (.cells #[.int .i64 0] 3)) 3 #[.int .i64 0] (n := V.heap.size + 1) (by simp)).drew)
  have ZB := hid ((((YB.out.alloc YB.out.size (.cells #[.int .i64 0] 3))).alloc (by have := YB.out.size; simp; omega) (.cells #[.int .i64 0] 3)).drew)
  have HK3 := hid Y3.out.lt
  have hsz : (((V.alloc (.cells #[.int .i64 0] 3)).alloc (.cells #[.int .i64 0] 3)).drew).heap.size = V.heap.size + 2 := by simp
  have HSZ := hid hsz
  clear hsz Y0 Y1 Y2 Y3 YB S6 y0a y0 cV
  gi_wp2
  generalize ((V.alloc (.cells #[.int .i64 0] 3)).alloc (.cells #[.int .i64 0] 3)).drew = G at *
  have HTG := hid (HT.out.below ZB.out)
  refine wp_range (n := 9) (gf := 225) (c := V.heap.size + 1) (t := 3) (xs := []) rfl (fun args w => enters Tryz.func225 (by kernel_rfl) rfl args w) ZC.out (elems_iter 8 _ 0 [] G rfl ZC.out) rfl
    (fun _ W => (((Blk W w.heap.size 98 #[.slice (some ⟨b, o, none⟩) 1 c] ∧ Blk W (w.heap.size + 1) 174 #[.int .i64 0, .int .i64 0, .int .i64 0, .int .i64 0, .int .i64 0, .int .i64 0, .int .i64 0]) ∧ Blk W (w.heap.size + 1 + 1) 4 #[.bool false] ∧ Blk W (w.heap.size + 1 + 1 + 1) 174 ord1) ∧ Below w.heap.size w W) ∧ Tab W)
    (fun _ _ => False) ?_ (fun _ _ _ _ _ hs _ _ => hs) ?_ (fun _ _ h => h.2) ⟨⟨⟨⟨Z0.out, Z1.out⟩, Z2.out, Z3.out⟩, ZB.out⟩, HTG.out⟩ ?_ ?_ (fun _ _ _ _ h _ => h.elim)
  · exact OwnFrom.and (OwnFrom.and (OwnFrom.and (OwnFrom.and (ownFrom_blk _ _ _ _) (ownFrom_blk _ _ _ _)) (OwnFrom.and (ownFrom_blk _ _ _ _) (ownFrom_blk _ _ _ _))) (ownFrom_below (Nat.le_refl _) ZB.out.size)) (ownFrom_tab (by have := HTG.out.pos; omega))
  · rintro k W v ⟨⟨⟨⟨h1, h2⟩, h3, h4⟩, h5⟩, h6⟩
    have := HK3.out
    exact ⟨⟨⟨⟨h1.far (p := ⟨V.heap.size + 1, 0, none⟩) (by simp; omega) _, h2.far (p := ⟨V.heap.size + 1, 0, none⟩) (by simp; omega) _⟩, h3.far (p := ⟨V.heap.size + 1, 0, none⟩) (by simp; omega) _, h4.far (p := ⟨V.heap.size + 1, 0, none⟩) (by simp; omega) _⟩, h5.setCell (p := ⟨V.heap.size + 1, 0, none⟩) (by simp; omega) _⟩, h6.grown (setGrown W ⟨V.heap.size + 1, 0, none⟩ v) (by have := HT.out.pos; simp; omega)⟩
  · intro l k x W W2 _ _ _ hx
    simp at hx
  · rintro D W hD ⟨⟨⟨⟨h1, h2⟩, h3, h4⟩, h5⟩, h6⟩ hK
    have G0 := hid h1
    have G1 := hid h2
    have G2 := hid h3
    have G3 := hid h4
    have GB := hid h5
    have GK := hid hK
    clear h1 h2 h3 h4 h5 h6 hK
    gi_wp2
    rw [roundsIn_succ]
    have a0 := G3.out.cell 0
    have b0 := G1.out.cell 0
    have e0 := G1.out.free 0
    have a1 := G3.out.cell 1
    have b1 := G1.out.cell 1
    have e1 := G1.out.free 1
    have a2 := G3.out.cell 2
    have b2 := G1.out.cell 2
    have e2 := G1.out.free 2
    have a3 := G3.out.cell 3
    have b3 := G1.out.cell 3
    have e3 := G1.out.free 3
    have a4 := G3.out.cell 4
    have b4 := G1.out.cell 4
    have e4 := G1.out.free 4
    have a5 := G3.out.cell 5
    have b5 := G1.out.cell 5
    have e5 := G1.out.free 5
    have a6 := G3.out.cell 6
    have b6 := G1.out.cell 6
    have e6 := G1.out.free 6
    have q0 := G2.out.cell 0
    have e7 := G2.out.free 0
    simp only [ord1, List.getElem?_toArray, List.getElem?_cons_zero, List.getElem?_cons_succ] at a0 a1 a2 a3 a4 a5 a6 b0 b1 b2 b3 b4 b5 b6 q0
    gi_wp2
    have := HK3.out
    have := HSZ.out
    have F1 := hid (show Blk ((((((((W.setCell ⟨w.heap.size + 1, 0, none⟩ (.int .i64 1)).setCell ⟨w.heap.size + 1, 1, none⟩ (.int .i64 0)).setCell ⟨w.heap.size + 1, 2, none⟩ (.int .i64 0)).setCell ⟨w.heap.size + 1, 3, none⟩ (.int .i64 0)).setCell ⟨w.heap.size + 1, 4, none⟩ (.int .i64 0)).setCell ⟨w.heap.size + 1, 5, none⟩ (.int .i64 0)).setCell ⟨w.heap.size + 1, 6, none⟩ (.int .i64 0)).setCell ⟨w.heap.size + 1 + 1, 0, none⟩ (.bool true)) (w.heap.size + 1) 174 ord1 from (((((((G1.out.set 0 (.int .i64 1)).set 1 (.int .i64 0)).set 2 (.int .i64 0)).set 3 (.int .i64 0)).set 4 (.int .i64 0)).set 5 (.int .i64 0)).set 6 (.int .i64 0)).far (p := ⟨w.heap.size + 1 + 1, 0, none⟩) (by simp) (.bool true))
    have F2 := hid (show Blk ((((((((W.setCell ⟨w.heap.size + 1, 0, none⟩ (.int .i64 1)).setCell ⟨w.heap.size + 1, 1, none⟩ (.int .i64 0)).setCell ⟨w.heap.size + 1, 2, none⟩ (.int .i64 0)).setCell ⟨w.heap.size + 1, 3, none⟩ (.int .i64 0)).setCell ⟨w.heap.size + 1, 4, none⟩ (.int .i64 0)).setCell ⟨w.heap.size + 1, 5, none⟩ (.int .i64 0)).setCell ⟨w.heap.size + 1, 6, none⟩ (.int .i64 0)).setCell ⟨w.heap.size + 1 + 1, 0, none⟩ (.bool true)) (w.heap.size + 1 + 1) 4 #[.bool true] from (((((((G2.out.far (p := ⟨w.heap.size + 1, 0, none⟩) (by simp) (.int .i64 1)).far (p := ⟨w.heap.size + 1, 1, none⟩) (by simp) (.int .i64 0)).far (p := ⟨w.heap.size + 1, 2, none⟩) (by simp) (.int .i64 0)).far (p := ⟨w.heap.size + 1, 3, none⟩) (by simp) (.int .i64 0)).far (p := ⟨w.heap.size + 1, 4, none⟩) (by simp) (.int .i64 0)).far (p := ⟨w.heap.size + 1, 5, none⟩) (by simp) (.int .i64 0)).far (p := ⟨w.heap.size + 1, 6, none⟩) (by simp) (.int .i64 0)).set 0 (.bool true))
    have FB := hid ((((((((GB.out.setCell (p := ⟨w.heap.size + 1, 0, none⟩) (by simp) (.int .i64 1)).setCell (p := ⟨w.heap.size + 1, 1, none⟩) (by simp) (.int .i64 0)).setCell (p := ⟨w.heap.size + 1, 2, none⟩) (by simp) (.int .i64 0)).setCell (p := ⟨w.heap.size + 1, 3, none⟩) (by simp) (.int .i64 0)).setCell (p := ⟨w.heap.size + 1, 4, none⟩) (by simp) (.int .i64 0)).setCell (p := ⟨w.heap.size + 1, 5, none⟩) (by simp) (.int .i64 0)).setCell (p := ⟨w.heap.size + 1, 6, none⟩) (by simp) (.int .i64 0)).setCell (p := ⟨w.heap.size + 1 + 1, 0, none⟩) (by simp; omega) (.bool true))
    have FK : Hid (((((((((W.setCell ⟨w.heap.size + 1, 0, none⟩ (.int .i64 1)).setCell ⟨w.heap.size + 1, 1, none⟩ (.int .i64 0)).setCell ⟨w.heap.size + 1, 2, none⟩ (.int .i64 0)).setCell ⟨w.heap.size + 1, 3, none⟩ (.int .i64 0)).setCell ⟨w.heap.size + 1, 4, none⟩ (.int .i64 0)).setCell ⟨w.heap.size + 1, 5, none⟩ (.int .i64 0)).setCell ⟨w.heap.size + 1, 6, none⟩ (.int .i64 0)).setCell ⟨w.heap.size + 1 + 1, 0, none⟩ (.bool true)).heap[D]? = some (.deferred (some []))) := hid ((Below.heap_setCell _ ⟨w.heap.size + 1 + 1, 0, none⟩ _ _ (by simp; omega)).trans ((Below.heap_setCell _ ⟨w.heap.size + 1, 6, none⟩ _ _ (by simp; omega)).trans ((Below.heap_setCell _ ⟨w.heap.size + 1, 5, none⟩ _ _ (by simp; omega)).trans ((Below.heap_setCell _ ⟨w.heap.size + 1, 4, none⟩ _ _ (by simp; omega)).trans ((Below.heap_setCell _ ⟨w.heap.size + 1, 3, none⟩ _ _ (by simp; omega)).trans ((Below.heap_setCell _ ⟨w.heap.size + 1, 2, none⟩ _ _ (by simp; omega)).trans ((Below.heap_setCell _ ⟨w.heap.size + 1, 1, none⟩ _ _ (by simp; omega)).trans ((Below.heap_setCell _ ⟨w.heap.size + 1, 0, none⟩ _ _ (by simp; omega)).trans GK.out))))))))
    clear a0 b0 e0 a1 b1 e1 a2 b2 e2 a3 b3 e3 a4 b4 e4 a5 b5 e5 a6 b6 e6 q0 e7
    generalize ((((((((W.setCell ⟨w.heap.size + 1, 0, none⟩ (.int .i64 1)).setCell ⟨w.heap.size + 1, 1, none⟩ (.int .i64 0)).setCell ⟨w.heap.size + 1, 2, none⟩ (.int .i64 0)).setCell ⟨w.heap.size + 1, 3, none⟩ (.int .i64 0)).setCell ⟨w.heap.size + 1, 4, none⟩ (.int .i64 0)).setCell ⟨w.heap.size + 1, 5, none⟩ (.int .i64 0)).setCell ⟨w.heap.size + 1, 6, none⟩ (.int .i64 0)).setCell ⟨w.heap.size + 1 + 1, 0, none⟩ (.bool true)) = F at *
    refine ⟨by simp, .inl ⟨_, _, rfl, run_takeDeferred FK.out, ?_⟩⟩
    have E1 : Blk (F.putObj D (.deferred none)) (w.heap.size + 1) 174 ord1 := (World.putObj_heap_other (by omega)).trans F1.out
    have E2 : Blk (F.putObj D (.deferred none)) (w.heap.size + 1 + 1) 4 #[.bool true] := (World.putObj_heap_other (by omega)).trans F2.out
    exact ⟨_, results_row_var rfl _ _ (w.heap.size + 1) (w.heap.size + 1 + 1) 174 ord1 (0, 0) _ (.bool true) rfl rfl E1 (loadVar_bool E2) Tryz.underlying174 rfl (by kernel_rfl), rfl, FB.out.trans (belowK_b (w := w) (Nat.le_refl _) F D _ _ (by omega) FK.out rfl rfl)⟩
end Go.Proofs.YtkjinamjdjijcaaGreatDoor
