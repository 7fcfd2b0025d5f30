/- Texts of this proof, one behind the other; each says its condition at its head. -/
import Derived.Test.YtciadmjdadnolaaGreatDoorK7
import Derived.Laws.EntriesVeiled
import Derived.WalkSmall
import Derived.Deep.CutRange
import Derived.Deep.RegionWith
import Derived.Deep.RegionHeld3
import Derived.Test.YtciadmjdadnolaaGreatDoorK1
/- Walk of find: a rule that is there, and the line behind its word. Conditions: what Cut, the rules, read and isLine say of the text. -/
namespace Go.Proofs.YtciadmjdadnolaaGreatDoor
open Go.RowKit Go.Maps
/-- The word of a text, ahead of its first blank. -/
def Word (s word : ByteArray) : Prop := ∀ w, MaxL w → Calls Tryz.prog 25 #[.string s, .string ⟨#[32]⟩] w fun e w' => ∃ (r : ByteArray) (b : Bool) (n : Nat), e = .returned (.tuple #[.string word, .string r, .bool b]) ∧ w.drewN n = w'
theorem word_of {s word : ByteArray} (hs : s.size < 4294967281) (h : (Lib.cut s.data.toList [32]).1 = word.data.toList) : Word s word := fun w ⟨m, hm⟩ =>
 (sh_strings_Cut s ⟨#[32]⟩ m w hs hm).mono fun _ _ ⟨h1, n, h2⟩ => ⟨_, _, n, h1.trans (by rw [show (ByteArray.mk #[32]).data.toList = [32] from rfl, h]), h2.symm⟩
/-- Three results, the first two in blocks. -/
theorem results_rows_tmp {P : Program} {fn : Func} {p q u : Tmp} {ty ty2 : TypeId} (h : fn.results = #[.cell p ty, .cell q ty2, .tmp u]) (tmps : Array Value) (w : World) (g g2 : Nat) (t t2 : TypeId) (cs cs2 : Array Value) (fr fr2 : Nat × Nat) (d d2 : TypeDesc)
 (hp : tmps.getD p undef = .pointer (some ⟨g, 0, none⟩)) (hq : tmps.getD q undef = .pointer (some ⟨g2, 0, none⟩)) (hg : w.heap[g]? = some (.cells cs t fr)) (hg2 : w.heap[g2]? = some (.cells cs2 t2 fr2))
 (hu : P.underlying ty = some d) (hd : (match d with | .struct _ | .array _ _ => true | _ => false) = true) (hi : (P.info? ty).map (·.size) = some cs.size)
 (hu2 : P.underlying ty2 = some d2) (hd2 : (match d2 with | .struct _ | .array _ _ => true | _ => false) = true) (hi2 : (P.info? ty2).map (·.size) = some cs2.size) :
 (results fn tmps).run P w = .ok (.tuple #[.agg cs, .agg cs2, tmps.getD u undef]) w := by
 have hp' : tmps[p]?.getD undef = .pointer (some ⟨g, 0, none⟩) := by simpa using hp
 have hq' : tmps[q]?.getD undef = .pointer (some ⟨g2, 0, none⟩) := by simpa using hq
 simp only [results, h]
 simp [Sem.run_bind, Result.andThen, hp', hq', asAddr, run_loadVar_row w g t ty cs fr d hg hu hd hi, run_loadVar_row w g2 t2 ty2 cs2 fr2 d2 hg2 hu2 hd2 hi2]
/-- What read says of a rule and a text: n names, in memory of its own. -/
def ReadSays (r0 r1 f1 f2 : Value) (s : ByteArray) (n : Nat) (xs : List Value) : Prop := ∀ w, MaxL w → Calls Tryz.prog 42 #[.agg #[r0, r1, f1, f2], .string s] w fun e w' => ∃ A c, e = .returned (.tuple #[.agg #[.slice A n c, .slice none 0 0], .bool true]) ∧ w'.ownsRow w.heap.size 9 1 (.slice A n c) n xs ∧ Below w.heap.size w w'
/-- What stands while find hands back. -/
structure FdS (w W : World) (R L : Array Value) (v : Value) (n : Nat) (xs : List Value) : Prop where
 rule : Blk W w.heap.size 88 R
 line : Blk W (w.heap.size + 1) 91 L
 own : W.ownsRow w.heap.size 9 1 v n xs
 low : Below w.heap.size w W
section
variable {w W W' : World} {R L : Array Value} {v : Value} {n : Nat} {xs : List Value}
theorem FdS.below (h : FdS w W R L v n xs) (hb : Below W.heap.size W W') : FdS w W' R L v n xs := ⟨h.rule.keep hb, h.line.keep hb, own_below h.own hb, below_call h.low hb h.low.size⟩
theorem FdS.drew (h : FdS w W R L v n xs) : FdS w W.drew R L v n xs := h.below (Below.refl _ W).drew
theorem FdS.setR (h : FdS w W R L v n xs) (i : Nat) (u : Value) : FdS w (W.setCell ⟨w.heap.size, i, none⟩ u) (R.setIfInBounds i u) L v n xs :=
 ⟨h.rule.set i u, h.line.far (p := ⟨w.heap.size, i, none⟩) (by simp) u, own_grown h.own h.rule (by decide) (setGrown W ⟨w.heap.size, i, none⟩ u), h.low.setCell (p := ⟨w.heap.size, i, none⟩) (Nat.le_refl _) u⟩
theorem FdS.setL (h : FdS w W R L v n xs) (i : Nat) (u : Value) : FdS w (W.setCell ⟨w.heap.size + 1, i, none⟩ u) R (L.setIfInBounds i u) v n xs :=
 ⟨h.rule.far (p := ⟨w.heap.size + 1, i, none⟩) (by simp) u, h.line.set i u, own_grown h.own h.line (by decide) (setGrown W ⟨w.heap.size + 1, i, none⟩ u), h.low.setCell (p := ⟨w.heap.size + 1, i, none⟩) (by simp) u⟩
end
section
variable {P : Program} {ops : Array Oper} {Q : Exit → Act → World → Prop} {md : Region.Mode} {S : World → Prop}
/-- An operation taken first, its temporary named. -/
theorem takeD {i : Nat} {oi : Oper} {v : Value} {fuel : Nat} {listed : Array Bool} {a : Act} {w : World} (d : Option Tmp) (hi : ops[i]? = some oi) (hd : oi.dst = d)
 (hs : Region.noSelect ops = true) (hf : Region.free md ops listed i = true) (hr : (Region.ready md ops listed).contains i = true)
 (hQ : ∀ c a w, Q (.panic c) (a.put d v) w → Q (.panic c) a w) (hy : YieldsIf P ops S oi v a) (hS : S w)
 (h : wpAnyH P md ops Q S fuel (listed.setIfInBounds i true) (a.put d v) w) : wpAnyH P md ops Q S (fuel + 1) listed a w := by
 subst hd
 exact wpAnyH_take hi hs hf hr hQ hy hS h
theorem tk {oi : Oper} {v : Value} {fuel : Nat} {listed : Array Bool} {a : Act} {w : World} (i : Nat) (d : Option Tmp) (hi : ops[i]? = some oi) (hd : oi.dst = d)
 (hw : Region.wanted oi (yielded ops a.tmps) = true) (hy : ∀ w, S w → (execOp a.eval oi).run P w = .ok (.value v) w) (hS : S w)
 (h : wpAnyH P md ops Q S fuel (listed.setIfInBounds i true) (a.put d v) w)
 (hs : Region.noSelect ops = true := by kernel_rfl) (hf : Region.free md ops listed i = true := by kernel_rfl) (hr : (Region.ready md ops listed).contains i = true := by kernel_rfl)
 (hQ : ∀ c a w, Q (.panic c) (a.put d v) w → Q (.panic c) a w := by exact fun _ _ _ h => h) : wpAnyH P md ops Q S (fuel + 1) listed a w :=
 takeD d hi hd hs hf hr hQ (Or.inl ⟨hw, hy⟩) hS h
end
/-- A store elsewhere leaves a cell. -/
theorem cell_far (w : World) {p a : Addr} {u v : Value} (h : ¬ a.block = p.block) (hc : w.cell? a = some v) : (w.setCell p u).cell? a = some v := (World.cell?_of_block (Below.heap_setCell w p u a.block h)).trans hc
set_option maxRecDepth 100000 in
set_option maxHeartbeats 4000000 in
theorem findDo (bm : Nat) (f : Value → Option Value) (s word : ByteArray) (r0 r1 : Int) (k : Nat) (n : Nat) (xs : List Value) (w : World) (hm : MaxL w) (hmap : MapX Tryz.prog 9 w bm f) (hw : Word s word) (hf : f (.string word) = some (.agg #[.int .i64 r0, .int .i64 r1, .func (.func k) #[] #[], .nilFunc]))
 (hkey : ∃ kl, keyOf Tryz.prog 9 (.string word) = some kl)
 (hr : ReadSays (.int .i64 r0) (.int .i64 r1) (.func (.func k) #[] #[]) (.nilFunc) s n xs) (hl : ∀ w, MaxL w → Calls Tryz.prog 43 #[.string s] w fun e w' => e = .returned (.bool true) ∧ Below w.heap.size w w') :
 Calls Tryz.prog 34 #[.map (some bm), .string s] w fun e w' => ∃ A c, e = .returned (.tuple #[.agg #[.int .i64 r0, .int .i64 r1, .func (.func k) #[] #[], .nilFunc], .agg #[.slice A n c, .slice none 0 0], .bool true]) ∧ w'.ownsRow w.heap.size 9 1 (.slice A n c) n xs ∧ Below w.heap.size w w' := by
 obtain ⟨kl, hkl⟩ := hkey
 have K : Keyed Tryz.prog 9 := string_keyed Tryz.underlying9
 have B1 : Below w.heap.size w ((w.alloc (.cells #[.int .i64 0, .int .i64 0, .nilFunc, .nilFunc] 88)).alloc (.cells #[.slice none 0 0, .slice none 0 0] 91)) := ((Below.refl _ w).alloc (Nat.le_refl _) _).alloc (by simp) _
 have HW := hid (hw _ (hm.keep B1))
 have X4 := hid ((Blk.new w 88 #[.int .i64 0, .int .i64 0, .nilFunc, .nilFunc]).alloc (.cells #[.slice none 0 0, .slice none 0 0] 91))
 have X5 := hid (Blk.new_at (w.alloc (.cells #[.int .i64 0, .int .i64 0, .nilFunc, .nilFunc] 88)) 91 #[.slice none 0 0, .slice none 0 0] (n := w.heap.size + 1) (by simp))
 have HMP := hid (hmap.keep B1)
 have HB1 := hid B1
 have HM := hid hm
 have HR := hid hr
 have HL := hid hl
 clear hw hm hmap hr hl B1
 go_enter Tryz.func34, Tryz.ntmps34
 go_wp2_with fail
 refine (HW.out).mono ?_; rintro e w1 ⟨rest, ok, kk, rfl, rfl⟩
 clear HW
 have HLK := HMP.out.look_in K Tryz.underlying94 hkl hf kk true
 have HBV := hid (below_drewN HB1.out kk)
 have V4 := hid (X4.out.drewN kk)
 have V5 := hid (X5.out.drewN kk)
 simp only [if_true] at HLK
 clear HMP HB1 X4 X5
 generalize ((w.alloc (.cells #[.int .i64 0, .int .i64 0, .nilFunc, .nilFunc] 88)).alloc (.cells #[.slice none 0 0, .slice none 0 0] 91)).drewN kk = V at *
 have V10 := hid (Blk.new V 88 #[.int .i64 r0, .int .i64 r1, .func (.func k) #[] #[], .nilFunc])
 have B10 := hid (HBV.out.alloc HBV.out.size (.cells #[.int .i64 r0, .int .i64 r1, .func (.func k) #[] #[], .nilFunc] 88))
 have HRD := hid (HR.out _ (HM.out.keep B10.out))
 have Q4 := hid (V4.out.alloc (.cells #[.int .i64 r0, .int .i64 r1, .func (.func k) #[] #[], .nilFunc] 88))
 have Q5 := hid (V5.out.alloc (.cells #[.int .i64 r0, .int .i64 r1, .func (.func k) #[] #[], .nilFunc] 88))
 have HV2 := hid (show w.heap.size + 2 ≤ V.heap.size from by have := V5.out.lt; omega)
 clear V4 V5
 go_wp2_with fail
 refine (HRD.out).mono ?_; rintro e w3 ⟨A, c, rfl, ho, b3⟩
 have J4 := hid (show FdS w (w3.alloc (.cells #[.slice A n c, .slice none 0 0] 91)) #[.int .i64 0, .int .i64 0, .nilFunc, .nilFunc] #[.slice none 0 0, .slice none 0 0] (.slice A n c) n xs from
  (show FdS w w3 _ _ _ _ _ from ⟨Q4.out.keep b3, Q5.out.keep b3, own_more ho B10.out.size, below_call B10.out b3 B10.out.size⟩).below ((Below.refl _ _).alloc (Nat.le_refl _) _))
 have Z10 := hid ((V10.out.keep b3).alloc (.cells #[.slice A n c, .slice none 0 0] 91))
 have Z12 := hid (Blk.new w3 91 #[.slice A n c, .slice none 0 0])
 have HV := hid HBV.out.size
 have HV3 := hid (show w.heap.size + 2 ≤ w3.heap.size from by have := Q5.out.lt; have := b3.size; simp at *; omega)
 clear ho b3 Q4 Q5 V10 HRD
 go_wp2_with fail
 generalize hW4 : w3.alloc (.cells #[.slice A n c, .slice none 0 0] 91) = W4 at *
 clear hW4
 have J4d := hid J4.out.drew
 have HLI := hid (HL.out W4.drew (HM.out.keep J4d.out.low))
 have z0 := Z10.out.cell 0
 have z1 := Z10.out.cell 1
 have z2 := Z10.out.cell 2
 have z3 := Z10.out.cell 3
 have y0 := Z12.out.cell 0
 have y1 := Z12.out.cell 1
 simp only [List.getElem?_toArray, List.getElem?_cons_zero, List.getElem?_cons_succ] at z0 z1 z2 z3 y0 y1
 clear HM HL HR Z10 Z12
 have HR4 := hid (show ∀ i, (w.heap.size == V.heap.size) = false ∧ (w.heap.size == w3.heap.size) = false ∧ i = i from fun i => by have := HV2.out; have := HV3.out; simp; omega)
 have n1 : ¬ V.heap.size = w.heap.size := by have := HV2.out; omega
 have n2 : ¬ w3.heap.size = w.heap.size := by have := HV3.out; omega
 have n3 : ¬ V.heap.size = w.heap.size + 1 := by have := HV2.out; omega
 have n4 : ¬ w3.heap.size = w.heap.size + 1 := by have := HV3.out; omega
 have n5 : ¬ w.heap.size = V.heap.size := fun e => n1 e.symm
 have n6 : ¬ w.heap.size = w3.heap.size := fun e => n2 e.symm
 have n7 : ¬ w.heap.size + 1 = V.heap.size := fun e => n3 e.symm
 have n8 : ¬ w.heap.size + 1 = w3.heap.size := fun e => n4 e.symm
 clear HR4
 go_cut [6] from 32 to 41 (fun t wx => t = .bool true ∧ Hid (FdS w wx #[.int .i64 r0, .int .i64 r1, .func (.func k) #[] #[], .nilFunc] #[.slice A n c, .slice none 0 0] (.slice A n c) n xs))
 case first =>
  refine wp_region_held_drew (S := (fun w' => w'.cell? ⟨V.heap.size, 0, none⟩ = some (.int .i64 r0) ∧ w'.cell? ⟨V.heap.size, 1, none⟩ = some (.int .i64 r1) ∧ w'.cell? ⟨V.heap.size, 2, none⟩ = some (.func (.func k) #[] #[]) ∧ w'.cell? ⟨V.heap.size, 3, none⟩ = some (.nilFunc) ∧ w'.cell? ⟨w3.heap.size, 0, none⟩ = some (.slice A n c) ∧ w'.cell? ⟨w3.heap.size, 1, none⟩ = some (.slice none 0 0))) (by kernel_rfl) (by (try dsimp only); (first | exact ⟨z0, z1, z2, z3, y0, y1⟩ | exact HK.out | exact HK2.out | exact HK3.out)) (fun hHeld => ?_)
  refine tk (v := ?_) 0 (some 32) rfl rfl (by rfl) ?_ (by assumption) ?_; rotate_left; · (intro w hSw; (try dsimp only at hSw); first | (go_simp; done) | (go_simp; with_reducible rfl))
  try simp only [Act.put, pA0, pA1, pA2]
  refine tk (v := ?_) 1 (some 33) rfl rfl (by rfl) ?_ (by assumption) ?_; rotate_left; · (intro w hSw; (try dsimp only at hSw); first | (go_simp; done) | (go_simp; with_reducible rfl))
  try simp only [Act.put, pA0, pA1, pA2]
  refine tk (v := ?_) 2 (some 34) rfl rfl (by rfl) ?_ (by assumption) ?_; rotate_left; · (intro w hSw; (try dsimp only at hSw); first | (go_simp; done) | (go_simp; with_reducible rfl))
  try simp only [Act.put, pA0, pA1, pA2]
  refine tk (v := ?_) 3 (some 35) rfl rfl (by rfl) ?_ (by assumption) ?_; rotate_left; · (intro w hSw; (try dsimp only at hSw); first | (go_simp; done) | (go_simp; with_reducible rfl))
  try simp only [Act.put, pA0, pA1, pA2]
  refine tk (v := ?_) 4 (some 36) rfl rfl (by rfl) ?_ (by assumption) ?_; rotate_left; · (intro w hSw; (try dsimp only at hSw); first | (go_simp; done) | (go_simp; with_reducible rfl))
  try simp only [Act.put, pA0, pA1, pA2]
  refine tk (v := ?_) 5 (some 37) rfl rfl (by rfl) ?_ (by assumption) ?_; rotate_left; · (intro w hSw; (try dsimp only at hSw); first | (go_simp; done) | (go_simp; with_reducible rfl))
  try simp only [Act.put, pA0, pA1, pA2]
  refine tk (v := ?_) 6 (some 38) rfl rfl (by rfl) ?_ (by assumption) ?_; rotate_left; · (intro w hSw; (try dsimp only at hSw); first | (go_simp; done) | (go_simp; with_reducible rfl))
  try simp only [Act.put, pA0, pA1, pA2]
  refine tk (v := ?_) 7 (some 39) rfl rfl (by rfl) ?_ (by assumption) ?_; rotate_left; · (intro w hSw; (try dsimp only at hSw); first | (go_simp; done) | (go_simp; with_reducible rfl))
  try simp only [Act.put, pA0, pA1, pA2]
  refine wpAnyH_ready (rs := [8]) (by kernel_rfl) (by simp) ?_
  refine AllReadyH.cons rfl (fun K hK => ?_) AllReadyH.nil
  go_simp
  refine (HLI.out).mono ?_; rintro e w5 ⟨rfl, b5⟩
  have J5 := hid (J4d.out.below b5)
  have HK := hid (And.intro (cell_keep b5 z0) (And.intro (cell_keep b5 z1) (And.intro (cell_keep b5 z2) (And.intro (cell_keep b5 z3) (And.intro (cell_keep b5 y0) (cell_keep b5 y1))))))
  clear b5 z0 z1 z2 z3 y0 y1
  have r40 := J5.out.rule.cell 0
  have r41 := J5.out.rule.cell 1
  have r42 := J5.out.rule.cell 2
  have r43 := J5.out.rule.cell 3
  have g0 := J5.out.rule.free 0
  have g1 := J5.out.rule.free 1
  have g2 := J5.out.rule.free 2
  have g3 := J5.out.rule.free 3
  simp only [List.getElem?_toArray, List.getElem?_cons_zero, List.getElem?_cons_succ] at r40 r41 r42 r43
  refine hK.out _ _ ?_ (fun hHeld => ?_); · ((try dsimp only); (first | exact ⟨z0, z1, z2, z3, y0, y1⟩ | exact HK.out | exact HK2.out | exact HK3.out))
  clear hK K
  try simp only [Act.put, pA0, pA1, pA2]
  refine tk (v := ?_) 9 (some 41) rfl rfl (by rfl) ?_ (by assumption) ?_; rotate_left; · (intro w hSw; (try dsimp only at hSw); first | (go_simp; done) | (go_simp; with_reducible rfl))
  try simp only [Act.put, pA0, pA1, pA2]
  refine wpAnyH_ready (rs := [10]) (by kernel_rfl) (by simp) ?_
  refine AllReadyH.cons rfl (fun K hK => ?_) AllReadyH.nil
  go_simp
  have J6 := hid ((((J5.out.setR 0 (.int .i64 r0)).setR 1 (.int .i64 r1)).setR 2 (.func (.func k) #[] #[])).setR 3 (.nilFunc))
  have HK2 : Hid (((((w5.setCell ⟨w.heap.size, 0, none⟩ (.int .i64 r0)).setCell ⟨w.heap.size, 1, none⟩ (.int .i64 r1)).setCell ⟨w.heap.size, 2, none⟩ (.func (.func k) #[] #[])).setCell ⟨w.heap.size, 3, none⟩ (.nilFunc)).cell? ⟨V.heap.size, 0, none⟩ = some (.int .i64 r0) ∧ ((((w5.setCell ⟨w.heap.size, 0, none⟩ (.int .i64 r0)).setCell ⟨w.heap.size, 1, none⟩ (.int .i64 r1)).setCell ⟨w.heap.size, 2, none⟩ (.func (.func k) #[] #[])).setCell ⟨w.heap.size, 3, none⟩ (.nilFunc)).cell? ⟨V.heap.size, 1, none⟩ = some (.int .i64 r1) ∧ ((((w5.setCell ⟨w.heap.size, 0, none⟩ (.int .i64 r0)).setCell ⟨w.heap.size, 1, none⟩ (.int .i64 r1)).setCell ⟨w.heap.size, 2, none⟩ (.func (.func k) #[] #[])).setCell ⟨w.heap.size, 3, none⟩ (.nilFunc)).cell? ⟨V.heap.size, 2, none⟩ = some (.func (.func k) #[] #[]) ∧ ((((w5.setCell ⟨w.heap.size, 0, none⟩ (.int .i64 r0)).setCell ⟨w.heap.size, 1, none⟩ (.int .i64 r1)).setCell ⟨w.heap.size, 2, none⟩ (.func (.func k) #[] #[])).setCell ⟨w.heap.size, 3, none⟩ (.nilFunc)).cell? ⟨V.heap.size, 3, none⟩ = some (.nilFunc) ∧ ((((w5.setCell ⟨w.heap.size, 0, none⟩ (.int .i64 r0)).setCell ⟨w.heap.size, 1, none⟩ (.int .i64 r1)).setCell ⟨w.heap.size, 2, none⟩ (.func (.func k) #[] #[])).setCell ⟨w.heap.size, 3, none⟩ (.nilFunc)).cell? ⟨w3.heap.size, 0, none⟩ = some (.slice A n c) ∧ ((((w5.setCell ⟨w.heap.size, 0, none⟩ (.int .i64 r0)).setCell ⟨w.heap.size, 1, none⟩ (.int .i64 r1)).setCell ⟨w.heap.size, 2, none⟩ (.func (.func k) #[] #[])).setCell ⟨w.heap.size, 3, none⟩ (.nilFunc)).cell? ⟨w3.heap.size, 1, none⟩ = some (.slice none 0 0)) := hid (And.intro (cell_far _ n1 (cell_far _ n1 (cell_far _ n1 (cell_far _ n1 HK.out.1)))) (And.intro (cell_far _ n1 (cell_far _ n1 (cell_far _ n1 (cell_far _ n1 HK.out.2.1)))) (And.intro (cell_far _ n1 (cell_far _ n1 (cell_far _ n1 (cell_far _ n1 HK.out.2.2.1)))) (And.intro (cell_far _ n1 (cell_far _ n1 (cell_far _ n1 (cell_far _ n1 HK.out.2.2.2.1)))) (And.intro (cell_far _ n2 (cell_far _ n2 (cell_far _ n2 (cell_far _ n2 HK.out.2.2.2.2.1)))) (cell_far _ n2 (cell_far _ n2 (cell_far _ n2 (cell_far _ n2 HK.out.2.2.2.2.2)))))))))
  clear r40 r41 r42 r43 g0 g1 g2 g3 HK
  generalize (((w5.setCell ⟨w.heap.size, 0, none⟩ (.int .i64 r0)).setCell ⟨w.heap.size, 1, none⟩ (.int .i64 r1)).setCell ⟨w.heap.size, 2, none⟩ (.func (.func k) #[] #[])).setCell ⟨w.heap.size, 3, none⟩ (.nilFunc) = w6 at *
  have s0 := J6.out.line.cell 0
  have s1 := J6.out.line.cell 1
  have h0 := J6.out.line.free 0
  have h1 := J6.out.line.free 1
  simp only [List.getElem?_toArray, List.getElem?_cons_zero, List.getElem?_cons_succ] at s0 s1
  refine hK.out _ _ ?_ (fun hHeld => ?_); · ((try dsimp only); (first | exact ⟨z0, z1, z2, z3, y0, y1⟩ | exact HK.out | exact HK2.out | exact HK3.out))
  clear hK K
  try simp only [Act.put, pA0, pA1, pA2]
  refine wpAnyH_ready (rs := [11]) (by kernel_rfl) (by simp) ?_
  refine AllReadyH.cons rfl (fun K hK => ?_) AllReadyH.nil
  go_simp
  have J7 := hid ((J6.out.setL 0 (.slice A n c)).setL 1 (.slice none 0 0))
  have HK3 : Hid (((w6.setCell ⟨w.heap.size + 1, 0, none⟩ (.slice A n c)).setCell ⟨w.heap.size + 1, 1, none⟩ (.slice none 0 0)).cell? ⟨V.heap.size, 0, none⟩ = some (.int .i64 r0) ∧ ((w6.setCell ⟨w.heap.size + 1, 0, none⟩ (.slice A n c)).setCell ⟨w.heap.size + 1, 1, none⟩ (.slice none 0 0)).cell? ⟨V.heap.size, 1, none⟩ = some (.int .i64 r1) ∧ ((w6.setCell ⟨w.heap.size + 1, 0, none⟩ (.slice A n c)).setCell ⟨w.heap.size + 1, 1, none⟩ (.slice none 0 0)).cell? ⟨V.heap.size, 2, none⟩ = some (.func (.func k) #[] #[]) ∧ ((w6.setCell ⟨w.heap.size + 1, 0, none⟩ (.slice A n c)).setCell ⟨w.heap.size + 1, 1, none⟩ (.slice none 0 0)).cell? ⟨V.heap.size, 3, none⟩ = some (.nilFunc) ∧ ((w6.setCell ⟨w.heap.size + 1, 0, none⟩ (.slice A n c)).setCell ⟨w.heap.size + 1, 1, none⟩ (.slice none 0 0)).cell? ⟨w3.heap.size, 0, none⟩ = some (.slice A n c) ∧ ((w6.setCell ⟨w.heap.size + 1, 0, none⟩ (.slice A n c)).setCell ⟨w.heap.size + 1, 1, none⟩ (.slice none 0 0)).cell? ⟨w3.heap.size, 1, none⟩ = some (.slice none 0 0)) := hid (And.intro (cell_far _ n3 (cell_far _ n3 HK2.out.1)) (And.intro (cell_far _ n3 (cell_far _ n3 HK2.out.2.1)) (And.intro (cell_far _ n3 (cell_far _ n3 HK2.out.2.2.1)) (And.intro (cell_far _ n3 (cell_far _ n3 HK2.out.2.2.2.1)) (And.intro (cell_far _ n4 (cell_far _ n4 HK2.out.2.2.2.2.1)) (cell_far _ n4 (cell_far _ n4 HK2.out.2.2.2.2.2)))))))
  clear s0 s1 h0 h1
  refine hK.out _ _ ?_ (fun hHeld => ?_); · ((try dsimp only); (first | exact ⟨z0, z1, z2, z3, y0, y1⟩ | exact HK.out | exact HK2.out | exact HK3.out))
  clear hK K
  try simp only [Act.put, pA0, pA1, pA2]
  refine tk (v := ?_) 12 (some 6) rfl rfl (by rfl) ?_ (by assumption) ?_; rotate_left; · (intro w hSw; (try dsimp only at hSw); first | (go_simp; done) | (go_simp; with_reducible rfl))
  try simp only [Act.put, pA0, pA1, pA2]
  refine wpAnyH_done (by kernel_rfl) ?_ _
  go_wp2_with fail
  go_meet
  case rel => exact ⟨rfl, J7⟩
 case rest =>
  obtain ⟨rfl, HJ⟩ := hcut
  go_wp2
  exact bodyPost_ret (results_rows_tmp rfl _ _ w.heap.size (w.heap.size + 1) 88 91 #[.int .i64 r0, .int .i64 r1, .func (.func k) #[] #[], .nilFunc] #[.slice A n c, .slice none 0 0] (0, 0) (0, 0) _ _ rfl rfl HJ.out.rule HJ.out.line Tryz.underlying88 rfl (by kernel_rfl) Tryz.underlying91 rfl (by kernel_rfl)) rfl ⟨A, c, rfl, HJ.out.own, HJ.out.low⟩
set_option maxRecDepth 100000 in
set_option maxHeartbeats 4000000 in
theorem findAsk (bm : Nat) (f : Value → Option Value) (s word : ByteArray) (r0 r1 : Int) (k : Nat) (n : Nat) (xs : List Value) (w : World) (hm : MaxL w) (hmap : MapX Tryz.prog 9 w bm f) (hw : Word s word) (hf : f (.string word) = some (.agg #[.int .i64 r0, .int .i64 r1, .nilFunc, .func (.func k) #[] #[]]))
 (hkey : ∃ kl, keyOf Tryz.prog 9 (.string word) = some kl)
 (hr : ReadSays (.int .i64 r0) (.int .i64 r1) (.nilFunc) (.func (.func k) #[] #[]) s n xs) (hl : ∀ w, MaxL w → Calls Tryz.prog 43 #[.string s] w fun e w' => e = .returned (.bool true) ∧ Below w.heap.size w w') :
 Calls Tryz.prog 34 #[.map (some bm), .string s] w fun e w' => ∃ A c, e = .returned (.tuple #[.agg #[.int .i64 r0, .int .i64 r1, .nilFunc, .func (.func k) #[] #[]], .agg #[.slice A n c, .slice none 0 0], .bool true]) ∧ w'.ownsRow w.heap.size 9 1 (.slice A n c) n xs ∧ Below w.heap.size w w' := by
 obtain ⟨kl, hkl⟩ := hkey
 have K : Keyed Tryz.prog 9 := string_keyed Tryz.underlying9
 have B1 : Below w.heap.size w ((w.alloc (.cells #[.int .i64 0, .int .i64 0, .nilFunc, .nilFunc] 88)).alloc (.cells #[.slice none 0 0, .slice none 0 0] 91)) := ((Below.refl _ w).alloc (Nat.le_refl _) _).alloc (by simp) _
 have HW := hid (hw _ (hm.keep B1))
 have X4 := hid ((Blk.new w 88 #[.int .i64 0, .int .i64 0, .nilFunc, .nilFunc]).alloc (.cells #[.slice none 0 0, .slice none 0 0] 91))
 have X5 := hid (Blk.new_at (w.alloc (.cells #[.int .i64 0, .int .i64 0, .nilFunc, .nilFunc] 88)) 91 #[.slice none 0 0, .slice none 0 0] (n := w.heap.size + 1) (by simp))
 have HMP := hid (hmap.keep B1)
 have HB1 := hid B1
 have HM := hid hm
 have HR := hid hr
 have HL := hid hl
 clear hw hm hmap hr hl B1
 go_enter Tryz.func34, Tryz.ntmps34
 go_wp2_with fail
 refine (HW.out).mono ?_; rintro e w1 ⟨rest, ok, kk, rfl, rfl⟩
 clear HW
 have HLK := HMP.out.look_in K Tryz.underlying94 hkl hf kk true
 have HBV := hid (below_drewN HB1.out kk)
 have V4 := hid (X4.out.drewN kk)
 have V5 := hid (X5.out.drewN kk)
 simp only [if_true] at HLK
 clear HMP HB1 X4 X5
 generalize ((w.alloc (.cells #[.int .i64 0, .int .i64 0, .nilFunc, .nilFunc] 88)).alloc (.cells #[.slice none 0 0, .slice none 0 0] 91)).drewN kk = V at *
 have V10 := hid (Blk.new V 88 #[.int .i64 r0, .int .i64 r1, .nilFunc, .func (.func k) #[] #[]])
 have B10 := hid (HBV.out.alloc HBV.out.size (.cells #[.int .i64 r0, .int .i64 r1, .nilFunc, .func (.func k) #[] #[]] 88))
 have HRD := hid (HR.out _ (HM.out.keep B10.out))
 have Q4 := hid (V4.out.alloc (.cells #[.int .i64 r0, .int .i64 r1, .nilFunc, .func (.func k) #[] #[]] 88))
 have Q5 := hid (V5.out.alloc (.cells #[.int .i64 r0, .int .i64 r1, .nilFunc, .func (.func k) #[] #[]] 88))
 have HV2 := hid (show w.heap.size + 2 ≤ V.heap.size from by have := V5.out.lt; omega)
 clear V4 V5
 go_wp2_with fail
 refine (HRD.out).mono ?_; rintro e w3 ⟨A, c, rfl, ho, b3⟩
 have J4 := hid (show FdS w (w3.alloc (.cells #[.slice A n c, .slice none 0 0] 91)) #[.int .i64 0, .int .i64 0, .nilFunc, .nilFunc] #[.slice none 0 0, .slice none 0 0] (.slice A n c) n xs from
  (show FdS w w3 _ _ _ _ _ from ⟨Q4.out.keep b3, Q5.out.keep b3, own_more ho B10.out.size, below_call B10.out b3 B10.out.size⟩).below ((Below.refl _ _).alloc (Nat.le_refl _) _))
 have Z10 := hid ((V10.out.keep b3).alloc (.cells #[.slice A n c, .slice none 0 0] 91))
 have Z12 := hid (Blk.new w3 91 #[.slice A n c, .slice none 0 0])
 have HV := hid HBV.out.size
 have HV3 := hid (show w.heap.size + 2 ≤ w3.heap.size from by have := Q5.out.lt; have := b3.size; simp at *; omega)
 clear ho b3 Q4 Q5 V10 HRD
 go_wp2_with fail
 generalize hW4 : w3.alloc (.cells #[.slice A n c, .slice none 0 0] 91) = W4 at *
 clear hW4
 have J4d := hid J4.out.drew
 have HLI := hid (HL.out W4.drew (HM.out.keep J4d.out.low))
 have z0 := Z10.out.cell 0
 have z1 := Z10.out.cell 1
 have z2 := Z10.out.cell 2
 have z3 := Z10.out.cell 3
 have y0 := Z12.out.cell 0
 have y1 := Z12.out.cell 1
 simp only [List.getElem?_toArray, List.getElem?_cons_zero, List.getElem?_cons_succ] at z0 z1 z2 z3 y0 y1
 clear HM HL HR Z10 Z12
 have HR4 := hid (show ∀ i, (w.heap.size == V.heap.size) = false ∧ (w.heap.size == w3.heap.size) = false ∧ i = i from fun i => by have := HV2.out; have := HV3.out; simp; omega)
 have n1 : ¬ V.heap.size = w.heap.size := by have := HV2.out; omega
 have n2 : ¬ w3.heap.size = w.heap.size := by have := HV3.out; omega
 have n3 : ¬ V.heap.size = w.heap.size + 1 := by have := HV2.out; omega
 have n4 : ¬ w3.heap.size = w.heap.size + 1 := by have := HV3.out; omega
 have n5 : ¬ w.heap.size = V.heap.size := fun e => n1 e.symm
 have n6 : ¬ w.heap.size = w3.heap.size := fun e => n2 e.symm
 have n7 : ¬ w.heap.size + 1 = V.heap.size := fun e => n3 e.symm
 have n8 : ¬ w.heap.size + 1 = w3.heap.size := fun e => n4 e.symm
 clear HR4
 go_cut [6] from 32 to 41 (fun t wx => t = .bool true ∧ Hid (FdS w wx #[.int .i64 r0, .int .i64 r1, .nilFunc, .func (.func k) #[] #[]] #[.slice A n c, .slice none 0 0] (.slice A n c) n xs))
 case first =>
  refine wp_region_held_drew (S := (fun w' => w'.cell? ⟨V.heap.size, 0, none⟩ = some (.int .i64 r0) ∧ w'.cell? ⟨V.heap.size, 1, none⟩ = some (.int .i64 r1) ∧ w'.cell? ⟨V.heap.size, 2, none⟩ = some (.nilFunc) ∧ w'.cell? ⟨V.heap.size, 3, none⟩ = some (.func (.func k) #[] #[]) ∧ w'.cell? ⟨w3.heap.size, 0, none⟩ = some (.slice A n c) ∧ w'.cell? ⟨w3.heap.size, 1, none⟩ = some (.slice none 0 0))) (by kernel_rfl) (by (try dsimp only); (first | exact ⟨z0, z1, z2, z3, y0, y1⟩ | exact HK.out | exact HK2.out | exact HK3.out)) (fun hHeld => ?_)
  refine tk (v := ?_) 0 (some 32) rfl rfl (by rfl) ?_ (by assumption) ?_; rotate_left; · (intro w hSw; (try dsimp only at hSw); first | (go_simp; done) | (go_simp; with_reducible rfl))
  try simp only [Act.put, pA0, pA1, pA2]
  refine tk (v := ?_) 1 (some 33) rfl rfl (by rfl) ?_ (by assumption) ?_; rotate_left; · (intro w hSw; (try dsimp only at hSw); first | (go_simp; done) | (go_simp; with_reducible rfl))
  try simp only [Act.put, pA0, pA1, pA2]
  refine tk (v := ?_) 2 (some 34) rfl rfl (by rfl) ?_ (by assumption) ?_; rotate_left; · (intro w hSw; (try dsimp only at hSw); first | (go_simp; done) | (go_simp; with_reducible rfl))
  try simp only [Act.put, pA0, pA1, pA2]
  refine tk (v := ?_) 3 (some 35) rfl rfl (by rfl) ?_ (by assumption) ?_; rotate_left; · (intro w hSw; (try dsimp only at hSw); first | (go_simp; done) | (go_simp; with_reducible rfl))
  try simp only [Act.put, pA0, pA1, pA2]
  refine tk (v := ?_) 4 (some 36) rfl rfl (by rfl) ?_ (by assumption) ?_; rotate_left; · (intro w hSw; (try dsimp only at hSw); first | (go_simp; done) | (go_simp; with_reducible rfl))
  try simp only [Act.put, pA0, pA1, pA2]
  refine tk (v := ?_) 5 (some 37) rfl rfl (by rfl) ?_ (by assumption) ?_; rotate_left; · (intro w hSw; (try dsimp only at hSw); first | (go_simp; done) | (go_simp; with_reducible rfl))
  try simp only [Act.put, pA0, pA1, pA2]
  refine tk (v := ?_) 6 (some 38) rfl rfl (by rfl) ?_ (by assumption) ?_; rotate_left; · (intro w hSw; (try dsimp only at hSw); first | (go_simp; done) | (go_simp; with_reducible rfl))
  try simp only [Act.put, pA0, pA1, pA2]
  refine tk (v := ?_) 7 (some 39) rfl rfl (by rfl) ?_ (by assumption) ?_; rotate_left; · (intro w hSw; (try dsimp only at hSw); first | (go_simp; done) | (go_simp; with_reducible rfl))
  try simp only [Act.put, pA0, pA1, pA2]
  refine wpAnyH_ready (rs := [8]) (by kernel_rfl) (by simp) ?_
  refine AllReadyH.cons rfl (fun K hK => ?_) AllReadyH.nil
  go_simp
  refine (HLI.out).mono ?_; rintro e w5 ⟨rfl, b5⟩
  have J5 := hid (J4d.out.below b5)
  have HK := hid (And.intro (cell_keep b5 z0) (And.intro (cell_keep b5 z1) (And.intro (cell_keep b5 z2) (And.intro (cell_keep b5 z3) (And.intro (cell_keep b5 y0) (cell_keep b5 y1))))))
  clear b5 z0 z1 z2 z3 y0 y1
  have r40 := J5.out.rule.cell 0
  have r41 := J5.out.rule.cell 1
  have r42 := J5.out.rule.cell 2
  have r43 := J5.out.rule.cell 3
  have g0 := J5.out.rule.free 0
  have g1 := J5.out.rule.free 1
  have g2 := J5.out.rule.free 2
  have g3 := J5.out.rule.free 3
  simp only [List.getElem?_toArray, List.getElem?_cons_zero, List.getElem?_cons_succ] at r40 r41 r42 r43
  refine hK.out _ _ ?_ (fun hHeld => ?_); · ((try dsimp only); (first | exact ⟨z0, z1, z2, z3, y0, y1⟩ | exact HK.out | exact HK2.out | exact HK3.out))
  clear hK K
  try simp only [Act.put, pA0, pA1, pA2]
  refine tk (v := ?_) 9 (some 41) rfl rfl (by rfl) ?_ (by assumption) ?_; rotate_left; · (intro w hSw; (try dsimp only at hSw); first | (go_simp; done) | (go_simp; with_reducible rfl))
  try simp only [Act.put, pA0, pA1, pA2]
  refine wpAnyH_ready (rs := [10]) (by kernel_rfl) (by simp) ?_
  refine AllReadyH.cons rfl (fun K hK => ?_) AllReadyH.nil
  go_simp
  have J6 := hid ((((J5.out.setR 0 (.int .i64 r0)).setR 1 (.int .i64 r1)).setR 2 (.nilFunc)).setR 3 (.func (.func k) #[] #[]))
  have HK2 : Hid (((((w5.setCell ⟨w.heap.size, 0, none⟩ (.int .i64 r0)).setCell ⟨w.heap.size, 1, none⟩ (.int .i64 r1)).setCell ⟨w.heap.size, 2, none⟩ (.nilFunc)).setCell ⟨w.heap.size, 3, none⟩ (.func (.func k) #[] #[])).cell? ⟨V.heap.size, 0, none⟩ = some (.int .i64 r0) ∧ ((((w5.setCell ⟨w.heap.size, 0, none⟩ (.int .i64 r0)).setCell ⟨w.heap.size, 1, none⟩ (.int .i64 r1)).setCell ⟨w.heap.size, 2, none⟩ (.nilFunc)).setCell ⟨w.heap.size, 3, none⟩ (.func (.func k) #[] #[])).cell? ⟨V.heap.size, 1, none⟩ = some (.int .i64 r1) ∧ ((((w5.setCell ⟨w.heap.size, 0, none⟩ (.int .i64 r0)).setCell ⟨w.heap.size, 1, none⟩ (.int .i64 r1)).setCell ⟨w.heap.size, 2, none⟩ (.nilFunc)).setCell ⟨w.heap.size, 3, none⟩ (.func (.func k) #[] #[])).cell? ⟨V.heap.size, 2, none⟩ = some (.nilFunc) ∧ ((((w5.setCell ⟨w.heap.size, 0, none⟩ (.int .i64 r0)).setCell ⟨w.heap.size, 1, none⟩ (.int .i64 r1)).setCell ⟨w.heap.size, 2, none⟩ (.nilFunc)).setCell ⟨w.heap.size, 3, none⟩ (.func (.func k) #[] #[])).cell? ⟨V.heap.size, 3, none⟩ = some (.func (.func k) #[] #[]) ∧ ((((w5.setCell ⟨w.heap.size, 0, none⟩ (.int .i64 r0)).setCell ⟨w.heap.size, 1, none⟩ (.int .i64 r1)).setCell ⟨w.heap.size, 2, none⟩ (.nilFunc)).setCell ⟨w.heap.size, 3, none⟩ (.func (.func k) #[] #[])).cell? ⟨w3.heap.size, 0, none⟩ = some (.slice A n c) ∧ ((((w5.setCell ⟨w.heap.size, 0, none⟩ (.int .i64 r0)).setCell ⟨w.heap.size, 1, none⟩ (.int .i64 r1)).setCell ⟨w.heap.size, 2, none⟩ (.nilFunc)).setCell ⟨w.heap.size, 3, none⟩ (.func (.func k) #[] #[])).cell? ⟨w3.heap.size, 1, none⟩ = some (.slice none 0 0)) := hid (And.intro (cell_far _ n1 (cell_far _ n1 (cell_far _ n1 (cell_far _ n1 HK.out.1)))) (And.intro (cell_far _ n1 (cell_far _ n1 (cell_far _ n1 (cell_far _ n1 HK.out.2.1)))) (And.intro (cell_far _ n1 (cell_far _ n1 (cell_far _ n1 (cell_far _ n1 HK.out.2.2.1)))) (And.intro (cell_far _ n1 (cell_far _ n1 (cell_far _ n1 (cell_far _ n1 HK.out.2.2.2.1)))) (And.intro (cell_far _ n2 (cell_far _ n2 (cell_far _ n2 (cell_far _ n2 HK.out.2.2.2.2.1)))) (cell_far _ n2 (cell_far _ n2 (cell_far _ n2 (cell_far _ n2 HK.out.2.2.2.2.2)))))))))
  clear r40 r41 r42 r43 g0 g1 g2 g3 HK
  generalize (((w5.setCell ⟨w.heap.size, 0, none⟩ (.int .i64 r0)).setCell ⟨w.heap.size, 1, none⟩ (.int .i64 r1)).setCell ⟨w.heap.size, 2, none⟩ (.nilFunc)).setCell ⟨w.heap.size, 3, none⟩ (.func (.func k) #[] #[]) = w6 at *
  have s0 := J6.out.line.cell 0
  have s1 := J6.out.line.cell 1
  have h0 := J6.out.line.free 0
  have h1 := J6.out.line.free 1
  simp only [List.getElem?_toArray, List.getElem?_cons_zero, List.getElem?_cons_succ] at s0 s1
  refine hK.out _ _ ?_ (fun hHeld => ?_); · ((try dsimp only); (first | exact ⟨z0, z1, z2, z3, y0, y1⟩ | exact HK.out | exact HK2.out | exact HK3.out))
  clear hK K
  try simp only [Act.put, pA0, pA1, pA2]
  refine wpAnyH_ready (rs := [11]) (by kernel_rfl) (by simp) ?_
  refine AllReadyH.cons rfl (fun K hK => ?_) AllReadyH.nil
  go_simp
  have J7 := hid ((J6.out.setL 0 (.slice A n c)).setL 1 (.slice none 0 0))
  have HK3 : Hid (((w6.setCell ⟨w.heap.size + 1, 0, none⟩ (.slice A n c)).setCell ⟨w.heap.size + 1, 1, none⟩ (.slice none 0 0)).cell? ⟨V.heap.size, 0, none⟩ = some (.int .i64 r0) ∧ ((w6.setCell ⟨w.heap.size + 1, 0, none⟩ (.slice A n c)).setCell ⟨w.heap.size + 1, 1, none⟩ (.slice none 0 0)).cell? ⟨V.heap.size, 1, none⟩ = some (.int .i64 r1) ∧ ((w6.setCell ⟨w.heap.size + 1, 0, none⟩ (.slice A n c)).setCell ⟨w.heap.size + 1, 1, none⟩ (.slice none 0 0)).cell? ⟨V.heap.size, 2, none⟩ = some (.nilFunc) ∧ ((w6.setCell ⟨w.heap.size + 1, 0, none⟩ (.slice A n c)).setCell ⟨w.heap.size + 1, 1, none⟩ (.slice none 0 0)).cell? ⟨V.heap.size, 3, none⟩ = some (.func (.func k) #[] #[]) ∧ ((w6.setCell ⟨w.heap.size + 1, 0, none⟩ (.slice A n c)).setCell ⟨w.heap.size + 1, 1, none⟩ (.slice none 0 0)).cell? ⟨w3.heap.size, 0, none⟩ = some (.slice A n c) ∧ ((w6.setCell ⟨w.heap.size + 1, 0, none⟩ (.slice A n c)).setCell ⟨w.heap.size + 1, 1, none⟩ (.slice none 0 0)).cell? ⟨w3.heap.size, 1, none⟩ = some (.slice none 0 0)) := hid (And.intro (cell_far _ n3 (cell_far _ n3 HK2.out.1)) (And.intro (cell_far _ n3 (cell_far _ n3 HK2.out.2.1)) (And.intro (cell_far _ n3 (cell_far _ n3 HK2.out.2.2.1)) (And.intro (cell_far _ n3 (cell_far _ n3 HK2.out.2.2.2.1)) (And.intro (cell_far _ n4 (cell_far _ n4 HK2.out.2.2.2.2.1)) (cell_far _ n4 (cell_far _ n4 HK2.out.2.2.2.2.2)))))))
  clear s0 s1 h0 h1
  refine hK.out _ _ ?_ (fun hHeld => ?_); · ((try dsimp only); (first | exact ⟨z0, z1, z2, z3, y0, y1⟩ | exact HK.out | exact HK2.out | exact HK3.out))
  clear hK K
  try simp only [Act.put, pA0, pA1, pA2]
  refine tk (v := ?_) 12 (some 6) rfl rfl (by rfl) ?_ (by assumption) ?_; rotate_left; · (intro w hSw; (try dsimp only at hSw); first | (go_simp; done) | (go_simp; with_reducible rfl))
  try simp only [Act.put, pA0, pA1, pA2]
  refine wpAnyH_done (by kernel_rfl) ?_ _
  go_wp2_with fail
  go_meet
  case rel => exact ⟨rfl, J7⟩
 case rest =>
  obtain ⟨rfl, HJ⟩ := hcut
  go_wp2
  exact bodyPost_ret (results_rows_tmp rfl _ _ w.heap.size (w.heap.size + 1) 88 91 #[.int .i64 r0, .int .i64 r1, .nilFunc, .func (.func k) #[] #[]] #[.slice A n c, .slice none 0 0] (0, 0) (0, 0) _ _ rfl rfl HJ.out.rule HJ.out.line Tryz.underlying88 rfl (by kernel_rfl) Tryz.underlying91 rfl (by kernel_rfl)) rfl ⟨A, c, rfl, HJ.out.own, HJ.out.low⟩
end Go.Proofs.YtciadmjdadnolaaGreatDoor
/- A one shifted by a count that is known to be small: as a name of its own. No condition. -/
namespace Go.Proofs.YtciadmjdadnolaaGreatDoor
open Go.RowKit
/-- Two to the power of k. -/
def p2 (k : Int) : Int := 2 ^ k.toNat
def Fits (k : Int) : Prop := 0 ≤ k ∧ k ≤ 60
theorem p2_pos (k : Int) : 1 ≤ p2 k := by
 have : (0 : Int) < 2 ^ k.toNat := Int.pow_pos (by decide)
 unfold p2; omega
theorem p2_nat (n : Nat) : p2 n = ((2 ^ n : Nat) : Int) := by simp [p2]
theorem p2_le {k m : Int} (h : k ≤ m) : p2 k ≤ p2 m := by
 unfold p2
 have h1 : k.toNat ≤ m.toNat := by omega
 have h2 := Nat.pow_le_pow_right (show 0 < 2 by decide) h1
 have h3 : ∀ n : Nat, (2 : Int) ^ n = ((2 ^ n : Nat) : Int) := fun n => by simp
 rw [h3, h3]
 omega
theorem p2_bd {k : Int} (h2 : k ≤ 60) : p2 k ≤ 1152921504606846976 := p2_le (m := 60) h2
theorem shl_p2 {yk : IntKind} {k : Int} (h : Fits k) : Op.shift .shl .i64 1 yk k = pure (.int .i64 (p2 k)) := by
 have hb := p2_bd h.2
 have hp := p2_pos k
 rw [shift_shl .i64 yk 1 k h.1 (by have := h.2; simp only [IntKind.bits]; omega), Int.one_mul]
 show pure (Value.int .i64 (IntKind.i64.wrap (p2 k))) = _
 rw [IntWalk.i64_in _ (by omega)]
end Go.Proofs.YtciadmjdadnolaaGreatDoor
