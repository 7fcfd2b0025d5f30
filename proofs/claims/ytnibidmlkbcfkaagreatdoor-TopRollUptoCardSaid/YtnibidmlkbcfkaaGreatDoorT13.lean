/- Walk of find at any text: a rule that is there (a change's, a question's), or none. Conditions: the text is short of the shelf's bound; the library's variables stand. -/
import Derived.Test.YtnibidmlkbcfkaaGreatDoorT12
namespace Go.Proofs.YtnibidmlkbcfkaaGreatDoor
open Go.RowKit Go.Maps
/-- A text ahead of its first blank. -/
def wordOf (s : ByteArray) : ByteArray := ⟨(Lib.cut s.data.toList [32]).1.toArray⟩
theorem wordOf_size (s : ByteArray) : (wordOf s).size ≤ s.size := by
 unfold wordOf Lib.cut
 split
 · simp only [ByteArray.size, List.size_toArray, List.length_take, Array.length_toList]
   exact Nat.min_le_right _ _
 · exact Nat.le_refl _
theorem word_word {s : ByteArray} (hs : s.size < 4294967281) : Word s (wordOf s) := word_of hs (by unfold wordOf; simp)
theorem key_any (s : ByteArray) (h : s.size ≤ 100000000) : ∃ kl, keyOf Tryz.prog 9 (.string s) = some kl := ⟨_, Go.WideMaps.keyOf_string_mk Tryz.underlying9 (by unfold maxLen; omega)⟩
theorem zeroRule : ∀ W : World, (zeroValue 122).run Tryz.prog W = .ok (.agg #[.int .i64 0, .int .i64 0, .nilFunc, .nilFunc]) W := fun W => by kernel_rfl
/-- What stands while find hands back. -/
structure FdG (w W : World) (R L : Array Value) (lv lu : Value) (nm : List ByteArray) (nu : List Int) : Prop where
 rule : Blk W w.heap.size 122 R
 line : Blk W (w.heap.size + 1) 124 L
 nam : W.ownsRow w.heap.size 9 1 lv nm.length (strV nm)
 num : W.ownsRow w.heap.size 3 1 lu nu.length (intV nu)
 low : Below w.heap.size w W
section
variable {w W W' : World} {R L : Array Value} {lv lu : Value} {nm : List ByteArray} {nu : List Int}
theorem FdG.below (h : FdG w W R L lv lu nm nu) (hb : Below W.heap.size W W') : FdG w W' R L lv lu nm nu := ⟨h.rule.keep hb, h.line.keep hb, own_below h.nam hb, own_below h.num hb, below_call h.low hb h.low.size⟩
theorem FdG.drew (h : FdG w W R L lv lu nm nu) : FdG w W.drew R L lv lu nm nu := h.below (Below.refl _ W).drew
theorem FdG.setR (h : FdG w W R L lv lu nm nu) (i : Nat) (u : Value) : FdG w (W.setCell ⟨w.heap.size, i, none⟩ u) (R.setIfInBounds i u) L lv lu nm nu :=
 ⟨h.rule.set i u, h.line.far (p := ⟨w.heap.size, i, none⟩) (by simp) u, own_grown h.nam h.rule (by decide) (setGrown W ⟨w.heap.size, i, none⟩ u), own_grown h.num h.rule (by decide) (setGrown W ⟨w.heap.size, i, none⟩ u), h.low.setCell (p := ⟨w.heap.size, i, none⟩) (Nat.le_refl _) u⟩
theorem FdG.setL (h : FdG w W R L lv lu nm nu) (i : Nat) (u : Value) : FdG w (W.setCell ⟨w.heap.size + 1, i, none⟩ u) R (L.setIfInBounds i u) lv lu nm nu :=
 ⟨h.rule.far (p := ⟨w.heap.size + 1, i, none⟩) (by simp) u, h.line.set i u, own_grown h.nam h.line (by decide) (setGrown W ⟨w.heap.size + 1, i, none⟩ u), own_grown h.num h.line (by decide) (setGrown W ⟨w.heap.size + 1, i, none⟩ u), h.low.setCell (p := ⟨w.heap.size + 1, i, none⟩) (by simp) u⟩
end
/-- A rule's read, its two rows named whether it reads or not. -/
theorem readTwo (r0 r1 : Nat) (f1 f2 : Value) (s : ByteArray) (hs : s.size ≤ 100000000) (hr : r0 + r1 ≤ 100) (w : World) (hm : EnvN w) :
 Calls Tryz.prog 93 #[.agg #[.int .i64 (r0 : Nat), .int .i64 (r1 : Nat), f1, f2], .string s] w fun e w' => ∃ A c D d, e = .returned (.tuple #[.agg #[.slice A ((readP r0 r1 (parts s).tail).getD ([], [])).1.length c, .slice D ((readP r0 r1 (parts s).tail).getD ([], [])).2.length d], .bool (readP r0 r1 (parts s).tail).isSome]) ∧
  w'.ownsRow w.heap.size 9 1 (.slice A ((readP r0 r1 (parts s).tail).getD ([], [])).1.length c) ((readP r0 r1 (parts s).tail).getD ([], [])).1.length (strV ((readP r0 r1 (parts s).tail).getD ([], [])).1) ∧
  w'.ownsRow w.heap.size 3 1 (.slice D ((readP r0 r1 (parts s).tail).getD ([], [])).2.length d) ((readP r0 r1 (parts s).tail).getD ([], [])).2.length (intV ((readP r0 r1 (parts s).tail).getD ([], [])).2) ∧ Below w.heap.size w w' := by
 refine (readAny r0 r1 f1 f2 s hs hr w hm).mono ?_
 rintro e w' ⟨h, hb⟩
 cases hq : readP r0 r1 (parts s).tail with
 | none =>
  rw [hq] at h
  exact ⟨none, 0, none, 0, h, by simpa [strV] using World.ownsRow_nil _ _ _ _, by simpa [intV] using World.ownsRow_nil _ _ _ _, hb⟩
 | some p =>
  obtain ⟨nm, nu⟩ := p
  rw [hq] at h
  obtain ⟨A, c, D, d, rfl, h1, h2⟩ := h
  exact ⟨A, c, D, d, rfl, h1, h2, hb⟩
/-- What find hands back: a rule, the line's rows, and whether it is one. -/
def FndP (B : Nat) (R : Array Value) (q : Option (List ByteArray × List Int)) (ok : Bool) (e : Ending) (w' : World) : Prop :=
 ∃ A c D d, e = .returned (.tuple #[.agg R, .agg #[.slice A (q.getD ([], [])).1.length c, .slice D (q.getD ([], [])).2.length d], .bool ok]) ∧
  w'.ownsRow B 9 1 (.slice A (q.getD ([], [])).1.length c) (q.getD ([], [])).1.length (strV (q.getD ([], [])).1) ∧ w'.ownsRow B 3 1 (.slice D (q.getD ([], [])).2.length d) (q.getD ([], [])).2.length (intV (q.getD ([], [])).2)
set_option maxRecDepth 100000 in
set_option maxHeartbeats 4000000 in
theorem findChg (bm : Nat) (f : Value → Option Value) (s : ByteArray) (r0 r1 : Nat) (k : Nat) (hr : r0 + r1 ≤ 100) (hs : s.size ≤ 100000000) (w : World) (hm : EnvN w) (hmap : MapX Tryz.prog 9 w bm f) (hf : f (.string (wordOf s)) = some (.agg #[.int .i64 (r0 : Nat), .int .i64 (r1 : Nat), .func (.func k) #[] #[], .nilFunc])) :
 Calls Tryz.prog 68 #[.map (some bm), .string s] w fun e w' => FndP w.heap.size #[.int .i64 (r0 : Nat), .int .i64 (r1 : Nat), .func (.func k) #[] #[], .nilFunc] (readP r0 r1 (parts s).tail) ((readP r0 r1 (parts s).tail).isSome && isLn s) e w' ∧ Below w.heap.size w w' := by
 obtain ⟨kl, hkl⟩ := key_any (wordOf s) (by have := wordOf_size s; omega)
 have K : Keyed Tryz.prog 9 := string_keyed Tryz.underlying9
 have B1 : Below w.heap.size w ((w.alloc (.cells #[.int .i64 0, .int .i64 0, .nilFunc, .nilFunc] 122)).alloc (.cells #[.slice none 0 0, .slice none 0 0] 124)) := ((Below.refl _ w).alloc (Nat.le_refl _) _).alloc (by simp) _
 have HW := hid (word_word (s := s) (by omega) _ (hm.max.keep B1))
 have X4 := hid ((Blk.new w 122 #[.int .i64 0, .int .i64 0, .nilFunc, .nilFunc]).alloc (.cells #[.slice none 0 0, .slice none 0 0] 124))
 have X5 := hid (Blk.new_at (w.alloc (.cells #[.int .i64 0, .int .i64 0, .nilFunc, .nilFunc] 122)) 124 #[.slice none 0 0, .slice none 0 0] (n := w.heap.size + 1) (by simp))
 have HMP := hid (hmap.keep B1)
 have HB1 := hid B1
 have HM := hid hm
 have HR := hid fun W (hW : EnvN W) => readTwo r0 r1 (.func (.func k) #[] #[]) (.nilFunc) s hs (by omega) W hW
 clear hm hmap B1
 go_enter Tryz.func68, Tryz.ntmps68
 go_wp2_with fail
 refine (HW.out).mono ?_; rintro e w1 ⟨rest, ok, kk, rfl, rfl⟩
 clear HW
 have HLK := HMP.out.look_in K Tryz.underlying127 hkl hf kk true
 have HBV := hid (below_drewN HB1.out kk)
 have V4 := hid (X4.out.drewN kk)
 have V5 := hid (X5.out.drewN kk)
 simp only [if_true] at HLK
 clear HMP HB1 X4 X5
 generalize ((w.alloc (.cells #[.int .i64 0, .int .i64 0, .nilFunc, .nilFunc] 122)).alloc (.cells #[.slice none 0 0, .slice none 0 0] 124)).drewN kk = V at *
 have V10 := hid (Blk.new V 122 #[.int .i64 (r0 : Nat), .int .i64 (r1 : Nat), .func (.func k) #[] #[], .nilFunc])
 have B10 := hid (HBV.out.alloc HBV.out.size (.cells #[.int .i64 (r0 : Nat), .int .i64 (r1 : Nat), .func (.func k) #[] #[], .nilFunc] 122))
 have HRD := hid (HR.out _ (HM.out.keep B10.out))
 have Q4 := hid (V4.out.alloc (.cells #[.int .i64 (r0 : Nat), .int .i64 (r1 : Nat), .func (.func k) #[] #[], .nilFunc] 122))
 have Q5 := hid (V5.out.alloc (.cells #[.int .i64 (r0 : Nat), .int .i64 (r1 : Nat), .func (.func k) #[] #[], .nilFunc] 122))
 have HV2 := hid (show w.heap.size + 2 ≤ V.heap.size from by have := V5.out.lt; omega)
 obtain ⟨q, hqe⟩ : ∃ q, q = readP r0 r1 (parts s).tail := ⟨_, rfl⟩
 have HQE := hid hqe
 rw [← hqe] at HRD
 clear hqe
 clear V4 V5 HR
 go_wp2_with fail
 refine (HRD.out).mono ?_; rintro e w3 ⟨A, c, D, d, rfl, ho, ho2, b3⟩
 have HQ := hid (show (∃ a b, a = (q.getD ([], [])).1.length ∧ b = (q.getD ([], [])).2.length) from ⟨_, _, rfl, rfl⟩)
 obtain ⟨a, b, ha, hb⟩ := HQ.out
 rw [← ha] at ho
 rw [← hb] at ho2
 have HA := hid ha
 have HBb := hid hb
 rw [← ha, ← hb]
 have HJ := hid (show FdG w (w3.alloc (.cells #[.slice A a c, .slice D b d] 124)) #[.int .i64 0, .int .i64 0, .nilFunc, .nilFunc] #[.slice none 0 0, .slice none 0 0] (.slice A a c) (.slice D b d) (q.getD ([], [])).1 (q.getD ([], [])).2 from
  (show FdG w w3 _ _ _ _ _ _ from ⟨Q4.out.keep b3, Q5.out.keep b3, by rw [← ha]; exact own_more ho B10.out.size, by rw [← hb]; exact own_more ho2 B10.out.size, below_call B10.out b3 B10.out.size⟩).below ((Below.refl _ _).alloc (Nat.le_refl _) _))
 have H10 := hid ((V10.out.keep b3).alloc (.cells #[.slice A a c, .slice D b d] 124))
 have H12 := hid (Blk.new w3 124 #[.slice A a c, .slice D b d])
 have HV3 := hid (show w.heap.size + 2 ≤ w3.heap.size from by have := Q5.out.lt; have := b3.size; simp at *; omega)
 clear ho ho2 b3 Q4 Q5 V10 HRD ha hb HQ B10
 obtain ⟨qs, hqs⟩ : ∃ qs, qs = q.isSome := ⟨_, rfl⟩
 have HQS := hid hqs
 rw [← hqs]
 clear hqs
 go_wp2_with fail
 generalize hW4 : w3.alloc (.cells #[.slice A a c, .slice D b d] 124) = X at *
 clear hW4
 have n1 : ¬ V.heap.size = w.heap.size := by have := HV2.out; omega
 have n2 : ¬ w3.heap.size = w.heap.size := by have := HV3.out; omega
 have n3 : ¬ V.heap.size = w.heap.size + 1 := by have := HV2.out; omega
 have n4 : ¬ w3.heap.size = w.heap.size + 1 := by have := HV3.out; omega
 go_cut [6] from 32 to 41 (fun t wx => t = .bool (qs && isLn s) ∧ Hid (FdG w wx #[.int .i64 (r0 : Nat), .int .i64 (r1 : Nat), .func (.func k) #[] #[], .nilFunc] #[.slice A a c, .slice D b d] (.slice A a c) (.slice D b d) (q.getD ([], [])).1 (q.getD ([], [])).2))
 case first =>
  cases qs with
  | true =>
   refine wp_region_held_drew (S := (fun w' => w'.cell? ⟨V.heap.size, 0, none⟩ = some (.int .i64 (r0 : Nat)) ∧ w'.cell? ⟨V.heap.size, 1, none⟩ = some (.int .i64 (r1 : Nat)) ∧ w'.cell? ⟨V.heap.size, 2, none⟩ = some (.func (.func k) #[] #[]) ∧ w'.cell? ⟨V.heap.size, 3, none⟩ = some (.nilFunc) ∧ w'.cell? ⟨w3.heap.size, 0, none⟩ = some (.slice A a c) ∧ w'.cell? ⟨w3.heap.size, 1, none⟩ = some (.slice D b d))) (by kernel_rfl) (by (try dsimp only); (exact ⟨H10.out.cell 0, H10.out.cell 1, H10.out.cell 2, H10.out.cell 3, H12.out.cell 0, H12.out.cell 1⟩)) (fun hHeld => ?_)
   have HJ := hid HJ.out.drew; have H10 := hid H10.out.drew; have H12 := hid H12.out.drew
   generalize X.drew = X1 at *
   obtain ⟨X, rfl⟩ : ∃ Y, Y = X1 := ⟨X1, rfl⟩
   refine tk ?_ 0 (some 32) rfl rfl ?_ ?_; rotate_left; · (intro w hSw; (try dsimp only at hSw); go_simp <;> with_reducible rfl)
   try simp only [Act.put,qA,qB,qC]
   refine tk ?_ 1 (some 33) rfl rfl ?_ ?_; rotate_left; · (intro w hSw; (try dsimp only at hSw); go_simp <;> with_reducible rfl)
   try simp only [Act.put,qA,qB,qC]
   refine tk ?_ 2 (some 34) rfl rfl ?_ ?_; rotate_left; · (intro w hSw; (try dsimp only at hSw); go_simp <;> with_reducible rfl)
   try simp only [Act.put,qA,qB,qC]
   refine tk ?_ 3 (some 35) rfl rfl ?_ ?_; rotate_left; · (intro w hSw; (try dsimp only at hSw); go_simp <;> with_reducible rfl)
   try simp only [Act.put,qA,qB,qC]
   refine tk ?_ 4 (some 36) rfl rfl ?_ ?_; rotate_left; · (intro w hSw; (try dsimp only at hSw); go_simp <;> with_reducible rfl)
   try simp only [Act.put,qA,qB,qC]
   refine tk ?_ 5 (some 37) rfl rfl ?_ ?_; rotate_left; · (intro w hSw; (try dsimp only at hSw); go_simp <;> with_reducible rfl)
   try simp only [Act.put,qA,qB,qC]
   refine tk ?_ 6 (some 38) rfl rfl ?_ ?_; rotate_left; · (intro w hSw; (try dsimp only at hSw); go_simp <;> with_reducible rfl)
   try simp only [Act.put,qA,qB,qC]
   refine tk ?_ 7 (some 39) rfl rfl ?_ ?_; rotate_left; · (intro w hSw; (try dsimp only at hSw); go_simp <;> with_reducible rfl)
   try simp only [Act.put,qA,qB,qC]
   refine st 8 rfl fun K hK => ?_
   go_simp
   refine (lineAny s X (HM.out.max.keep HJ.out.low)).mono ?_; rintro e' X1 ⟨rfl, bb⟩
   have HJ := hid (HJ.out.below bb); have H10 := hid (H10.out.keep bb); have H12 := hid (H12.out.keep bb)
   clear bb hHeld
   obtain ⟨X, rfl⟩ : ∃ Y, Y = X1 := ⟨X1, rfl⟩
   refine hK.out _ _ ?_ (fun hHeld => ?_); · ((try dsimp only); (exact ⟨H10.out.cell 0, H10.out.cell 1, H10.out.cell 2, H10.out.cell 3, H12.out.cell 0, H12.out.cell 1⟩))
   clear hK K
   try simp only [Act.put,qA,qB,qC]
   refine tk ?_ 9 (some 41) rfl rfl ?_ ?_; rotate_left; · (intro w hSw; (try dsimp only at hSw); go_simp <;> with_reducible rfl)
   try simp only [Act.put,qA,qB,qC]
   refine st 10 rfl fun K hK => ?_
   have r40 := HJ.out.rule.cell 0
   have r41 := HJ.out.rule.cell 1
   have r42 := HJ.out.rule.cell 2
   have r43 := HJ.out.rule.cell 3
   have g0 := HJ.out.rule.free 0
   have g1 := HJ.out.rule.free 1
   have g2 := HJ.out.rule.free 2
   have g3 := HJ.out.rule.free 3
   simp only [List.getElem?_toArray, List.getElem?_cons_zero, List.getElem?_cons_succ] at r40 r41 r42 r43
   go_simp
   have HJ := hid ((((HJ.out.setR 0 (.int .i64 (r0 : Nat))).setR 1 (.int .i64 (r1 : Nat))).setR 2 (.func (.func k) #[] #[])).setR 3 (.nilFunc))
   have H10 := hid ((((H10.out.far (p := ⟨w.heap.size, 0, none⟩) n1 (.int .i64 (r0 : Nat))).far (p := ⟨w.heap.size, 1, none⟩) n1 (.int .i64 (r1 : Nat))).far (p := ⟨w.heap.size, 2, none⟩) n1 (.func (.func k) #[] #[])).far (p := ⟨w.heap.size, 3, none⟩) n1 (.nilFunc))
   have H12 := hid ((((H12.out.far (p := ⟨w.heap.size, 0, none⟩) n2 (.int .i64 (r0 : Nat))).far (p := ⟨w.heap.size, 1, none⟩) n2 (.int .i64 (r1 : Nat))).far (p := ⟨w.heap.size, 2, none⟩) n2 (.func (.func k) #[] #[])).far (p := ⟨w.heap.size, 3, none⟩) n2 (.nilFunc))
   clear r40 r41 r42 r43 g0 g1 g2 g3 hHeld
   generalize (((X.setCell ⟨w.heap.size, 0, none⟩ (.int .i64 (r0 : Nat))).setCell ⟨w.heap.size, 1, none⟩ (.int .i64 (r1 : Nat))).setCell ⟨w.heap.size, 2, none⟩ (.func (.func k) #[] #[])).setCell ⟨w.heap.size, 3, none⟩ (.nilFunc) = X1 at *
   obtain ⟨X, rfl⟩ : ∃ Y, Y = X1 := ⟨X1, rfl⟩
   refine hK.out _ _ ?_ (fun hHeld => ?_); · ((try dsimp only); (exact ⟨H10.out.cell 0, H10.out.cell 1, H10.out.cell 2, H10.out.cell 3, H12.out.cell 0, H12.out.cell 1⟩))
   clear hK K
   try simp only [Act.put,qA,qB,qC]
   refine st 11 rfl fun K hK => ?_
   have r40 := HJ.out.line.cell 0
   have r41 := HJ.out.line.cell 1
   have g0 := HJ.out.line.free 0
   have g1 := HJ.out.line.free 1
   simp only [List.getElem?_toArray, List.getElem?_cons_zero, List.getElem?_cons_succ] at r40 r41
   go_simp
   have HJ := hid ((HJ.out.setL 0 (.slice A a c)).setL 1 (.slice D b d))
   have H10 := hid ((H10.out.far (p := ⟨w.heap.size + 1, 0, none⟩) n3 (.slice A a c)).far (p := ⟨w.heap.size + 1, 1, none⟩) n3 (.slice D b d))
   have H12 := hid ((H12.out.far (p := ⟨w.heap.size + 1, 0, none⟩) n4 (.slice A a c)).far (p := ⟨w.heap.size + 1, 1, none⟩) n4 (.slice D b d))
   clear r40 r41 g0 g1 hHeld
   generalize (X.setCell ⟨w.heap.size + 1, 0, none⟩ (.slice A a c)).setCell ⟨w.heap.size + 1, 1, none⟩ (.slice D b d) = X1 at *
   obtain ⟨X, rfl⟩ : ∃ Y, Y = X1 := ⟨X1, rfl⟩
   refine hK.out _ _ ?_ (fun hHeld => ?_); · ((try dsimp only); (exact ⟨H10.out.cell 0, H10.out.cell 1, H10.out.cell 2, H10.out.cell 3, H12.out.cell 0, H12.out.cell 1⟩))
   clear hK K
   try simp only [Act.put,qA,qB,qC]
   refine tk ?_ 12 (some 6) rfl rfl ?_ ?_; rotate_left; · (intro w hSw; (try dsimp only at hSw); go_simp <;> with_reducible rfl)
   try simp only [Act.put,qA,qB,qC]
   refine wpAnyH_done (by kernel_rfl) ?_ _
   go_wp2_with fail
   go_meet
   case rel => exact ⟨rfl, HJ⟩
  | false =>
   refine wp_region_held_drew (S := (fun w' => w'.cell? ⟨V.heap.size, 0, none⟩ = some (.int .i64 (r0 : Nat)) ∧ w'.cell? ⟨V.heap.size, 1, none⟩ = some (.int .i64 (r1 : Nat)) ∧ w'.cell? ⟨V.heap.size, 2, none⟩ = some (.func (.func k) #[] #[]) ∧ w'.cell? ⟨V.heap.size, 3, none⟩ = some (.nilFunc) ∧ w'.cell? ⟨w3.heap.size, 0, none⟩ = some (.slice A a c) ∧ w'.cell? ⟨w3.heap.size, 1, none⟩ = some (.slice D b d))) (by kernel_rfl) (by (try dsimp only); (exact ⟨H10.out.cell 0, H10.out.cell 1, H10.out.cell 2, H10.out.cell 3, H12.out.cell 0, H12.out.cell 1⟩)) (fun hHeld => ?_)
   have HJ := hid HJ.out.drew; have H10 := hid H10.out.drew; have H12 := hid H12.out.drew
   generalize X.drew = X1 at *
   obtain ⟨X, rfl⟩ : ∃ Y, Y = X1 := ⟨X1, rfl⟩
   refine tk ?_ 0 (some 32) rfl rfl ?_ ?_; rotate_left; · (intro w hSw; (try dsimp only at hSw); go_simp <;> with_reducible rfl)
   try simp only [Act.put,qA,qB,qC]
   refine tk ?_ 1 (some 33) rfl rfl ?_ ?_; rotate_left; · (intro w hSw; (try dsimp only at hSw); go_simp <;> with_reducible rfl)
   try simp only [Act.put,qA,qB,qC]
   refine tk ?_ 2 (some 34) rfl rfl ?_ ?_; rotate_left; · (intro w hSw; (try dsimp only at hSw); go_simp <;> with_reducible rfl)
   try simp only [Act.put,qA,qB,qC]
   refine tk ?_ 3 (some 35) rfl rfl ?_ ?_; rotate_left; · (intro w hSw; (try dsimp only at hSw); go_simp <;> with_reducible rfl)
   try simp only [Act.put,qA,qB,qC]
   refine tk ?_ 4 (some 36) rfl rfl ?_ ?_; rotate_left; · (intro w hSw; (try dsimp only at hSw); go_simp <;> with_reducible rfl)
   try simp only [Act.put,qA,qB,qC]
   refine tk ?_ 5 (some 37) rfl rfl ?_ ?_; rotate_left; · (intro w hSw; (try dsimp only at hSw); go_simp <;> with_reducible rfl)
   try simp only [Act.put,qA,qB,qC]
   refine tk ?_ 6 (some 38) rfl rfl ?_ ?_; rotate_left; · (intro w hSw; (try dsimp only at hSw); go_simp <;> with_reducible rfl)
   try simp only [Act.put,qA,qB,qC]
   refine takeD (i := 7) (v := undef) (some 39) rfl rfl (by kernel_rfl) (by kernel_rfl) (by kernel_rfl) (fun _ _ _ h => h) (Or.inr ⟨by rfl, rfl⟩) (by assumption) ?_
   try simp only [Act.put,qA,qB,qC]
   refine takeD (i := 8) (v := undef) (some 40) rfl rfl (by kernel_rfl) (by kernel_rfl) (by kernel_rfl) (fun _ _ _ h => h) (Or.inr ⟨by rfl, rfl⟩) (by assumption) ?_
   try simp only [Act.put,qA,qB,qC]
   refine tk ?_ 9 (some 41) rfl rfl ?_ ?_; rotate_left; · (intro w hSw; (try dsimp only at hSw); go_simp <;> with_reducible rfl)
   try simp only [Act.put,qA,qB,qC]
   refine st 10 rfl fun K hK => ?_
   have r40 := HJ.out.rule.cell 0
   have r41 := HJ.out.rule.cell 1
   have r42 := HJ.out.rule.cell 2
   have r43 := HJ.out.rule.cell 3
   have g0 := HJ.out.rule.free 0
   have g1 := HJ.out.rule.free 1
   have g2 := HJ.out.rule.free 2
   have g3 := HJ.out.rule.free 3
   simp only [List.getElem?_toArray, List.getElem?_cons_zero, List.getElem?_cons_succ] at r40 r41 r42 r43
   go_simp
   have HJ := hid ((((HJ.out.setR 0 (.int .i64 (r0 : Nat))).setR 1 (.int .i64 (r1 : Nat))).setR 2 (.func (.func k) #[] #[])).setR 3 (.nilFunc))
   have H10 := hid ((((H10.out.far (p := ⟨w.heap.size, 0, none⟩) n1 (.int .i64 (r0 : Nat))).far (p := ⟨w.heap.size, 1, none⟩) n1 (.int .i64 (r1 : Nat))).far (p := ⟨w.heap.size, 2, none⟩) n1 (.func (.func k) #[] #[])).far (p := ⟨w.heap.size, 3, none⟩) n1 (.nilFunc))
   have H12 := hid ((((H12.out.far (p := ⟨w.heap.size, 0, none⟩) n2 (.int .i64 (r0 : Nat))).far (p := ⟨w.heap.size, 1, none⟩) n2 (.int .i64 (r1 : Nat))).far (p := ⟨w.heap.size, 2, none⟩) n2 (.func (.func k) #[] #[])).far (p := ⟨w.heap.size, 3, none⟩) n2 (.nilFunc))
   clear r40 r41 r42 r43 g0 g1 g2 g3 hHeld
   generalize (((X.setCell ⟨w.heap.size, 0, none⟩ (.int .i64 (r0 : Nat))).setCell ⟨w.heap.size, 1, none⟩ (.int .i64 (r1 : Nat))).setCell ⟨w.heap.size, 2, none⟩ (.func (.func k) #[] #[])).setCell ⟨w.heap.size, 3, none⟩ (.nilFunc) = X1 at *
   obtain ⟨X, rfl⟩ : ∃ Y, Y = X1 := ⟨X1, rfl⟩
   refine hK.out _ _ ?_ (fun hHeld => ?_); · ((try dsimp only); (exact ⟨H10.out.cell 0, H10.out.cell 1, H10.out.cell 2, H10.out.cell 3, H12.out.cell 0, H12.out.cell 1⟩))
   clear hK K
   try simp only [Act.put,qA,qB,qC]
   refine st 11 rfl fun K hK => ?_
   have r40 := HJ.out.line.cell 0
   have r41 := HJ.out.line.cell 1
   have g0 := HJ.out.line.free 0
   have g1 := HJ.out.line.free 1
   simp only [List.getElem?_toArray, List.getElem?_cons_zero, List.getElem?_cons_succ] at r40 r41
   go_simp
   have HJ := hid ((HJ.out.setL 0 (.slice A a c)).setL 1 (.slice D b d))
   have H10 := hid ((H10.out.far (p := ⟨w.heap.size + 1, 0, none⟩) n3 (.slice A a c)).far (p := ⟨w.heap.size + 1, 1, none⟩) n3 (.slice D b d))
   have H12 := hid ((H12.out.far (p := ⟨w.heap.size + 1, 0, none⟩) n4 (.slice A a c)).far (p := ⟨w.heap.size + 1, 1, none⟩) n4 (.slice D b d))
   clear r40 r41 g0 g1 hHeld
   generalize (X.setCell ⟨w.heap.size + 1, 0, none⟩ (.slice A a c)).setCell ⟨w.heap.size + 1, 1, none⟩ (.slice D b d) = X1 at *
   obtain ⟨X, rfl⟩ : ∃ Y, Y = X1 := ⟨X1, rfl⟩
   refine hK.out _ _ ?_ (fun hHeld => ?_); · ((try dsimp only); (exact ⟨H10.out.cell 0, H10.out.cell 1, H10.out.cell 2, H10.out.cell 3, H12.out.cell 0, H12.out.cell 1⟩))
   clear hK K
   try simp only [Act.put,qA,qB,qC]
   refine tk ?_ 12 (some 6) rfl rfl ?_ ?_; rotate_left; · (intro w hSw; (try dsimp only at hSw); go_simp <;> with_reducible rfl)
   try simp only [Act.put,qA,qB,qC]
   refine wpAnyH_done (by kernel_rfl) ?_ _
   go_wp2_with fail
   go_meet
   case rel => exact ⟨rfl, HJ⟩
 case rest =>
  obtain ⟨rfl, HJ⟩ := hcut
  go_wp2
  exact bodyPost_ret (results_rows_tmp rfl _ _ w.heap.size (w.heap.size + 1) 122 124 #[.int .i64 (r0 : Nat), .int .i64 (r1 : Nat), .func (.func k) #[] #[], .nilFunc] #[.slice A a c, .slice D b d] (0, 0) (0, 0) _ _ rfl rfl HJ.out.rule HJ.out.line Tryz.underlying122 rfl (by kernel_rfl) Tryz.underlying124 rfl (by kernel_rfl)) rfl ⟨by rw [← HQE.out]; exact ⟨A, c, D, d, by rw [← HA.out, ← HBb.out, ← HQS.out]; rfl, by rw [← HA.out]; have := HJ.out.nam; rwa [← HA.out] at this, by rw [← HBb.out]; have := HJ.out.num; rwa [← HBb.out] at this⟩, HJ.out.low⟩
set_option maxRecDepth 100000 in
set_option maxHeartbeats 4000000 in
theorem findQst (bm : Nat) (f : Value → Option Value) (s : ByteArray) (r0 r1 : Nat) (k : Nat) (hr : r0 + r1 ≤ 100) (hs : s.size ≤ 100000000) (w : World) (hm : EnvN w) (hmap : MapX Tryz.prog 9 w bm f) (hf : f (.string (wordOf s)) = some (.agg #[.int .i64 (r0 : Nat), .int .i64 (r1 : Nat), .nilFunc, .func (.func k) #[] #[]])) :
 Calls Tryz.prog 68 #[.map (some bm), .string s] w fun e w' => FndP w.heap.size #[.int .i64 (r0 : Nat), .int .i64 (r1 : Nat), .nilFunc, .func (.func k) #[] #[]] (readP r0 r1 (parts s).tail) ((readP r0 r1 (parts s).tail).isSome && isLn s) e w' ∧ Below w.heap.size w w' := by
 obtain ⟨kl, hkl⟩ := key_any (wordOf s) (by have := wordOf_size s; omega)
 have K : Keyed Tryz.prog 9 := string_keyed Tryz.underlying9
 have B1 : Below w.heap.size w ((w.alloc (.cells #[.int .i64 0, .int .i64 0, .nilFunc, .nilFunc] 122)).alloc (.cells #[.slice none 0 0, .slice none 0 0] 124)) := ((Below.refl _ w).alloc (Nat.le_refl _) _).alloc (by simp) _
 have HW := hid (word_word (s := s) (by omega) _ (hm.max.keep B1))
 have X4 := hid ((Blk.new w 122 #[.int .i64 0, .int .i64 0, .nilFunc, .nilFunc]).alloc (.cells #[.slice none 0 0, .slice none 0 0] 124))
 have X5 := hid (Blk.new_at (w.alloc (.cells #[.int .i64 0, .int .i64 0, .nilFunc, .nilFunc] 122)) 124 #[.slice none 0 0, .slice none 0 0] (n := w.heap.size + 1) (by simp))
 have HMP := hid (hmap.keep B1)
 have HB1 := hid B1
 have HM := hid hm
 have HR := hid fun W (hW : EnvN W) => readTwo r0 r1 (.nilFunc) (.func (.func k) #[] #[]) s hs (by omega) W hW
 clear hm hmap B1
 go_enter Tryz.func68, Tryz.ntmps68
 go_wp2_with fail
 refine (HW.out).mono ?_; rintro e w1 ⟨rest, ok, kk, rfl, rfl⟩
 clear HW
 have HLK := HMP.out.look_in K Tryz.underlying127 hkl hf kk true
 have HBV := hid (below_drewN HB1.out kk)
 have V4 := hid (X4.out.drewN kk)
 have V5 := hid (X5.out.drewN kk)
 simp only [if_true] at HLK
 clear HMP HB1 X4 X5
 generalize ((w.alloc (.cells #[.int .i64 0, .int .i64 0, .nilFunc, .nilFunc] 122)).alloc (.cells #[.slice none 0 0, .slice none 0 0] 124)).drewN kk = V at *
 have V10 := hid (Blk.new V 122 #[.int .i64 (r0 : Nat), .int .i64 (r1 : Nat), .nilFunc, .func (.func k) #[] #[]])
 have B10 := hid (HBV.out.alloc HBV.out.size (.cells #[.int .i64 (r0 : Nat), .int .i64 (r1 : Nat), .nilFunc, .func (.func k) #[] #[]] 122))
 have HRD := hid (HR.out _ (HM.out.keep B10.out))
 have Q4 := hid (V4.out.alloc (.cells #[.int .i64 (r0 : Nat), .int .i64 (r1 : Nat), .nilFunc, .func (.func k) #[] #[]] 122))
 have Q5 := hid (V5.out.alloc (.cells #[.int .i64 (r0 : Nat), .int .i64 (r1 : Nat), .nilFunc, .func (.func k) #[] #[]] 122))
 have HV2 := hid (show w.heap.size + 2 ≤ V.heap.size from by have := V5.out.lt; omega)
 obtain ⟨q, hqe⟩ : ∃ q, q = readP r0 r1 (parts s).tail := ⟨_, rfl⟩
 have HQE := hid hqe
 rw [← hqe] at HRD
 clear hqe
 clear V4 V5 HR
 go_wp2_with fail
 refine (HRD.out).mono ?_; rintro e w3 ⟨A, c, D, d, rfl, ho, ho2, b3⟩
 have HQ := hid (show (∃ a b, a = (q.getD ([], [])).1.length ∧ b = (q.getD ([], [])).2.length) from ⟨_, _, rfl, rfl⟩)
 obtain ⟨a, b, ha, hb⟩ := HQ.out
 rw [← ha] at ho
 rw [← hb] at ho2
 have HA := hid ha
 have HBb := hid hb
 rw [← ha, ← hb]
 have HJ := hid (show FdG w (w3.alloc (.cells #[.slice A a c, .slice D b d] 124)) #[.int .i64 0, .int .i64 0, .nilFunc, .nilFunc] #[.slice none 0 0, .slice none 0 0] (.slice A a c) (.slice D b d) (q.getD ([], [])).1 (q.getD ([], [])).2 from
  (show FdG w w3 _ _ _ _ _ _ from ⟨Q4.out.keep b3, Q5.out.keep b3, by rw [← ha]; exact own_more ho B10.out.size, by rw [← hb]; exact own_more ho2 B10.out.size, below_call B10.out b3 B10.out.size⟩).below ((Below.refl _ _).alloc (Nat.le_refl _) _))
 have H10 := hid ((V10.out.keep b3).alloc (.cells #[.slice A a c, .slice D b d] 124))
 have H12 := hid (Blk.new w3 124 #[.slice A a c, .slice D b d])
 have HV3 := hid (show w.heap.size + 2 ≤ w3.heap.size from by have := Q5.out.lt; have := b3.size; simp at *; omega)
 clear ho ho2 b3 Q4 Q5 V10 HRD ha hb HQ B10
 obtain ⟨qs, hqs⟩ : ∃ qs, qs = q.isSome := ⟨_, rfl⟩
 have HQS := hid hqs
 rw [← hqs]
 clear hqs
 go_wp2_with fail
 generalize hW4 : w3.alloc (.cells #[.slice A a c, .slice D b d] 124) = X at *
 clear hW4
 have n1 : ¬ V.heap.size = w.heap.size := by have := HV2.out; omega
 have n2 : ¬ w3.heap.size = w.heap.size := by have := HV3.out; omega
 have n3 : ¬ V.heap.size = w.heap.size + 1 := by have := HV2.out; omega
 have n4 : ¬ w3.heap.size = w.heap.size + 1 := by have := HV3.out; omega
 go_cut [6] from 32 to 41 (fun t wx => t = .bool (qs && isLn s) ∧ Hid (FdG w wx #[.int .i64 (r0 : Nat), .int .i64 (r1 : Nat), .nilFunc, .func (.func k) #[] #[]] #[.slice A a c, .slice D b d] (.slice A a c) (.slice D b d) (q.getD ([], [])).1 (q.getD ([], [])).2))
 case first =>
  cases qs with
  | true =>
   refine wp_region_held_drew (S := (fun w' => w'.cell? ⟨V.heap.size, 0, none⟩ = some (.int .i64 (r0 : Nat)) ∧ w'.cell? ⟨V.heap.size, 1, none⟩ = some (.int .i64 (r1 : Nat)) ∧ w'.cell? ⟨V.heap.size, 2, none⟩ = some (.nilFunc) ∧ w'.cell? ⟨V.heap.size, 3, none⟩ = some (.func (.func k) #[] #[]) ∧ w'.cell? ⟨w3.heap.size, 0, none⟩ = some (.slice A a c) ∧ w'.cell? ⟨w3.heap.size, 1, none⟩ = some (.slice D b d))) (by kernel_rfl) (by (try dsimp only); (exact ⟨H10.out.cell 0, H10.out.cell 1, H10.out.cell 2, H10.out.cell 3, H12.out.cell 0, H12.out.cell 1⟩)) (fun hHeld => ?_)
   have HJ := hid HJ.out.drew; have H10 := hid H10.out.drew; have H12 := hid H12.out.drew
   generalize X.drew = X1 at *
   obtain ⟨X, rfl⟩ : ∃ Y, Y = X1 := ⟨X1, rfl⟩
   refine tk ?_ 0 (some 32) rfl rfl ?_ ?_; rotate_left; · (intro w hSw; (try dsimp only at hSw); go_simp <;> with_reducible rfl)
   try simp only [Act.put,qA,qB,qC]
   refine tk ?_ 1 (some 33) rfl rfl ?_ ?_; rotate_left; · (intro w hSw; (try dsimp only at hSw); go_simp <;> with_reducible rfl)
   try simp only [Act.put,qA,qB,qC]
   refine tk ?_ 2 (some 34) rfl rfl ?_ ?_; rotate_left; · (intro w hSw; (try dsimp only at hSw); go_simp <;> with_reducible rfl)
   try simp only [Act.put,qA,qB,qC]
   refine tk ?_ 3 (some 35) rfl rfl ?_ ?_; rotate_left; · (intro w hSw; (try dsimp only at hSw); go_simp <;> with_reducible rfl)
   try simp only [Act.put,qA,qB,qC]
   refine tk ?_ 4 (some 36) rfl rfl ?_ ?_; rotate_left; · (intro w hSw; (try dsimp only at hSw); go_simp <;> with_reducible rfl)
   try simp only [Act.put,qA,qB,qC]
   refine tk ?_ 5 (some 37) rfl rfl ?_ ?_; rotate_left; · (intro w hSw; (try dsimp only at hSw); go_simp <;> with_reducible rfl)
   try simp only [Act.put,qA,qB,qC]
   refine tk ?_ 6 (some 38) rfl rfl ?_ ?_; rotate_left; · (intro w hSw; (try dsimp only at hSw); go_simp <;> with_reducible rfl)
   try simp only [Act.put,qA,qB,qC]
   refine tk ?_ 7 (some 39) rfl rfl ?_ ?_; rotate_left; · (intro w hSw; (try dsimp only at hSw); go_simp <;> with_reducible rfl)
   try simp only [Act.put,qA,qB,qC]
   refine st 8 rfl fun K hK => ?_
   go_simp
   refine (lineAny s X (HM.out.max.keep HJ.out.low)).mono ?_; rintro e' X1 ⟨rfl, bb⟩
   have HJ := hid (HJ.out.below bb); have H10 := hid (H10.out.keep bb); have H12 := hid (H12.out.keep bb)
   clear bb hHeld
   obtain ⟨X, rfl⟩ : ∃ Y, Y = X1 := ⟨X1, rfl⟩
   refine hK.out _ _ ?_ (fun hHeld => ?_); · ((try dsimp only); (exact ⟨H10.out.cell 0, H10.out.cell 1, H10.out.cell 2, H10.out.cell 3, H12.out.cell 0, H12.out.cell 1⟩))
   clear hK K
   try simp only [Act.put,qA,qB,qC]
   refine tk ?_ 9 (some 41) rfl rfl ?_ ?_; rotate_left; · (intro w hSw; (try dsimp only at hSw); go_simp <;> with_reducible rfl)
   try simp only [Act.put,qA,qB,qC]
   refine st 10 rfl fun K hK => ?_
   have r40 := HJ.out.rule.cell 0
   have r41 := HJ.out.rule.cell 1
   have r42 := HJ.out.rule.cell 2
   have r43 := HJ.out.rule.cell 3
   have g0 := HJ.out.rule.free 0
   have g1 := HJ.out.rule.free 1
   have g2 := HJ.out.rule.free 2
   have g3 := HJ.out.rule.free 3
   simp only [List.getElem?_toArray, List.getElem?_cons_zero, List.getElem?_cons_succ] at r40 r41 r42 r43
   go_simp
   have HJ := hid ((((HJ.out.setR 0 (.int .i64 (r0 : Nat))).setR 1 (.int .i64 (r1 : Nat))).setR 2 (.nilFunc)).setR 3 (.func (.func k) #[] #[]))
   have H10 := hid ((((H10.out.far (p := ⟨w.heap.size, 0, none⟩) n1 (.int .i64 (r0 : Nat))).far (p := ⟨w.heap.size, 1, none⟩) n1 (.int .i64 (r1 : Nat))).far (p := ⟨w.heap.size, 2, none⟩) n1 (.nilFunc)).far (p := ⟨w.heap.size, 3, none⟩) n1 (.func (.func k) #[] #[]))
   have H12 := hid ((((H12.out.far (p := ⟨w.heap.size, 0, none⟩) n2 (.int .i64 (r0 : Nat))).far (p := ⟨w.heap.size, 1, none⟩) n2 (.int .i64 (r1 : Nat))).far (p := ⟨w.heap.size, 2, none⟩) n2 (.nilFunc)).far (p := ⟨w.heap.size, 3, none⟩) n2 (.func (.func k) #[] #[]))
   clear r40 r41 r42 r43 g0 g1 g2 g3 hHeld
   generalize (((X.setCell ⟨w.heap.size, 0, none⟩ (.int .i64 (r0 : Nat))).setCell ⟨w.heap.size, 1, none⟩ (.int .i64 (r1 : Nat))).setCell ⟨w.heap.size, 2, none⟩ (.nilFunc)).setCell ⟨w.heap.size, 3, none⟩ (.func (.func k) #[] #[]) = X1 at *
   obtain ⟨X, rfl⟩ : ∃ Y, Y = X1 := ⟨X1, rfl⟩
   refine hK.out _ _ ?_ (fun hHeld => ?_); · ((try dsimp only); (exact ⟨H10.out.cell 0, H10.out.cell 1, H10.out.cell 2, H10.out.cell 3, H12.out.cell 0, H12.out.cell 1⟩))
   clear hK K
   try simp only [Act.put,qA,qB,qC]
   refine st 11 rfl fun K hK => ?_
   have r40 := HJ.out.line.cell 0
   have r41 := HJ.out.line.cell 1
   have g0 := HJ.out.line.free 0
   have g1 := HJ.out.line.free 1
   simp only [List.getElem?_toArray, List.getElem?_cons_zero, List.getElem?_cons_succ] at r40 r41
   go_simp
   have HJ := hid ((HJ.out.setL 0 (.slice A a c)).setL 1 (.slice D b d))
   have H10 := hid ((H10.out.far (p := ⟨w.heap.size + 1, 0, none⟩) n3 (.slice A a c)).far (p := ⟨w.heap.size + 1, 1, none⟩) n3 (.slice D b d))
   have H12 := hid ((H12.out.far (p := ⟨w.heap.size + 1, 0, none⟩) n4 (.slice A a c)).far (p := ⟨w.heap.size + 1, 1, none⟩) n4 (.slice D b d))
   clear r40 r41 g0 g1 hHeld
   generalize (X.setCell ⟨w.heap.size + 1, 0, none⟩ (.slice A a c)).setCell ⟨w.heap.size + 1, 1, none⟩ (.slice D b d) = X1 at *
   obtain ⟨X, rfl⟩ : ∃ Y, Y = X1 := ⟨X1, rfl⟩
   refine hK.out _ _ ?_ (fun hHeld => ?_); · ((try dsimp only); (exact ⟨H10.out.cell 0, H10.out.cell 1, H10.out.cell 2, H10.out.cell 3, H12.out.cell 0, H12.out.cell 1⟩))
   clear hK K
   try simp only [Act.put,qA,qB,qC]
   refine tk ?_ 12 (some 6) rfl rfl ?_ ?_; rotate_left; · (intro w hSw; (try dsimp only at hSw); go_simp <;> with_reducible rfl)
   try simp only [Act.put,qA,qB,qC]
   refine wpAnyH_done (by kernel_rfl) ?_ _
   go_wp2_with fail
   go_meet
   case rel => exact ⟨rfl, HJ⟩
  | false =>
   refine wp_region_held_drew (S := (fun w' => w'.cell? ⟨V.heap.size, 0, none⟩ = some (.int .i64 (r0 : Nat)) ∧ w'.cell? ⟨V.heap.size, 1, none⟩ = some (.int .i64 (r1 : Nat)) ∧ w'.cell? ⟨V.heap.size, 2, none⟩ = some (.nilFunc) ∧ w'.cell? ⟨V.heap.size, 3, none⟩ = some (.func (.func k) #[] #[]) ∧ w'.cell? ⟨w3.heap.size, 0, none⟩ = some (.slice A a c) ∧ w'.cell? ⟨w3.heap.size, 1, none⟩ = some (.slice D b d))) (by kernel_rfl) (by (try dsimp only); (exact ⟨H10.out.cell 0, H10.out.cell 1, H10.out.cell 2, H10.out.cell 3, H12.out.cell 0, H12.out.cell 1⟩)) (fun hHeld => ?_)
   have HJ := hid HJ.out.drew; have H10 := hid H10.out.drew; have H12 := hid H12.out.drew
   generalize X.drew = X1 at *
   obtain ⟨X, rfl⟩ : ∃ Y, Y = X1 := ⟨X1, rfl⟩
   refine tk ?_ 0 (some 32) rfl rfl ?_ ?_; rotate_left; · (intro w hSw; (try dsimp only at hSw); go_simp <;> with_reducible rfl)
   try simp only [Act.put,qA,qB,qC]
   refine tk ?_ 1 (some 33) rfl rfl ?_ ?_; rotate_left; · (intro w hSw; (try dsimp only at hSw); go_simp <;> with_reducible rfl)
   try simp only [Act.put,qA,qB,qC]
   refine tk ?_ 2 (some 34) rfl rfl ?_ ?_; rotate_left; · (intro w hSw; (try dsimp only at hSw); go_simp <;> with_reducible rfl)
   try simp only [Act.put,qA,qB,qC]
   refine tk ?_ 3 (some 35) rfl rfl ?_ ?_; rotate_left; · (intro w hSw; (try dsimp only at hSw); go_simp <;> with_reducible rfl)
   try simp only [Act.put,qA,qB,qC]
   refine tk ?_ 4 (some 36) rfl rfl ?_ ?_; rotate_left; · (intro w hSw; (try dsimp only at hSw); go_simp <;> with_reducible rfl)
   try simp only [Act.put,qA,qB,qC]
   refine tk ?_ 5 (some 37) rfl rfl ?_ ?_; rotate_left; · (intro w hSw; (try dsimp only at hSw); go_simp <;> with_reducible rfl)
   try simp only [Act.put,qA,qB,qC]
   refine tk ?_ 6 (some 38) rfl rfl ?_ ?_; rotate_left; · (intro w hSw; (try dsimp only at hSw); go_simp <;> with_reducible rfl)
   try simp only [Act.put,qA,qB,qC]
   refine takeD (i := 7) (v := undef) (some 39) rfl rfl (by kernel_rfl) (by kernel_rfl) (by kernel_rfl) (fun _ _ _ h => h) (Or.inr ⟨by rfl, rfl⟩) (by assumption) ?_
   try simp only [Act.put,qA,qB,qC]
   refine takeD (i := 8) (v := undef) (some 40) rfl rfl (by kernel_rfl) (by kernel_rfl) (by kernel_rfl) (fun _ _ _ h => h) (Or.inr ⟨by rfl, rfl⟩) (by assumption) ?_
   try simp only [Act.put,qA,qB,qC]
   refine tk ?_ 9 (some 41) rfl rfl ?_ ?_; rotate_left; · (intro w hSw; (try dsimp only at hSw); go_simp <;> with_reducible rfl)
   try simp only [Act.put,qA,qB,qC]
   refine st 10 rfl fun K hK => ?_
   have r40 := HJ.out.rule.cell 0
   have r41 := HJ.out.rule.cell 1
   have r42 := HJ.out.rule.cell 2
   have r43 := HJ.out.rule.cell 3
   have g0 := HJ.out.rule.free 0
   have g1 := HJ.out.rule.free 1
   have g2 := HJ.out.rule.free 2
   have g3 := HJ.out.rule.free 3
   simp only [List.getElem?_toArray, List.getElem?_cons_zero, List.getElem?_cons_succ] at r40 r41 r42 r43
   go_simp
   have HJ := hid ((((HJ.out.setR 0 (.int .i64 (r0 : Nat))).setR 1 (.int .i64 (r1 : Nat))).setR 2 (.nilFunc)).setR 3 (.func (.func k) #[] #[]))
   have H10 := hid ((((H10.out.far (p := ⟨w.heap.size, 0, none⟩) n1 (.int .i64 (r0 : Nat))).far (p := ⟨w.heap.size, 1, none⟩) n1 (.int .i64 (r1 : Nat))).far (p := ⟨w.heap.size, 2, none⟩) n1 (.nilFunc)).far (p := ⟨w.heap.size, 3, none⟩) n1 (.func (.func k) #[] #[]))
   have H12 := hid ((((H12.out.far (p := ⟨w.heap.size, 0, none⟩) n2 (.int .i64 (r0 : Nat))).far (p := ⟨w.heap.size, 1, none⟩) n2 (.int .i64 (r1 : Nat))).far (p := ⟨w.heap.size, 2, none⟩) n2 (.nilFunc)).far (p := ⟨w.heap.size, 3, none⟩) n2 (.func (.func k) #[] #[]))
   clear r40 r41 r42 r43 g0 g1 g2 g3 hHeld
   generalize (((X.setCell ⟨w.heap.size, 0, none⟩ (.int .i64 (r0 : Nat))).setCell ⟨w.heap.size, 1, none⟩ (.int .i64 (r1 : Nat))).setCell ⟨w.heap.size, 2, none⟩ (.nilFunc)).setCell ⟨w.heap.size, 3, none⟩ (.func (.func k) #[] #[]) = X1 at *
   obtain ⟨X, rfl⟩ : ∃ Y, Y = X1 := ⟨X1, rfl⟩
   refine hK.out _ _ ?_ (fun hHeld => ?_); · ((try dsimp only); (exact ⟨H10.out.cell 0, H10.out.cell 1, H10.out.cell 2, H10.out.cell 3, H12.out.cell 0, H12.out.cell 1⟩))
   clear hK K
   try simp only [Act.put,qA,qB,qC]
   refine st 11 rfl fun K hK => ?_
   have r40 := HJ.out.line.cell 0
   have r41 := HJ.out.line.cell 1
   have g0 := HJ.out.line.free 0
   have g1 := HJ.out.line.free 1
   simp only [List.getElem?_toArray, List.getElem?_cons_zero, List.getElem?_cons_succ] at r40 r41
   go_simp
   have HJ := hid ((HJ.out.setL 0 (.slice A a c)).setL 1 (.slice D b d))
   have H10 := hid ((H10.out.far (p := ⟨w.heap.size + 1, 0, none⟩) n3 (.slice A a c)).far (p := ⟨w.heap.size + 1, 1, none⟩) n3 (.slice D b d))
   have H12 := hid ((H12.out.far (p := ⟨w.heap.size + 1, 0, none⟩) n4 (.slice A a c)).far (p := ⟨w.heap.size + 1, 1, none⟩) n4 (.slice D b d))
   clear r40 r41 g0 g1 hHeld
   generalize (X.setCell ⟨w.heap.size + 1, 0, none⟩ (.slice A a c)).setCell ⟨w.heap.size + 1, 1, none⟩ (.slice D b d) = X1 at *
   obtain ⟨X, rfl⟩ : ∃ Y, Y = X1 := ⟨X1, rfl⟩
   refine hK.out _ _ ?_ (fun hHeld => ?_); · ((try dsimp only); (exact ⟨H10.out.cell 0, H10.out.cell 1, H10.out.cell 2, H10.out.cell 3, H12.out.cell 0, H12.out.cell 1⟩))
   clear hK K
   try simp only [Act.put,qA,qB,qC]
   refine tk ?_ 12 (some 6) rfl rfl ?_ ?_; rotate_left; · (intro w hSw; (try dsimp only at hSw); go_simp <;> with_reducible rfl)
   try simp only [Act.put,qA,qB,qC]
   refine wpAnyH_done (by kernel_rfl) ?_ _
   go_wp2_with fail
   go_meet
   case rel => exact ⟨rfl, HJ⟩
 case rest =>
  obtain ⟨rfl, HJ⟩ := hcut
  go_wp2
  exact bodyPost_ret (results_rows_tmp rfl _ _ w.heap.size (w.heap.size + 1) 122 124 #[.int .i64 (r0 : Nat), .int .i64 (r1 : Nat), .nilFunc, .func (.func k) #[] #[]] #[.slice A a c, .slice D b d] (0, 0) (0, 0) _ _ rfl rfl HJ.out.rule HJ.out.line Tryz.underlying122 rfl (by kernel_rfl) Tryz.underlying124 rfl (by kernel_rfl)) rfl ⟨by rw [← HQE.out]; exact ⟨A, c, D, d, by rw [← HA.out, ← HBb.out, ← HQS.out]; rfl, by rw [← HA.out]; have := HJ.out.nam; rwa [← HA.out] at this, by rw [← HBb.out]; have := HJ.out.num; rwa [← HBb.out] at this⟩, HJ.out.low⟩
set_option maxRecDepth 100000 in
set_option maxHeartbeats 4000000 in
theorem findOut (bm : Nat) (f : Value → Option Value) (s : ByteArray)  (hs : s.size ≤ 100000000) (w : World) (hm : EnvN w) (hmap : MapX Tryz.prog 9 w bm f) (hf : f (.string (wordOf s)) = none) :
 Calls Tryz.prog 68 #[.map (some bm), .string s] w fun e w' => FndP w.heap.size #[.int .i64 0, .int .i64 0, .nilFunc, .nilFunc] (readP 0 0 (parts s).tail) false e w' ∧ Below w.heap.size w w' := by
 obtain ⟨kl, hkl⟩ := key_any (wordOf s) (by have := wordOf_size s; omega)
 have K : Keyed Tryz.prog 9 := string_keyed Tryz.underlying9
 have B1 : Below w.heap.size w ((w.alloc (.cells #[.int .i64 0, .int .i64 0, .nilFunc, .nilFunc] 122)).alloc (.cells #[.slice none 0 0, .slice none 0 0] 124)) := ((Below.refl _ w).alloc (Nat.le_refl _) _).alloc (by simp) _
 have HW := hid (word_word (s := s) (by omega) _ (hm.max.keep B1))
 have X4 := hid ((Blk.new w 122 #[.int .i64 0, .int .i64 0, .nilFunc, .nilFunc]).alloc (.cells #[.slice none 0 0, .slice none 0 0] 124))
 have X5 := hid (Blk.new_at (w.alloc (.cells #[.int .i64 0, .int .i64 0, .nilFunc, .nilFunc] 122)) 124 #[.slice none 0 0, .slice none 0 0] (n := w.heap.size + 1) (by simp))
 have HMP := hid (hmap.keep B1)
 have HB1 := hid B1
 have HM := hid hm
 have HR := hid fun W (hW : EnvN W) => readTwo 0 0 (.nilFunc) (.nilFunc) s hs (by omega) W hW
 clear hm hmap B1
 go_enter Tryz.func68, Tryz.ntmps68
 go_wp2_with fail
 refine (HW.out).mono ?_; rintro e w1 ⟨rest, ok, kk, rfl, rfl⟩
 clear HW
 have HLK := HMP.out.look_out K Tryz.underlying127 zeroRule hkl hf kk true
 have HBV := hid (below_drewN HB1.out kk)
 have V4 := hid (X4.out.drewN kk)
 have V5 := hid (X5.out.drewN kk)
 simp only [if_true] at HLK
 clear HMP HB1 X4 X5
 generalize ((w.alloc (.cells #[.int .i64 0, .int .i64 0, .nilFunc, .nilFunc] 122)).alloc (.cells #[.slice none 0 0, .slice none 0 0] 124)).drewN kk = V at *
 have V10 := hid (Blk.new V 122 #[.int .i64 0, .int .i64 0, .nilFunc, .nilFunc])
 have B10 := hid (HBV.out.alloc HBV.out.size (.cells #[.int .i64 0, .int .i64 0, .nilFunc, .nilFunc] 122))
 have HRD := hid (HR.out _ (HM.out.keep B10.out))
 have Q4 := hid (V4.out.alloc (.cells #[.int .i64 0, .int .i64 0, .nilFunc, .nilFunc] 122))
 have Q5 := hid (V5.out.alloc (.cells #[.int .i64 0, .int .i64 0, .nilFunc, .nilFunc] 122))
 have HV2 := hid (show w.heap.size + 2 ≤ V.heap.size from by have := V5.out.lt; omega)
 obtain ⟨q, hqe⟩ : ∃ q, q = readP 0 0 (parts s).tail := ⟨_, rfl⟩
 have HQE := hid hqe
 rw [← hqe] at HRD
 clear hqe
 clear V4 V5 HR
 go_wp2_with fail
 refine (HRD.out).mono ?_; rintro e w3 ⟨A, c, D, d, rfl, ho, ho2, b3⟩
 have HQ := hid (show (∃ a b, a = (q.getD ([], [])).1.length ∧ b = (q.getD ([], [])).2.length) from ⟨_, _, rfl, rfl⟩)
 obtain ⟨a, b, ha, hb⟩ := HQ.out
 rw [← ha] at ho
 rw [← hb] at ho2
 have HA := hid ha
 have HBb := hid hb
 rw [← ha, ← hb]
 have HJ := hid (show FdG w (w3.alloc (.cells #[.slice A a c, .slice D b d] 124)) #[.int .i64 0, .int .i64 0, .nilFunc, .nilFunc] #[.slice none 0 0, .slice none 0 0] (.slice A a c) (.slice D b d) (q.getD ([], [])).1 (q.getD ([], [])).2 from
  (show FdG w w3 _ _ _ _ _ _ from ⟨Q4.out.keep b3, Q5.out.keep b3, by rw [← ha]; exact own_more ho B10.out.size, by rw [← hb]; exact own_more ho2 B10.out.size, below_call B10.out b3 B10.out.size⟩).below ((Below.refl _ _).alloc (Nat.le_refl _) _))
 have H10 := hid ((V10.out.keep b3).alloc (.cells #[.slice A a c, .slice D b d] 124))
 have H12 := hid (Blk.new w3 124 #[.slice A a c, .slice D b d])
 have HV3 := hid (show w.heap.size + 2 ≤ w3.heap.size from by have := Q5.out.lt; have := b3.size; simp at *; omega)
 clear ho ho2 b3 Q4 Q5 V10 HRD ha hb HQ B10
 obtain ⟨qs, hqs⟩ : ∃ qs, qs = q.isSome := ⟨_, rfl⟩
 have HQS := hid hqs
 rw [← hqs]
 clear hqs
 go_wp2_with fail
 generalize hW4 : w3.alloc (.cells #[.slice A a c, .slice D b d] 124) = X at *
 clear hW4
 have n1 : ¬ V.heap.size = w.heap.size := by have := HV2.out; omega
 have n2 : ¬ w3.heap.size = w.heap.size := by have := HV3.out; omega
 have n3 : ¬ V.heap.size = w.heap.size + 1 := by have := HV2.out; omega
 have n4 : ¬ w3.heap.size = w.heap.size + 1 := by have := HV3.out; omega
 go_cut [6] from 32 to 41 (fun t wx => t = .bool false ∧ Hid (FdG w wx #[.int .i64 0, .int .i64 0, .nilFunc, .nilFunc] #[.slice A a c, .slice D b d] (.slice A a c) (.slice D b d) (q.getD ([], [])).1 (q.getD ([], [])).2))
 case first =>
  refine wp_region_held_drew (S := (fun w' => w'.cell? ⟨V.heap.size, 0, none⟩ = some (.int .i64 0) ∧ w'.cell? ⟨V.heap.size, 1, none⟩ = some (.int .i64 0) ∧ w'.cell? ⟨V.heap.size, 2, none⟩ = some (.nilFunc) ∧ w'.cell? ⟨V.heap.size, 3, none⟩ = some (.nilFunc) ∧ w'.cell? ⟨w3.heap.size, 0, none⟩ = some (.slice A a c) ∧ w'.cell? ⟨w3.heap.size, 1, none⟩ = some (.slice D b d))) (by kernel_rfl) (by (try dsimp only); (exact ⟨H10.out.cell 0, H10.out.cell 1, H10.out.cell 2, H10.out.cell 3, H12.out.cell 0, H12.out.cell 1⟩)) (fun hHeld => ?_)
  have HJ := hid HJ.out.drew; have H10 := hid H10.out.drew; have H12 := hid H12.out.drew
  generalize X.drew = X1 at *
  obtain ⟨X, rfl⟩ : ∃ Y, Y = X1 := ⟨X1, rfl⟩
  refine tk ?_ 0 (some 32) rfl rfl ?_ ?_; rotate_left; · (intro w hSw; (try dsimp only at hSw); go_simp <;> with_reducible rfl)
  try simp only [Act.put,qA,qB,qC]
  refine tk ?_ 1 (some 33) rfl rfl ?_ ?_; rotate_left; · (intro w hSw; (try dsimp only at hSw); go_simp <;> with_reducible rfl)
  try simp only [Act.put,qA,qB,qC]
  refine tk ?_ 2 (some 34) rfl rfl ?_ ?_; rotate_left; · (intro w hSw; (try dsimp only at hSw); go_simp <;> with_reducible rfl)
  try simp only [Act.put,qA,qB,qC]
  refine tk ?_ 3 (some 35) rfl rfl ?_ ?_; rotate_left; · (intro w hSw; (try dsimp only at hSw); go_simp <;> with_reducible rfl)
  try simp only [Act.put,qA,qB,qC]
  refine takeD (i := 4) (v := undef) (some 36) rfl rfl (by kernel_rfl) (by kernel_rfl) (by kernel_rfl) (fun _ _ _ h => h) (Or.inr ⟨by rfl, rfl⟩) (by assumption) ?_
  try simp only [Act.put,qA,qB,qC]
  refine tk ?_ 5 (some 37) rfl rfl ?_ ?_; rotate_left; · (intro w hSw; (try dsimp only at hSw); go_simp <;> with_reducible rfl)
  try simp only [Act.put,qA,qB,qC]
  refine tk ?_ 6 (some 38) rfl rfl ?_ ?_; rotate_left; · (intro w hSw; (try dsimp only at hSw); go_simp <;> with_reducible rfl)
  try simp only [Act.put,qA,qB,qC]
  refine takeD (i := 7) (v := undef) (some 39) rfl rfl (by kernel_rfl) (by kernel_rfl) (by kernel_rfl) (fun _ _ _ h => h) (Or.inr ⟨by rfl, rfl⟩) (by assumption) ?_
  try simp only [Act.put,qA,qB,qC]
  refine takeD (i := 8) (v := undef) (some 40) rfl rfl (by kernel_rfl) (by kernel_rfl) (by kernel_rfl) (fun _ _ _ h => h) (Or.inr ⟨by rfl, rfl⟩) (by assumption) ?_
  try simp only [Act.put,qA,qB,qC]
  refine tk ?_ 9 (some 41) rfl rfl ?_ ?_; rotate_left; · (intro w hSw; (try dsimp only at hSw); go_simp <;> with_reducible rfl)
  try simp only [Act.put,qA,qB,qC]
  refine st 10 rfl fun K hK => ?_
  have r40 := HJ.out.rule.cell 0
  have r41 := HJ.out.rule.cell 1
  have r42 := HJ.out.rule.cell 2
  have r43 := HJ.out.rule.cell 3
  have g0 := HJ.out.rule.free 0
  have g1 := HJ.out.rule.free 1
  have g2 := HJ.out.rule.free 2
  have g3 := HJ.out.rule.free 3
  simp only [List.getElem?_toArray, List.getElem?_cons_zero, List.getElem?_cons_succ] at r40 r41 r42 r43
  go_simp
  have HJ := hid ((((HJ.out.setR 0 (.int .i64 0)).setR 1 (.int .i64 0)).setR 2 (.nilFunc)).setR 3 (.nilFunc))
  have H10 := hid ((((H10.out.far (p := ⟨w.heap.size, 0, none⟩) n1 (.int .i64 0)).far (p := ⟨w.heap.size, 1, none⟩) n1 (.int .i64 0)).far (p := ⟨w.heap.size, 2, none⟩) n1 (.nilFunc)).far (p := ⟨w.heap.size, 3, none⟩) n1 (.nilFunc))
  have H12 := hid ((((H12.out.far (p := ⟨w.heap.size, 0, none⟩) n2 (.int .i64 0)).far (p := ⟨w.heap.size, 1, none⟩) n2 (.int .i64 0)).far (p := ⟨w.heap.size, 2, none⟩) n2 (.nilFunc)).far (p := ⟨w.heap.size, 3, none⟩) n2 (.nilFunc))
  clear r40 r41 r42 r43 g0 g1 g2 g3 hHeld
  generalize (((X.setCell ⟨w.heap.size, 0, none⟩ (.int .i64 0)).setCell ⟨w.heap.size, 1, none⟩ (.int .i64 0)).setCell ⟨w.heap.size, 2, none⟩ (.nilFunc)).setCell ⟨w.heap.size, 3, none⟩ (.nilFunc) = X1 at *
  obtain ⟨X, rfl⟩ : ∃ Y, Y = X1 := ⟨X1, rfl⟩
  refine hK.out _ _ ?_ (fun hHeld => ?_); · ((try dsimp only); (exact ⟨H10.out.cell 0, H10.out.cell 1, H10.out.cell 2, H10.out.cell 3, H12.out.cell 0, H12.out.cell 1⟩))
  clear hK K
  try simp only [Act.put,qA,qB,qC]
  refine st 11 rfl fun K hK => ?_
  have r40 := HJ.out.line.cell 0
  have r41 := HJ.out.line.cell 1
  have g0 := HJ.out.line.free 0
  have g1 := HJ.out.line.free 1
  simp only [List.getElem?_toArray, List.getElem?_cons_zero, List.getElem?_cons_succ] at r40 r41
  go_simp
  have HJ := hid ((HJ.out.setL 0 (.slice A a c)).setL 1 (.slice D b d))
  have H10 := hid ((H10.out.far (p := ⟨w.heap.size + 1, 0, none⟩) n3 (.slice A a c)).far (p := ⟨w.heap.size + 1, 1, none⟩) n3 (.slice D b d))
  have H12 := hid ((H12.out.far (p := ⟨w.heap.size + 1, 0, none⟩) n4 (.slice A a c)).far (p := ⟨w.heap.size + 1, 1, none⟩) n4 (.slice D b d))
  clear r40 r41 g0 g1 hHeld
  generalize (X.setCell ⟨w.heap.size + 1, 0, none⟩ (.slice A a c)).setCell ⟨w.heap.size + 1, 1, none⟩ (.slice D b d) = X1 at *
  obtain ⟨X, rfl⟩ : ∃ Y, Y = X1 := ⟨X1, rfl⟩
  refine hK.out _ _ ?_ (fun hHeld => ?_); · ((try dsimp only); (exact ⟨H10.out.cell 0, H10.out.cell 1, H10.out.cell 2, H10.out.cell 3, H12.out.cell 0, H12.out.cell 1⟩))
  clear hK K
  try simp only [Act.put,qA,qB,qC]
  refine tk ?_ 12 (some 6) rfl rfl ?_ ?_; rotate_left; · (intro w hSw; (try dsimp only at hSw); go_simp <;> with_reducible rfl)
  try simp only [Act.put,qA,qB,qC]
  refine wpAnyH_done (by kernel_rfl) ?_ _
  go_wp2_with fail
  go_meet
  case rel => exact ⟨rfl, HJ⟩
 case rest =>
  obtain ⟨rfl, HJ⟩ := hcut
  go_wp2
  exact bodyPost_ret (results_rows_tmp rfl _ _ w.heap.size (w.heap.size + 1) 122 124 #[.int .i64 0, .int .i64 0, .nilFunc, .nilFunc] #[.slice A a c, .slice D b d] (0, 0) (0, 0) _ _ rfl rfl HJ.out.rule HJ.out.line Tryz.underlying122 rfl (by kernel_rfl) Tryz.underlying124 rfl (by kernel_rfl)) rfl ⟨by rw [← HQE.out]; exact ⟨A, c, D, d, by rw [← HA.out, ← HBb.out]; rfl, by rw [← HA.out]; have := HJ.out.nam; rwa [← HA.out] at this, by rw [← HBb.out]; have := HJ.out.num; rwa [← HBb.out] at this⟩, HJ.out.low⟩
end Go.Proofs.YtnibidmlkbcfkaaGreatDoor
