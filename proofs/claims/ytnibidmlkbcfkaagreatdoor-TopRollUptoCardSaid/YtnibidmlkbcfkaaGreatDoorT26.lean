/- Texts of this proof, one behind the other; each says its condition at its head. -/
import Derived.Test.YtnibidmlkbcfkaaGreatDoorT4
import Derived.RangeFuncNested
import Derived.RangeFuncBound
import Derived.RangeFuncCalls
import Derived.RangeFuncLeaves
import Derived.Shelf.RegionOpen
import Derived.OwnWalkIn
import Derived.TacticsInMore
import Derived.LoopNIn
import Derived.LoopIn
import Derived.Test.YtnibidmlkbcfkaaGreatDoorT5
import Derived.Test.YtnibidmlkbcfkaaGreatDoorT25
import Derived.Test.YtnibidmlkbcfkaaGreatDoorT3
import Derived.Laws.IdiomCopy
namespace Go.Proofs.YtnibidmlkbcfkaaGreatDoor
/- Ranges over the elements of a set: the statement's law, the iterator's contract. Condition: the library's table of 64 numbers stands in its variable. -/
section
open Go.RowKit Go.Shelf
/-- The set s holds the elements xs, in their order. -/
def Elems : Nat → List Nat → Prop
 | s, [] => s = 0
 | s, x :: xs => s ≠ 0 ∧ s < 9223372036854775808 ∧ x = Lib.ctz 64 s ∧ Elems (s &&& (s - 1)) xs
theorem Elems.lt {s : Nat} {xs : List Nat} (h : Elems s xs) : s < 9223372036854775808 := by
 cases xs with
 | nil => have h : s = 0 := h; omega
 | cons x xs => exact h.2.1
/-- How the body of a round may be left: c is the set's own box. -/
def elemPost (B c : Nat) (I : Nat → World → Prop) (Ix : Code → World → Prop) (k : Nat) (W : World) : Exit → Act → World → Prop
 | .normal, _, W' => KeepsFrom B W W' ∧ W'.heap[c]? = W.heap[c]? ∧ I k W'
 | .ret, _, W' => KeepsFrom B W W' ∧ Ix .ret W'
 | .exit id, _, W' => KeepsFrom B W W' ∧ Ix (.exit id) W'
 | .goto t, _, W' => KeepsFrom B W W' ∧ Ix (.goto t) W'
 | .panic _, _, _ => False
 | .outgrown, _, _ => False
/-- What an iterator over xs promises: J between rounds, Jx where a round has left. -/
def IterC (P : Program) (n gf c : Nat) (t : TypeId) (xs : List Nat) (W : World) : Prop :=
 ∀ (l : Nat) (J : Nat → World → Prop) (Jx : World → Prop),
  (∀ k W v, J k W → J k (W.setCell ⟨c, 0, none⟩ v)) → (∀ k W, J k W → Tab W) →
  (∀ k x W, J k W → xs[k]? = some x → (∃ v, Blk W c t #[v]) → YieldAt Fence.wide (n - 1) P l #[.int .i64 x] W fun e W' =>
   (e = .returned (.bool true) ∧ J (k + 1) W' ∧ W'.heap[c]? = W.heap[c]?) ∨ (e = .returned (.bool false) ∧ Jx W')) →
  ∀ W1, W1.heap[c]? = W.heap[c]? → J 0 W1 →
  CallsIn Fence.wide n P gf #[.func (.yield l) #[] #[], .pointer (some ⟨c, 0, none⟩)] W1 fun e W' => (∃ v, e = .returned v) ∧ (J xs.length W' ∨ Jx W')
/-- The statement 'for x := range elements(s) { .. }'. -/
theorem wp_range {P : Program} {n : Nat} {g : Operand} {ps : Array Tmp} {assign body : Code} {Q : Exit → Act → World → Prop} {a : Act} {w : World} {gf c : Nat} {t : TypeId} {xs : List Nat} {v0 : Value}
 (hg : a.eval g = .func (.func gf) #[] #[.pointer (some ⟨c, 0, none⟩)]) (eg : ∀ args w, (callFunc gf args).run P w = .ok (.enter gf args) w)
 (hc : Blk w c t #[v0]) (hit : IterC P (n - 1) gf c t xs w) (hps : ps.size = 1)
 (I : Nat → World → Prop) (Ix : Code → World → Prop) (hI : OwnFrom w.heap.size I) (hIx : ∀ cd, OwnFrom w.heap.size (fun (_ : Unit) W => Ix cd W))
 (hS : ∀ k W v, I k W → I k (W.setCell ⟨c, 0, none⟩ v)) (hT : ∀ k W, I k W → Tab W) (h0 : I 0 w)
 (hround : ∀ (l k x : Nat) (W W2 : World), w.heap.size ≤ l → (∃ r, W2.heap[l]? = some (.loop r)) → I k W2 → xs[k]? = some x → (∃ v, Blk W2 c t #[v]) →
  assign.wpIn (Fence.wide.inRound l) (n - 1 - 1) P (Exit.then (fun a₁ w₁ => W = w₁ ∧ body.wpIn (Fence.wide.inRound l) (n - 1 - 1) P (elemPost w.heap.size c I Ix (k + 1) W2) a₁ W2) (fun _ _ _ => False))
   { tmps := (ps.zip #[.int .i64 x]).foldl (fun t (p, v) => t.setIfInBounds p v) a.tmps, defers := [] } W)
 (hdone : ∀ (D : Nat) (W : World), w.heap.size ≤ D → I xs.length W → W.heap[D]? = some (.deferred (some [])) → Q .normal { a with defers := { target := .collected D, args := #[] } :: a.defers } W)
 (hstop : ∀ (D : Nat) (cd : Code) (W : World), w.heap.size ≤ D → Ix cd W → W.heap[D]? = some (.deferred (some [])) → cd.wpIn Fence.wide n P Q { a with defers := { target := .collected D, args := #[] } :: a.defers } W) :
 (Code.rangeFunc g ps assign body).wpIn Fence.wide n P Q a w := by
 have hclt := hc.lt
 refine wpIn_rangeFunc ?_
 intro fn hfn
 rw [show Fence.wide.round = none from rfl]
 obtain ⟨rec, hrec⟩ : ∃ rec : LoopState → Option Code → Loop, rec = fun st pe => { state := st, pending := pe, fn, tmps := a.tmps, params := ps, assign, body, defers := w.heap.size } := ⟨_, rfl⟩
 obtain ⟨W1, hW1⟩ : ∃ W1, (w.alloc (.deferred (some []))).alloc (.loop (rec .ready none)) = W1 := ⟨_, rfl⟩
 have hL1 : W1.heap[w.heap.size + 1]? = some (.loop (rec .ready none)) := by
  rw [← hW1]; have := World.alloc_heap_new (w.alloc (.deferred (some []))) (.loop (rec .ready none)); rwa [World.size_alloc] at this
 have hK1 : W1.heap[w.heap.size]? = some (.deferred (some [])) := by
  rw [← hW1]; exact (Below.heap_alloc _ _ _ (by simp)).trans (World.alloc_heap_new w _)
 have hI1 : I 0 W1 := by rw [← hW1]; exact hI.alloc _ (hI.alloc _ h0)
 have hc1 : W1.heap[c]? = w.heap[c]? := by
  rw [← hW1]; exact (Below.heap_alloc _ _ _ (by simp; omega)).trans (Below.heap_alloc _ _ _ hclt)
 refine ⟨w.heap.size + 1, [{ target := .collected w.heap.size, args := #[] }], W1, { target := .fn (.func gf) #[.pointer (some ⟨c, 0, none⟩)], args := #[.func (.yield (w.heap.size + 1)) #[] #[]] }, W1, gf,
  #[.func (.yield (w.heap.size + 1)) #[] #[], .pointer (some ⟨c, 0, none⟩)], W1, ?_, ?_, ?_, ?_, (fun h => by cases h), ?_⟩
 · rw [← hW1, hrec]; exact run_enterLoop_outer _ _ _ _ _
 · simp only [resolve, hg]
   simp [go_sem]
 · intro f' hf'; trivial
 · simp [invoke, go_sem, eg]
 · refine (hit (w.heap.size + 1)
    (fun k W => I k W ∧ W.heap[w.heap.size + 1]? = some (.loop (rec .ready none)) ∧ W.heap[w.heap.size]? = some (.deferred (some [])))
    (fun W => ∃ cd, Ix cd W ∧ W.heap[w.heap.size + 1]? = some (.loop (rec .done (some cd))) ∧ W.heap[w.heap.size]? = some (.deferred (some [])))
    (fun k W v hs => ⟨hS k W v hs.1, (Below.heap_setCell W _ _ _ (by simp; omega)).trans hs.2.1, (Below.heap_setCell W _ _ _ (by simp; omega)).trans hs.2.2⟩)
    (fun k W hs => hT k W hs.1) ?_ W1 hc1 ⟨hI1, hL1, hK1⟩).mono ?_
   · rintro k x W ⟨hi, hl, hk⟩ hx ⟨v, hv⟩
     have hlt : w.heap.size + 1 < W.heap.size := (Array.getElem?_eq_some_iff.1 hl).1
     have hy := run_yield (P := P) (args := #[.int .i64 x]) hl (by rw [hrec]; simp [hps])
     rw [hrec] at hy
     have hl2 : (W.putObj (w.heap.size + 1) (.loop { rec .ready none with state := .busy })).heap[w.heap.size + 1]? = some (.loop { rec .ready none with state := .busy }) := World.putObj_heap_same hlt
     have hk2 : (W.putObj (w.heap.size + 1) (.loop { rec .ready none with state := .busy })).heap[w.heap.size]? = some (.deferred (some [])) := (World.putObj_heap_other (by omega)).trans hk
     have hv2 : (W.putObj (w.heap.size + 1) (.loop { rec .ready none with state := .busy })).heap[c]? = W.heap[c]? := World.putObj_heap_other (by omega)
     refine ⟨fn, _, assign, body, hy, roundIn_of_wpIn hfn (wpIn_mono (hround _ k x W (W.putObj (w.heap.size + 1) (.loop { rec .ready none with state := .busy })) (by omega) ⟨_, hl2⟩ (hI.putObj _ hi (by omega) hl rfl) hx ⟨v, hv2.trans hv⟩) ?_)⟩
     clear hy
     rintro e1 a1 w1 he1
     cases e1 with
     | normal =>
      obtain ⟨rfl, hb⟩ := he1
      refine ⟨_, run_beginRound hl (by rw [hrec]), ?_⟩
      refine wpIn_mono hb ?_
      have fin : ∀ (jump : Option Code) (W3 : World), KeepsFrom w.heap.size (W.putObj (w.heap.size + 1) (.loop { rec .ready none with state := .busy })) W3 →
       (Instr.endRound (w.heap.size + 1) jump).run P W3 = .ok (.bool jump.isNone) (W3.putObj (w.heap.size + 1) (.loop (rec (if jump.isNone then .ready else .done) jump))) ∧
       W3.heap[w.heap.size + 1]? = some (.loop { rec .ready none with state := .busy }) ∧
       (W3.putObj (w.heap.size + 1) (.loop (rec (if jump.isNone then .ready else .done) jump))).heap[w.heap.size + 1]? = some (.loop (rec (if jump.isNone then .ready else .done) jump)) ∧
       (W3.putObj (w.heap.size + 1) (.loop (rec (if jump.isNone then .ready else .done) jump))).heap[w.heap.size]? = some (.deferred (some [])) := fun jump W3 hk3 => by
       have hl3 := hk3.same _ _ (by omega) hl2 rfl
       have := run_endRound (P := P) jump hl3
       rw [hrec] at this ⊢
       exact ⟨this, by rw [hrec] at hl3; exact hl3, World.putObj_heap_same (Array.getElem?_eq_some_iff.1 hl3).1, (World.putObj_heap_other (by omega)).trans (hk3.same _ _ (Nat.le_refl _) hk2 rfl)⟩
      rintro e a3 W3 hp
      cases e with
      | normal =>
       obtain ⟨hk3, hc3, hi3⟩ := hp
       obtain ⟨hr, hl3, hl4, hk4⟩ := fin none W3 hk3
       exact ⟨_, _, hr, .inl ⟨rfl, ⟨hI.putObj _ hi3 (by omega) hl3 rfl, hl4, hk4⟩, (World.putObj_heap_other (by omega)).trans (hc3.trans hv2)⟩⟩
      | ret =>
       obtain ⟨hk3, hi3⟩ := hp
       obtain ⟨hr, hl3, hl4, hk4⟩ := fin (some .ret) W3 hk3
       exact ⟨_, _, hr, .inr ⟨rfl, .ret, (hIx _).putObj (s := ()) _ hi3 (by omega) hl3 rfl, hl4, hk4⟩⟩
      | exit id =>
       obtain ⟨hk3, hi3⟩ := hp
       obtain ⟨hr, hl3, hl4, hk4⟩ := fin (some (.exit id)) W3 hk3
       exact ⟨_, _, hr, .inr ⟨rfl, .exit id, (hIx _).putObj (s := ()) _ hi3 (by omega) hl3 rfl, hl4, hk4⟩⟩
      | goto t =>
       obtain ⟨hk3, hi3⟩ := hp
       obtain ⟨hr, hl3, hl4, hk4⟩ := fin (some (.goto t)) W3 hk3
       exact ⟨_, _, hr, .inr ⟨rfl, .goto t, (hIx _).putObj (s := ()) _ hi3 (by omega) hl3 rfl, hl4, hk4⟩⟩
      | panic ch => exact hp.elim
      | outgrown => exact hp.elim
     | ret => exact he1.elim
     | exit id => exact he1.elim
     | goto t => exact he1.elim
     | panic ch => exact he1.elim
     | outgrown => exact he1.elim
   · rintro e W2 ⟨⟨v, rfl⟩, (⟨hi, hl, hk⟩ | ⟨cd, hi, hl, hk⟩)⟩
     · exact ⟨none, _, by have := run_endLoop (P := P) hl (by rw [hrec]; simp); rw [hrec] at this; exact this, hdone _ _ (Nat.le_refl _) (hI.putObj _ hi (by omega) hl rfl) ((World.putObj_heap_other (by omega)).trans hk)⟩
     · exact ⟨some cd, _, by have := run_endLoop (P := P) hl (by rw [hrec]; simp); rw [hrec] at this; exact this, hstop _ cd _ (Nat.le_refl _) ((hIx cd).putObj (s := ()) _ hi (by omega) hl rfl) ((World.putObj_heap_other (by omega)).trans hk)⟩
theorem ownFrom_blk {β : Type} (B b : Nat) (t : TypeId) (cs : Array Value) : OwnFrom B (fun (_ : β) W => Blk W b t cs) := fun _ X Y row hs hg hr =>
 (hg.block b hs.lt (fun e => by
  obtain ⟨_, o, ho, hc⟩ := hr b e.symm
  unfold Blk at hs
  rw [hs] at ho
  cases ho
  cases hc)).trans hs
theorem ownFrom_tab {β : Type} {B : Nat} (hB : 7 < B) : OwnFrom B (fun (_ : β) W => Tab W) := fun _ X Y row hs hg hr => hs.grown hg (fun e => by have := (hr _ e).1; omega)
end
/- Walks of order's elements and of its closure. Condition: the library's table of 64 numbers stands in its variable; the set's box is known. -/
section
open Go.RowKit Go.Shelf
attribute [local go_sem] Oper.semAt_some
set_option maxRecDepth 100000 in
/-- The maker: the set is boxed, and the function value holds the box. -/
theorem elementsF (s : Int) (w : World) :
 Calls Tryz.prog 71 #[.int .i64 s] w fun e w' => e = .returned (.func (.func 109) #[] #[.pointer (some ⟨w.heap.size, 0, none⟩)]) ∧ w.alloc (.cells #[.int .i64 s] 3) = w' := by
 go_enter Tryz.func71, Tryz.ntmps71
 go_wp2
 go_ret
 exact ⟨rfl, rfl⟩
/-- The number in a box. -/
def boxN (w : World) (c : Nat) : Nat := match w.cell? ⟨c, 0, none⟩ with
 | some (.int _ x) => x.toNat
 | _ => 0
theorem boxN_of {w : World} {c : Nat} {t : TypeId} {s : Nat} (h : Blk w c t #[.int .i64 s]) : boxN w c = s := by
 have := h.cell 0
 unfold boxN
 rw [this]
 simp
theorem and_pred_lt {s : Nat} (h : s ≠ 0) : s &&& (s - 1) < s := by
 have : s &&& (s - 1) ≤ s - 1 := Nat.and_le_right
 omega
set_option maxRecDepth 100000 in
set_option maxHeartbeats 2000000 in
theorem elems_iter (n c s : Nat) (xs : List Nat) (W : World) (hx : Elems s xs) (hc : Blk W c 3 #[.int .i64 s]) :
 IterC Tryz.prog n 109 c 3 xs W := fun l J Jx hS hT hY W1 hW1 h0 => by
 have hc1 : Blk W1 c 3 #[.int .i64 s] := hW1.trans hc
 refine callsIn_of_wp Tryz.func109 rfl trivial ?_ rfl
 simp only [Tryz.ntmps109, List.size_toArray, List.length_cons, List.length_nil, Nat.reduceAdd, Nat.reduceSub, Array.replicate_succ, Array.replicate_zero, List.push_toArray, List.append_toArray, List.nil_append, List.cons_append]
 gi_wp2
 gi_loopw [3] (fun _ wr => ∃ (k s' : Nat), k ≤ xs.length ∧ Elems s' (xs.drop k) ∧ Blk wr c 3 #[.int .i64 s'] ∧ J k wr) (fun _ wr => boxN wr c)
 case atStart => exact ⟨0, s, Nat.zero_le _, hx, hc1, h0⟩
 case round =>
  obtain ⟨k, s', hk, he, hb, hj⟩ := hrel
  have HB := hid hb
  have HJ := hid hj
  have HK := hid hk
  have c0 := hb.cell 0
  simp only [List.getElem?_toArray, List.getElem?_cons_zero] at c0
  have f0 := hb.free 0
  cases hd : xs.drop k with
  | nil =>
   rw [hd] at he
   obtain rfl : s' = 0 := he
   have hkl : k = xs.length := by have := List.drop_eq_nil_iff.1 hd; omega
   subst hkl
   clear hd hb hj hk
   gi_wp2
   go_end0
   exact ⟨⟨_, rfl⟩, .inl HJ.out⟩
  | cons x rest =>
   rw [hd] at he
   obtain ⟨hne, hlt, rfl, hr⟩ := he
   have hxk : xs[k]? = some (Lib.ctz 64 s') := by
    have : (xs.drop k)[0]? = some (Lib.ctz 64 s') := by rw [hd]; rfl
    simpa using this
   have hkl : k < xs.length := (List.getElem?_eq_some_iff.1 hxk).1
   have hdr : xs.drop (k + 1) = rest := by rw [← List.drop_drop, hd]; rfl
   have HR := hid hr
   have HD := hid hdr
   have HL := hid hkl
   have HNE := hid hne
   obtain ⟨fn, tmps, assign, body, hy, hR⟩ := hY k _ wr hj hxk ⟨_, hb⟩
   have HTZ := hid (tzU s' (by omega) wr (hT k wr hj))
   clear hd hb hj hk hr hdr hxk hkl
   generalize Lib.ctz 64 s' = z at *
   have q1 : ((s' : Int) != 0) = true := by rw [bne_iff_ne]; omega
   have q2 : (s' != 0) = true := by rw [bne_iff_ne]; exact hne
   gi_wp2
   refine ⟨trivial, (fun h => by cases h), (callsIn_wide.2 HTZ.out).mono ?_⟩
   rintro e w' ⟨rfl, rfl⟩
   gi_wp2
   refine ⟨(fun h => by cases h), hR.mono ?_⟩
   rintro e W3 (⟨rfl, hj3, hc3⟩ | ⟨rfl, hx3⟩)
   · have hb3 : Blk W3 c 3 #[.int .i64 s'] := hc3.trans HB.out
     have d0 := hb3.cell 0
     simp only [List.getElem?_toArray, List.getElem?_cons_zero] at d0
     have f3 := hb3.free 0
     have HB3 := hid (hb3.set 0 (.int .i64 (s' &&& (s' - 1) : Nat)))
     have HJ3 := hid (hS _ _ (.int .i64 (s' &&& (s' - 1) : Nat)) hj3)
     have hand : bits .and .i64 (s' : Int) ((s' : Int) - 1) = ((s' &&& (s' - 1) : Nat) : Int) := by
      have := i64_and s' (s' - 1) (by omega) (by omega)
      rwa [show ((s' - 1 : Nat) : Int) = (s' : Int) - 1 by omega] at this
     have HM := hid (and_pred_lt hne)
     have HBN := hid (boxN_of HB.out)
     clear hj3 hc3 hb3
     generalize s' &&& (s' - 1) = s2 at *
     gi_wp2
     go_roundw
     case rel => exact ⟨k + 1, s2, HL.out, by rw [HD.out]; exact HR.out, HB3.out, HJ3.out⟩
     case measure => rw [boxN_of HB3.out, HBN.out]; exact HM.out
   · gi_wp2
     refine bodyPost_ret (results_none rfl _ _ _) rfl ?_
     exact ⟨⟨_, rfl⟩, .inr hx3⟩
end
/- The lowest bit of a set, and its elements in their order. No condition. -/
section
open Go.RowKit Go.Shelf
theorem low_bits {x : Nat} (h0 : x ≠ 0) (h : x < 2 ^ 64) : Lib.ctz 64 x < 64 ∧ x.testBit (Lib.ctz 64 x) = true ∧ (∀ i, i < Lib.ctz 64 x → x.testBit i = false) ∧ ∀ i, (x &&& (x - 1)).testBit i = (x.testBit i && decide (i ≠ Lib.ctz 64 x)) := by
 have e : Lib.ctz 64 x = Lib.ctzFrom 64 x := by unfold Lib.ctz; rw [if_neg h0]
 rw [e]
 obtain ⟨m, hm, hc⟩ := Lib.ctzFrom_spec 64 x (by omega) h
 generalize Lib.ctzFrom 64 x = c at *
 have hp := Nat.two_pow_pos c
 have e1 : x = 2 ^ c * (2 * m + 1) + 0 := by omega
 have e2 : x - 1 = 2 ^ c * (2 * m) + (2 ^ c - 1) := by
  have : 2 ^ c * (2 * m + 1) = 2 ^ c * (2 * m) + 2 ^ c := Nat.mul_succ _ _
  omega
 have b1 : ∀ i, x.testBit i = if i < c then false else (2 * m + 1).testBit (i - c) := by
  intro i
  rw [e1, Nat.testBit_two_pow_mul_add _ hp]
  simp
 have b2 : ∀ i, (x - 1).testBit i = if i < c then (2 ^ c - 1).testBit i else (2 * m).testBit (i - c) := by
  intro i
  rw [e2, Nat.testBit_two_pow_mul_add _ (by omega)]
 refine ⟨hc, ?_, fun i hi => ?_, fun i => ?_⟩
 · rw [b1, if_neg (by omega), Nat.sub_self]
   simp [Nat.testBit_zero]
 · rw [b1, if_pos hi]
 · rw [Nat.testBit_and, b1, b2]
   by_cases g : i < c
   · simp [g]
   · rw [if_neg g, if_neg g]
     by_cases g2 : i = c
     · subst g2
       simp [Nat.testBit_zero]
     · obtain ⟨k, hk⟩ : ∃ k, i - c = k + 1 := ⟨i - c - 1, by omega⟩
       rw [hk, Nat.testBit_succ, Nat.testBit_succ]
       have h1 : (2 * m + 1) / 2 = m := by omega
       have h2 : 2 * m / 2 = m := by omega
       rw [h1, h2]
       simp [g2]
/-- Every set below 2^63 has its elements, in their order. -/
theorem elems_all : ∀ (m s : Nat), s ≤ m → s < 9223372036854775808 → ∃ xs, Elems s xs ∧ ∀ x, x ∈ xs ↔ s.testBit x = true
 | 0, s, h, _ => by
  obtain rfl : s = 0 := by omega
  exact ⟨[], rfl, fun x => by simp⟩
 | m + 1, s, h, hs => by
  by_cases h0 : s = 0
  · subst h0
    exact ⟨[], rfl, fun x => by simp⟩
  · have hlt := and_pred_lt h0
    obtain ⟨_, hb, _, hr⟩ := low_bits h0 (by omega)
    obtain ⟨xs, h1, h2⟩ := elems_all m (s &&& (s - 1)) (by omega) (by omega)
    refine ⟨Lib.ctz 64 s :: xs, ⟨h0, hs, rfl, h1⟩, fun x => ?_⟩
    rw [List.mem_cons, h2, hr]
    by_cases e : x = Lib.ctz 64 s
    · subst e
      simp [hb]
    · simp [e]
end
/- Sets of an order as numbers: what its reading asks, and what a pair more adds. No condition. -/
section
open Go.RowKit Go.Maps
theorem mk_lt {n : Nat} (f : Nat → Bool) : mk n f < p2 n := by
 have := mkN_lt f n
 rw [p2_nat]
 unfold mk
 omega
theorem mk_single {n j : Nat} (hj : j < n) : mk n (fun m => decide (m = j)) = p2 j := by
 rw [p2_nat]
 unfold mk
 congr 1
 apply Nat.eq_of_testBit_eq
 intro i
 rw [mkN_bit, Nat.testBit_two_pow]
 by_cases e : i = j
 · subst e
   simp [hj]
 · have e2 : ¬ j = i := fun h => e h.symm
   simp [e, e2]
theorem ord_sub {n : Nat} {a : Nat → Nat → Bool} (h : OrdOk n a) (hn : n ≤ 6) {i j : Nat} (hi : i < n) (hj : j < n) (hij : a i j = true) : bits .andNot .i64 (mk n (a j)) (mk n (a i)) = 0 := by
 rw [mk_andNot (by omega), mk_zero_iff]
 intro k hk
 cases hjk : a j k with
 | false => rfl
 | true => rw [h.2 i j k hi hj hk hij hjk]; rfl
theorem ord_self {n : Nat} {a : Nat → Nat → Bool} (h : OrdOk n a) {i : Nat} (hi : i < n) : bitV (mk n (a i)) i = 0 := by
 rw [bitV_if, mk_bitB (a i) hi, h.1 i hi]
 rfl
/-- What lies above j, and j. -/
theorem up_mk {n : Nat} (a : Nat → Nat → Bool) (hn : n ≤ 6) {j : Nat} (hj : j < n) : bits .or .i64 (mk n (a j)) (p2 j) = mk n (fun m => a j m || decide (m = j)) := by
 rw [← mk_single hj, mk_or (by omega)]
/-- What lies below i, and i. -/
theorem dn_mk {n : Nat} (a : Nat → Nat → Bool) (hn : n ≤ 6) {i : Nat} (hi : i < n) : bits .or .i64 (mk n (fun k => a k i)) (p2 i) = mk n (fun k => a k i || decide (k = i)) := by
 rw [← mk_single hi, mk_or (by omega)]
theorem add_mk {n : Nat} (a : Nat → Nat → Bool) (hn : n ≤ 6) {i j k : Nat} (hs : (a k i || decide (k = i)) = true) : bits .or .i64 (mk n (a k)) (mk n (fun m => a j m || decide (m = j))) = mk n (addA a i j k) := by
 rw [mk_or (by omega)]
 apply mk_congr
 intro m _
 unfold addA
 rw [if_pos (by simpa [or_comm] using hs)]
theorem mk_elems {n : Nat} (hn : n ≤ 6) (f : Nat → Bool) : ∃ xs, Elems (mkN n f) xs ∧ ∀ x, x ∈ xs ↔ (x < n ∧ f x = true) := by
 have h1 := mkN_lt f n
 have h2 : (2 : Nat) ^ n ≤ 2 ^ 6 := Nat.pow_le_pow_right (by omega) hn
 obtain ⟨xs, h3, h4⟩ := elems_all _ (mkN n f) (Nat.le_refl _) (by omega)
 refine ⟨xs, h3, fun x => ?_⟩
 rw [h4, mkN_bit]
 simp
end
/- Leaving a function with any number of marks among its deferred calls (ranges over functions, one a round); and which blocks are marks. No condition. -/
section
open Go.RowKit Go.Shelf
/-- The deferred calls that so many ranges have left: a mark each. -/
def marks (Ds : List Nat) : List Deferred := Ds.map fun D => { target := .collected D, args := #[] }
/-- Marks that are open in a world, all at a height or above. -/
structure MarkS (B : Nat) (Ds : List Nat) (W : World) : Prop where
 at_ : ∀ D ∈ Ds, W.heap[D]? = some (.deferred (some []))
 nod : Ds.Nodup
 low : ∀ D ∈ Ds, B ≤ D
/-- The world behind the marks. -/
def shut (Ds : List Nat) (W : World) : World := Ds.foldl (fun w D => w.putObj D (.deferred none)) W
theorem shut_heap : ∀ (Ds : List Nat) (W : World) (k : Nat), k ∉ Ds → (shut Ds W).heap[k]? = W.heap[k]?
 | [], _, _, _ => rfl
 | D :: Ds, W, k, h => by
  have h1 : k ≠ D := fun e => h (by simp [e])
  have h2 : k ∉ Ds := fun e => h (by simp [e])
  exact (shut_heap Ds (W.putObj D (.deferred none)) k h2).trans (World.putObj_heap_other h1)
theorem shut_size : ∀ (Ds : List Nat) (W : World), (shut Ds W).heap.size = W.heap.size
 | [], _ => rfl
 | D :: Ds, W => (shut_size Ds (W.putObj D (.deferred none))).trans World.putObj_size
theorem shut_rest : ∀ (Ds : List Nat) (W : World), (shut Ds W).os = W.os ∧ (shut Ds W).tape = W.tape ∧ (shut Ds W).output = W.output
 | [], _ => ⟨rfl, rfl, rfl⟩
 | D :: Ds, W => shut_rest Ds (W.putObj D (.deferred none))
theorem MarkS.shutBelow {B : Nat} {Ds : List Nat} {w W : World} (h : MarkS B Ds W) (hb : Below B w W) : Below B w (shut Ds W) := by
 obtain ⟨r1, r2, r3⟩ := shut_rest Ds W
 exact ⟨r1.trans hb.os, r2.trans hb.tape, r3.trans hb.output, by rw [shut_size]; exact hb.size, fun k hk => (shut_heap Ds W k (fun hm => by have := h.low k hm; omega)).trans (hb.block k hk)⟩
theorem MarkS.blk {B : Nat} {Ds : List Nat} {W : World} {b : Nat} {t : TypeId} {cs : Array Value} (h : MarkS B Ds W) (hb : Blk W b t cs) : Blk (shut Ds W) b t cs :=
 (shut_heap Ds W b (fun hm => by
  have h1 := h.at_ b hm
  have h2 : W.heap[b]? = some (.cells cs t (0, 0)) := hb
  rw [h1] at h2
  cases h2)).trans hb
theorem MarkS.nil (B : Nat) (W : World) : MarkS B [] W := ⟨fun _ h => by simp at h, List.nodup_nil, fun _ h => by simp at h⟩
theorem MarkS.keep {B K : Nat} {Ds : List Nat} {W W' : World} (h : MarkS B Ds W) (hK : ∀ D ∈ Ds, D < K) (hb : Below K W W') : MarkS B Ds W' :=
 ⟨fun D hD => (hb.block D (hK D hD)).trans (h.at_ D hD), h.nod, h.low⟩
theorem MarkS.lt {B : Nat} {Ds : List Nat} {W : World} (h : MarkS B Ds W) : ∀ D ∈ Ds, D < W.heap.size := fun D hD => by
 have h1 := h.at_ D hD
 rcases Nat.lt_or_ge D W.heap.size with h2 | h2
 · exact h2
 · rw [Array.getElem?_eq_none h2] at h1
   cases h1
theorem MarkS.cons {B D : Nat} {Ds : List Nat} {W : World} (h : MarkS B Ds W) (hD : W.heap[D]? = some (.deferred (some []))) (hB : B ≤ D) (hn : D ∉ Ds) : MarkS B (D :: Ds) W :=
 ⟨fun x hx => by
  rcases List.mem_cons.1 hx with rfl | hx
  · exact hD
  · exact h.at_ x hx, List.nodup_cons.2 ⟨hn, h.nod⟩, fun x hx => by
  rcases List.mem_cons.1 hx with rfl | hx
  · exact hB
  · exact h.low x hx⟩
/-- A store into cells leaves the marks. -/
theorem MarkS.set {B : Nat} {Ds : List Nat} {W : World} (h : MarkS B Ds W) {b : Nat} {t : TypeId} {cs : Array Value} (hb : Blk W b t cs) (i : Nat) (v : Value) : MarkS B Ds (W.setCell ⟨b, i, none⟩ v) :=
 ⟨fun D hD => (Below.heap_setCell W ⟨b, i, none⟩ v D (fun e => by
  have h1 := h.at_ D hD
  have h2 : W.heap[b]? = some (.cells cs t (0, 0)) := hb
  have e' : D = b := e
  rw [e', h2] at h1
  cases h1)).trans (h.at_ D hD), h.nod, h.low⟩
/-- Leaving with marks alone. -/
theorem leaves_marks {P : Program} {F : Fence} {n : Nat} {fn : Func} {tmps : Array Value} {R : Ending → World → Prop} {B : Nat} : ∀ (Ds : List Nat) (W : World), MarkS B Ds W → LeavesIn F n P fn tmps R [] .returning (shut Ds W) → LeavesInM F n P fn tmps R (marks Ds) .returning W
 | [], _, _, h => h
 | D :: Ds, W, hm, h => by
  refine ⟨by simp, .inl ⟨D, W.putObj D (.deferred none), rfl, run_takeDeferred (hm.at_ D (by simp)), ?_⟩⟩
  have hn := List.nodup_cons.1 hm.nod
  refine leaves_marks (B := B) Ds _ ⟨fun x hx => ?_, hn.2, fun x hx => hm.low x (by simp [hx])⟩ h
  have hne : x ≠ D := fun e => hn.1 (by rw [← e]; exact hx)
  exact (World.putObj_heap_other hne).trans (hm.at_ x (by simp [hx]))
end
/- Walks of order.read and of lines at one element. Condition: the library's table of 64 numbers stands in its variable. -/
section
open Go.RowKit Go.Shelf
attribute [local go_sem] Oper.semAt_some
/-- Two results, each in a block: a struct, and a plain value. -/
theorem results_row_var {P : Program} {fn : Func} {p q : Tmp} {ty ty2 : TypeId} (h : fn.results = #[.cell p ty, .cell q ty2]) (tmps : Array Value) (w : World) (g g2 : Nat) (t : TypeId) (cs : Array Value) (fr : Nat × Nat) (d : TypeDesc) (v : Value)
 (hp : tmps.getD p undef = .pointer (some ⟨g, 0, none⟩)) (hq : tmps.getD q undef = .pointer (some ⟨g2, 0, none⟩)) (hg : w.heap[g]? = some (.cells cs t fr)) (hl : (loadVar ty2 ⟨g2, 0, none⟩).run P w = .ok v w)
 (hu : P.underlying ty = some d) (hd : (match d with | .struct _ | .array _ _ => true | _ => false) = true) (hi : (P.info? ty).map (·.size) = some cs.size) :
 (results fn tmps).run P w = .ok (.tuple #[.agg cs, v]) w := by
 have hp' : tmps[p]?.getD undef = .pointer (some ⟨g, 0, none⟩) := by simpa using hp
 have hq' : tmps[q]?.getD undef = .pointer (some ⟨g2, 0, none⟩) := by simpa using hq
 simp only [results, h]
 simp [Sem.run_bind, Result.andThen, hp', hq', asAddr, run_loadVar_row w g t ty cs fr d hg hu hd hi, hl]
theorem loadVar_bool {w : World} {g2 : Nat} {t2 : TypeId} {b : Bool} (hg2 : Blk w g2 t2 #[.bool b]) : (loadVar 4 ⟨g2, 0, none⟩).run Tryz.prog w = .ok (.bool b) w := by
 have hc : w.cell? ⟨g2, 0, none⟩ = some (.bool b) := hg2.cell 0
 simp [loadVar, Sem.run_bind, Tryz.isAgg4, Result.andThen, hc]
/-- The cells of the order of one element. -/
def ord1 : Array Value := #[.int .i64 1, .int .i64 0, .int .i64 0, .int .i64 0, .int .i64 0, .int .i64 0, .int .i64 0]
end
end Go.Proofs.YtnibidmlkbcfkaaGreatDoor
