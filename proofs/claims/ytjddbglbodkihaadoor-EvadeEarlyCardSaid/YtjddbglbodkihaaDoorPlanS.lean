/- What a step of plan keeps: the view's and the node's boxes, the asker, and the row that grows. Conditions: the asker lies below the row. -/
import Derived.Test.YtjddbglbodkihaaDoorPlanM
import Derived.Test.YtjddbglbodkihaaDoorAskL
namespace Go.Proofs.YtjddbglbodkihaaDoor
open Go.RowKit Go.Maps

/-- The asker's maps, or the row's own block. -/
def Rt3 (M1 M2 : Nat) (t : Value) : Nat → Prop := fun k => Two M1 M2 k ∨ t.ownBlock = some k
/-- A row's block is the same as before, or a new one. -/
def Same (w : World) (t t' : Value) : Prop := t'.ownBlock = t.ownBlock ∨ ∃ g, t'.ownBlock = some g ∧ w.heap.size ≤ g
theorem Chg.next {M1 M2 : Nat} {t t1 : Value} {a b c : World} (h : Chg (Rt3 M1 M2 t) a b) (s : Same a t t1) (k : Chg (Rt3 M1 M2 t1) b c) : Chg (Rt3 M1 M2 t) a c :=
  ⟨k.os.trans h.os, k.tape.trans h.tape, k.output.trans h.output, Nat.le_trans h.size k.size, fun i hi hr => (k.block i (by have := h.size; omega) (fun r => by
    rcases r with r | r
    · exact hr (.inl r)
    · rcases s with s | ⟨g, s, hg⟩
      · exact hr (.inr (s.symm.trans r))
      · rw [s] at r; cases r; omega)).trans (h.block i hi hr)⟩
theorem Same.next {a b : World} {t t1 t2 : Value} (h : Same a t t1) (k : Same b t1 t2) (hs : a.heap.size ≤ b.heap.size) : Same a t t2 := by
  rcases k with k | ⟨g, k, hg⟩
  · rcases h with h | ⟨g, h, hg⟩
    · exact .inl (k.trans h)
    · exact .inr ⟨g, k.trans h, hg⟩
  · exact .inr ⟨g, k, by omega⟩
theorem Chg.setR {R : Nat → Prop} {W w : World} (h : Chg R W w) {a : Addr} (ha : R a.block ∨ W.heap.size ≤ a.block) (u : Value) : Chg R W (w.setCell a u) :=
  ⟨h.os, h.tape, h.output, by have := h.size; simpa using this, fun i hi hr => (heap_setCell_other w a i u (by rcases ha with e | e; exact fun e2 => hr (by rw [e2]; exact e); omega)).trans (h.block i hi hr)⟩
theorem own_far {w : World} {base : Nat} {e : TypeId} {size n : Nat} {v : Value} {xs : List Value} (h : w.ownsRow base e size v n xs) {a : Addr} (ha : ∀ g, v.ownBlock = some g → a.block ≠ g) (u : Value) : (w.setCell a u).ownsRow base e size v n xs :=
  h.kept (row := some a.block) ⟨rfl, rfl, rfl, by simp, fun k _ hk => heap_setCell_other w a k u (fun e => hk (by rw [e]))⟩ (by
    cases hv : v.ownBlock with
    | none => exact .inl rfl
    | some g => exact .inr (fun e => ha g hv (by cases e; rfl)))
/-- The asker lies below base. -/
structure OldA (base s M1 M2 : Nat) : Prop where
  s : s < base
  m1 : M1 < base
  m2 : M2 < base
/-- Where a step of plan stands. -/
structure PS (W w : World) (V X s n F M1 M2 a i x : Nat) (z1 : Int) (base : Nat) (t0 t : Value) (q : Nat) (ts : List Nd) : Prop where
  view : Blk w V 87 #[.int .i64 a, .int .i64 i]
  node : Blk w X 94 #[.int .i64 x, .int .i64 z1, .int .i64 0]
  ask : AS w s n F M1 M2 (bestN n F.testBit)
  own : w.ownsRow base 94 3 t q (flatN ts)
  same : Same W t0 t
  chg : Chg (Rt3 M1 M2 t0) W w
  far : ∀ g, t.ownBlock = some g → V ≠ g ∧ X ≠ g
  old : OldA base s M1 M2
  hb : base ≤ W.heap.size
  hv : W.heap.size ≤ V
  hx : W.heap.size ≤ X
  ne : V ≠ X
section
variable {W w w' : World} {V X s n F M1 M2 a i x : Nat} {z1 : Int} {base : Nat} {t0 t t' : Value} {q : Nat} {ts : List Nd}
theorem PS.below (h : PS W w V X s n F M1 M2 a i x z1 base t0 t q ts) (hb : Below w.heap.size w w') : PS W w' V X s n F M1 M2 a i x z1 base t0 t q ts :=
  { h with view := h.view.keep hb, node := h.node.keep hb, ask := h.ask.below hb, own := own_below h.own hb, chg := h.chg.trans (Chg.of_below hb) }
theorem PS.alloc (h : PS W w V X s n F M1 M2 a i x z1 base t0 t q ts) (o : Obj) : PS W (w.alloc o) V X s n F M1 M2 a i x z1 base t0 t q ts := h.below ((Below.refl _ _).alloc (Nat.le_refl _) _)
theorem PS.drew (h : PS W w V X s n F M1 M2 a i x z1 base t0 t q ts) : PS W w.drew V X s n F M1 M2 a i x z1 base t0 t q ts :=
  { h with view := h.view.drew, node := h.node.drew, ask := h.ask.drew, own := h.own, chg := h.chg.drew }
theorem PS.size (h : PS W w V X s n F M1 M2 a i x z1 base t0 t q ts) : base ≤ w.heap.size ∧ V < w.heap.size ∧ X < w.heap.size := ⟨by have := h.hb; have := h.chg.size; omega, h.view.lt, h.node.lt⟩
/-- Behind an append of a node. -/
theorem PS.push {u : Nd} {g cap : Nat} (h : PS W w V X s n F M1 M2 a i x z1 base t0 t q ts) (ho : w'.ownsRow base 94 3 (.slice (some ⟨g, 0, none⟩) (q + 1) cap) (q + 1) (flatN ts ++ [.int .i64 u.pt, .int .i64 u.zero, .int .i64 u.one])) (hg : w.grownBy w' t.ownBlock) (hat : t.ownBlock = some g ∨ g = w.heap.size) :
    PS W w' V X s n F M1 M2 a i x z1 base t0 (.slice (some ⟨g, 0, none⟩) (q + 1) cap) (q + 1) (ts ++ [u]) := by
  have hz := h.chg.size
  have hsz := h.size
  have hn : ∀ k, k < base → some k ≠ t.ownBlock := fun k hk e => by
    have := (h.own.lt k e.symm).1; omega
  have hc : Chg (Rt3 M1 M2 t) w w' := ⟨hg.os, hg.tape, hg.output, hg.size, fun i hi hr => hg.block i hi fun e => hr (.inr e.symm)⟩
  have hsm : Same W t (.slice (some ⟨g, 0, none⟩) (q + 1) cap) := by
    rcases hat with e | e
    · exact .inl e.symm
    · exact .inr ⟨g, rfl, by omega⟩
  refine { h with view := h.view.grown hg fun e => (h.far V e.symm).1 rfl, node := h.node.grown hg fun e => (h.far X e.symm).2 rfl, ask := h.ask.same ?_ ?_ ?_, own := ?_, same := h.same.next hsm (Nat.le_refl _), chg := h.chg.next h.same hc, far := ?_ }
  · exact hg.block _ h.ask.lt.1 (hn _ h.old.s)
  · exact hg.block _ h.ask.lt.2.1 (hn _ h.old.m1)
  · exact hg.block _ h.ask.lt.2.2 (hn _ h.old.m2)
  · rw [flatN_snoc]; exact ho
  · intro g' e
    have e2 : g = g' := Option.some.inj e
    subst e2
    rcases hat with e | e
    · exact h.far g e
    · omega
theorem PS.nrt (h : PS W w V X s n F M1 M2 a i x z1 base t0 t q ts) : ¬ Rt3 M1 M2 t V ∧ ¬ Rt3 M1 M2 t X := by
  have h1 := h.hb; have h2 := h.hv; have h3 := h.hx; have h4 := h.old.m1; have h5 := h.old.m2
  refine ⟨fun r => ?_, fun r => ?_⟩
  · rcases r with (r | r) | r
    · omega
    · omega
    · exact (h.far _ r).1 rfl
  · rcases r with (r | r) | r
    · omega
    · omega
    · exact (h.far _ r).2 rfl
/-- Behind a call that grows the row. -/
theorem PS.call {q' : Nat} {ts' : List Nd} (h : PS W w V X s n F M1 M2 a i x z1 base t0 t q ts) (k : Chg (Rt3 M1 M2 t) w w') (sm : Same w t t') (ha : AS w' s n F M1 M2 (bestN n F.testBit)) (ho : w'.ownsRow base 94 3 t' q' (flatN ts')) :
    PS W w' V X s n F M1 M2 a i x z1 base t0 t' q' ts' := by
  have hz := h.chg.size
  have hsz := h.size
  refine { h with view := k.blk h.view h.nrt.1, node := k.blk h.node h.nrt.2, ask := ha, own := ho, same := h.same.next sm hz, chg := h.chg.next h.same k, far := ?_ }
  intro g e
  rcases sm with e2 | ⟨g2, e2, hg2⟩
  · exact h.far g (e2.symm.trans e)
  · have e3 : g2 = g := Option.some.inj (e2.symm.trans e)
    omega
/-- Where to go on is noted in the node. -/
theorem PS.setX (h : PS W w V X s n F M1 M2 a i x z1 base t0 t q ts) (z : Int) : PS W (w.setCell ⟨X, 1, none⟩ (.int .i64 z)) V X s n F M1 M2 a i x z base t0 t q ts := by
  have h1 := h.hb; have h3 := h.hx; have h4 := h.old.m1; have h5 := h.old.m2; have h6 := h.old.s
  have hn := h.node.set 1 (.int .i64 z)
  exact { h with view := h.view.far (by simpa using h.ne) _, node := hn, ask := h.ask.far (by simp; omega) (by simp; omega) (by simp; omega) _, own := own_far h.own (fun g e => (h.far g e).2) _, chg := h.chg.setNew (by simpa using h3) _ }
end
end Go.Proofs.YtjddbglbodkihaaDoor
