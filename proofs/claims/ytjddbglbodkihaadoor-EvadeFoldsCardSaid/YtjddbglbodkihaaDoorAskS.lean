/- The state of an asker: what its two maps know; and the walk of family.asker. Conditions: views below 2^60. -/
import Derived.Test.YtjddbglbodkihaaDoorStamp
import Derived.Test.YtjddbglbodkihaaDoorSettle
import Derived.Test.YtjddbglbodkihaaDoorAskM
import Derived.DeepKeys4
namespace Go.Proofs.YtjddbglbodkihaaDoor
open Go.RowKit Go.Maps

/-- Only blocks of which R holds have turned, and new ones. -/
structure Chg (R : Nat → Prop) (w w' : World) : Prop where
  os : w'.os = w.os
  tape : w'.tape = w.tape
  output : w'.output = w.output
  size : w.heap.size ≤ w'.heap.size
  block : ∀ k, k < w.heap.size → ¬ R k → w'.heap[k]? = w.heap[k]?
section
variable {R S : Nat → Prop} {a b c : World}
theorem Chg.refl (R : Nat → Prop) (w : World) : Chg R w w := ⟨rfl, rfl, rfl, Nat.le_refl _, fun _ _ _ => rfl⟩
theorem Chg.trans (h : Chg R a b) (k : Chg R b c) : Chg R a c :=
  ⟨k.os.trans h.os, k.tape.trans h.tape, k.output.trans h.output, Nat.le_trans h.size k.size, fun i hi hr => (k.block i (by have := h.size; omega) hr).trans (h.block i hi hr)⟩
theorem Chg.of_grow {r : Nat} (h : a.grownBy b (some r)) (hr : R r) : Chg R a b :=
  ⟨h.os, h.tape, h.output, h.size, fun i hi hn => h.block i hi (fun e => by cases e; exact hn hr)⟩
theorem Chg.of_below (h : Below a.heap.size a b) : Chg R a b := ⟨h.os, h.tape, h.output, h.size, fun i hi _ => h.block i hi⟩
theorem Chg.drew (h : Chg R a b) : Chg R a b.drew := ⟨h.os, h.tape, h.output, h.size, h.block⟩
theorem Chg.drewN (h : Chg R a b) (n : Nat) : Chg R a (b.drewN n) := ⟨h.os, h.tape, h.output, h.size, h.block⟩
theorem Chg.setNew {W w : World} (h : Chg R W w) {p : Addr} (hp : W.heap.size ≤ p.block) (u : Value) : Chg R W (w.setCell p u) :=
  ⟨h.os, h.tape, h.output, by have := h.size; simpa [World.setCell] using this, fun i hi hr => (Below.heap_setCell w p u i (by omega)).trans (h.block i hi hr)⟩
/-- Only new blocks of the call may have turned. -/
theorem Chg.below {B : Nat} (h : Below B a b) (k : Chg R b c) (hB : B ≤ b.heap.size) (hr : ∀ i, R i → B ≤ i) : Below B a c :=
  h.trans ⟨k.os, k.tape, k.output, k.size, fun i hi => k.block i (by omega) fun r => by have := hr i r; omega⟩
theorem Chg.blk {d : Nat} {t : TypeId} {cs : Array Value} (k : Chg R b c) (h : Blk b d t cs) (hr : ¬ R d) : Blk c d t cs := (k.block d h.lt hr).trans h
end
def Two (B K : Nat) : Nat → Prop := fun k => k = B ∨ k = K

theorem laidOutA : laidOutB Tryd.prog = true := by kernel_rfl
theorem L87 : WideMaps.KeyLaw Tryd.prog 87 := deep_law_laid laidOutA (m := 3) (by decide) (of_decide_eq_true (by kernel_rfl)) (by kernel_rfl) (by kernel_rfl)
theorem K87 : Keyed Tryd.prog 87 := Keyed.of_law L87
theorem M110 : Tryd.prog.underlying 110 = some (.map 87 3) := Tryd.underlying110
theorem Z3 (W : World) : (zeroValue 3).run Tryd.prog W = .ok (.int .i64 0) W := by
  simp [go_sem]

def keyA (a i : Nat) : Value := .agg #[.int .i64 a, .int .i64 i]
theorem wfA {a : Nat} (h : a < 1152921504606846976) : (Lit.int .i64 (a : Int)).wf = true := by
  have hmin : IntKind.i64.min = -9223372036854775808 := rfl
  have hmax : IntKind.i64.max = 9223372036854775807 := rfl
  simp only [Lit.wf, Bool.and_eq_true, decide_eq_true_eq]
  omega
theorem keyA_key {a i : Nat} (ha : a < 1152921504606846976) (hi : i < 1152921504606846976) : ∃ l, keyOf Tryd.prog 87 (keyA a i) = some l := by
  have w1 := wfA ha
  have w2 := wfA hi
  have hk : Tryd.prog.keyType 87 = true := by kernel_rfl
  have hc : Tryd.prog.cellsOf 87 = 2 := by kernel_rfl
  have hc3 : Tryd.prog.cellsOf 3 = 1 := by kernel_rfl
  obtain ⟨m, hm⟩ : ∃ m, Tryd.prog.types.size = m + 1 := ⟨Tryd.prog.types.size - 1, by kernel_rfl⟩
  refine ⟨.string (keyBytes [.int .i64 a, .int .i64 i]), ?_⟩
  unfold keyOf
  simp only [Tryd.underlying87]
  rw [if_pos (by simp [hk, Value.formed, Tryd.underlying87, keyA, hc]), hm]
  unfold Program.keyLits
  simp only [Tryd.underlying87, Value.cells, keyA]
  rw [if_pos ⟨by rw [hc]; rfl, by simp⟩]
  simp [Program.keyLits, Tryd.underlying3, hc3, w1, w2]
theorem keyA_inj {a i a' i' : Nat} (h : keyA a i = keyA a' i') : a = a' ∧ i = i' := by
  simp only [keyA, Value.agg.injEq] at h
  have h2 := congrArg Array.toList h
  simp at h2
  omega

/-- Each entry of the first map is how many questions settle its view. -/
def OKn (n : Nat) (p : Nat → Bool) : Value → Value → Prop := fun key val => ∀ a i, key = keyA a i → val = .int .i64 (askN n p a i : Nat)
/-- Each entry of the second one is what B tells. -/
def OKb (B : Nat → Nat → Nat) : Value → Value → Prop := fun key val => ∀ a i, key = keyA a i → val = .int .i64 (B a i : Nat)
def upd (B : Nat → Nat → Nat) (a i x : Nat) : Nat → Nat → Nat := fun a' i' => if a' = a ∧ i' = i then x else B a' i'
theorem upd_same (B : Nat → Nat → Nat) (a i : Nat) : upd B a i (B a i) = B := by
  funext a' i'
  unfold upd
  split
  · rename_i h; rw [h.1, h.2]
  · rfl
theorem upd_upd (B : Nat → Nat → Nat) (a i x y : Nat) : upd (upd B a i x) a i y = upd B a i y := by
  funext a' i'
  unfold upd
  split <;> rfl
theorem upd_at (B : Nat → Nat → Nat) (a i x : Nat) : upd B a i x a i = x := by unfold upd; simp
theorem upd_ne {B : Nat → Nat → Nat} {a i x a' i' : Nat} (h : a' ≠ a) : upd B a i x a' i' = B a' i' := by unfold upd; simp [h]

/-- An asker: its block, and what its maps know. -/
structure AS (w : World) (s n F M1 M2 : Nat) (B : Nat → Nat → Nat) : Prop where
  blk : Blk w s 112 #[.int .i64 n, .int .u64 F, .map (some M1), .map (some M2)]
  need : MemoS Tryd.prog 87 w M1 (OKn n F.testBit)
  best : MemoS Tryd.prog 87 w M2 (OKb B)
  link : ∀ a i, settl (2 ^ n) F.testBit a i = false → Has w M1 (keyA a i) → Has w M2 (keyA a i)
  ne : M1 ≠ M2
section
variable {w w' : World} {s n F M1 M2 : Nat} {B : Nat → Nat → Nat}
theorem AS.same (h : AS w s n F M1 M2 B) (h0 : w'.heap[s]? = w.heap[s]?) (h1 : w'.heap[M1]? = w.heap[M1]?) (h2 : w'.heap[M2]? = w.heap[M2]?) : AS w' s n F M1 M2 B :=
  ⟨h0.trans h.blk, h.need.same h1, h.best.same h2, fun a i hs hh => (has_same h2).2 (h.link a i hs ((has_same h1).1 hh)), h.ne⟩
theorem AS.below (h : AS w s n F M1 M2 B) (hb : Below w.heap.size w w') : AS w' s n F M1 M2 B :=
  h.same (hb.block _ h.blk.lt) (hb.block _ h.need.lt) (hb.block _ h.best.lt)
theorem AS.drew (h : AS w s n F M1 M2 B) : AS w.drew s n F M1 M2 B := h.same rfl rfl rfl
theorem AS.drewN (h : AS w s n F M1 M2 B) (k : Nat) : AS (w.drewN k) s n F M1 M2 B := h.same rfl rfl rfl
theorem AS.far (h : AS w s n F M1 M2 B) {p : Addr} (h0 : s ≠ p.block) (h1 : M1 ≠ p.block) (h2 : M2 ≠ p.block) (u : Value) : AS (w.setCell p u) s n F M1 M2 B :=
  h.same (Below.heap_setCell w p u _ h0) (Below.heap_setCell w p u _ h1) (Below.heap_setCell w p u _ h2)
theorem AS.lt (h : AS w s n F M1 M2 B) : s < w.heap.size ∧ M1 < w.heap.size ∧ M2 < w.heap.size := ⟨h.blk.lt, h.need.lt, h.best.lt⟩
/-- The second map with an entry more, or another one. -/
theorem AS.put {a i x : Nat} (h : AS w s n F M1 M2 B) (hp : Put1 Tryd.prog 87 w w' M2 (OKb (upd B a i x)) (keyA a i)) : AS w' s n F M1 M2 (upd B a i x) := by
  have e1 : w'.heap[M1]? = w.heap[M1]? := hp.grown.block _ h.need.lt (by simpa using h.ne)
  have e0 : w'.heap[s]? = w.heap[s]? := hp.grown.block _ h.blk.lt (by simpa using h.best.ne_blk h.blk)
  exact ⟨e0.trans h.blk, h.need.same e1, hp.memo, fun a i hs hh => hp.old _ (h.link a i hs ((has_same e1).1 hh)), h.ne⟩
/-- The first map with an entry more. -/
theorem AS.done {a i : Nat} (h : AS w s n F M1 M2 B) (hp : Put1 Tryd.prog 87 w w' M1 (OKn n F.testBit) (keyA a i)) (hl : settl (2 ^ n) F.testBit a i = false → Has w M2 (keyA a i)) : AS w' s n F M1 M2 B := by
  have e2 : w'.heap[M2]? = w.heap[M2]? := hp.grown.block _ h.best.lt (by simpa using Ne.symm h.ne)
  have e0 : w'.heap[s]? = w.heap[s]? := hp.grown.block _ h.blk.lt (by simpa using h.need.ne_blk h.blk)
  refine ⟨e0.trans h.blk, hp.memo, h.best.same e2, fun a' i' hs hh => (has_same e2).2 ?_, h.ne⟩
  rcases hp.new _ hh with g | g
  · exact h.link a' i' hs g
  · obtain ⟨rfl, rfl⟩ := keyA_inj g
    exact hl hs
end
theorem OKb_weak {B : Nat → Nat → Nat} {w : World} {M a i x : Nat} (h : MemoS Tryd.prog 87 w M (OKb B)) : MemoS Tryd.prog 87 w M (fun k v => k ≠ keyA a i → OKb (upd B a i x) k v) :=
  h.imp fun k v hv hk a' i' e => by
    rw [hv a' i' e]
    have : ¬ (a' = a ∧ i' = i) := by rintro ⟨rfl, rfl⟩; exact hk e
    unfold upd
    rw [if_neg this]
theorem OKb_mk (B : Nat → Nat → Nat) (a i x : Nat) : OKb (upd B a i x) (keyA a i) (.int .i64 (x : Nat)) := fun a' i' e => by
  obtain ⟨rfl, rfl⟩ := keyA_inj e
  rw [upd_at]
theorem OKn_mk (n : Nat) (p : Nat → Bool) (a i : Nat) : OKn n p (keyA a i) (.int .i64 (askN n p a i : Nat)) := fun a' i' e => by
  obtain ⟨rfl, rfl⟩ := keyA_inj e
  rfl

set_option maxRecDepth 100000 in
set_option maxHeartbeats 1000000 in
theorem askerF (n F : Nat) (w : World) :
    Calls Tryd.prog 72 #[.agg #[.int .i64 n, .int .u64 F]] w fun e w' => (∃ s M1 M2, e = .returned (.pointer (some ⟨s, 0, none⟩)) ∧ w.heap.size ≤ s ∧ w.heap.size ≤ M1 ∧ w.heap.size ≤ M2 ∧ AS w' s n F M1 M2 (bestN n F.testBit)) ∧ Below w.heap.size w w' := by
  have hmm := @run_makeMap Tryd.prog
  go_enter Tryd.func72, Tryd.ntmps72
  go_wp2
  have B0 := Blk.new (((w.alloc (Obj.cells #[Value.int IntKind.i64 ↑n, Value.int IntKind.u64 ↑F] 72)).alloc (Obj.map #[] 0)).alloc (Obj.map #[] 0)) 112 #[Value.int IntKind.i64 ↑n, Value.int IntKind.u64 ↑F, Value.map (some (w.heap.size + 1)), Value.map (some (w.heap.size + 1 + 1))]
  have m1 := (MemoS.made (P := Tryd.prog) (k := 87) (OK := OKn n F.testBit) (w.alloc (Obj.cells #[Value.int IntKind.i64 ↑n, Value.int IntKind.u64 ↑F] 72)))
  have m2 := (MemoS.made (P := Tryd.prog) (k := 87) (OK := OKb (bestN n F.testBit)) ((w.alloc (Obj.cells #[Value.int IntKind.i64 ↑n, Value.int IntKind.u64 ↑F] 72)).alloc (Obj.map #[] 0)))
  have no := not_has_made (w.alloc (Obj.cells #[Value.int IntKind.i64 ↑n, Value.int IntKind.u64 ↑F] 72))
  simp only [World.size_alloc] at m1 m2 no B0
  go_ret
  refine ⟨⟨_, _, _, rfl, by omega, by omega, by omega, B0, ?_, ?_, ?_, by omega⟩, ?_⟩
  · exact (m1.same (Below.heap_alloc _ _ _ (by simp))).same (Below.heap_alloc _ _ _ (by simp))
  · exact m2.same (Below.heap_alloc _ _ _ (by simp))
  · intro a i _ hh
    refine absurd ?_ (no (keyA a i))
    have h1 := (has_same (Below.heap_alloc _ _ _ (by simp))).1 hh
    exact (has_same (Below.heap_alloc _ _ _ (by simp))).1 h1
  · exact ((((Below.refl w.heap.size w).alloc (Nat.le_refl _) _).alloc (by simp) _).alloc (by simp; omega) _).alloc (by simp; omega) _
end Go.Proofs.YtjddbglbodkihaaDoor
