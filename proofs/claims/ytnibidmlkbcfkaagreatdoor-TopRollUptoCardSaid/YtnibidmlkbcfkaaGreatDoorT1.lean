/- Texts of this proof, one behind the other; each says its condition at its head. -/
import Derived.WalkKit
import Derived.WalkSpells
import Derived.WalkLawsBesides
import Derived.Deep.LoopGhost
import Derived.Maps.AppendAt
import Derived.Maps.OwnOps
import Derived.BigQuiet
import Derived.Test.YtnibidmlkbcfkaaGreatDoorChecked
namespace Go.Proofs.YtnibidmlkbcfkaaGreatDoor
/- Words for memory that the walks of this seat use: slices that read as lists, blocks known whole, an append of one element. No condition. -/
section
open Go.RowKit
theorem qA {α : Type} {l : List α} {i : Nat} {a : α} : l.toArray.setIfInBounds i a = (l.set i a).toArray := List.setIfInBounds_toArray ..
theorem qB {α : Type} {x : α} {xs : List α} {b : α} : (x :: xs).set 0 b = b :: xs := rfl
theorem qC {α : Type} {x : α} {xs : List α} {n : Nat} {b : α} : (x :: xs).set (n + 1) b = x :: xs.set n b := rfl
/-- A slice of one-cell elements that reads as xs. -/
structure Sl (w : World) (A : Option Addr) (n c : Nat) (xs : List Value) : Prop where
 len : xs.length = n
 cap : n ≤ c
 capm : c ≤ maxLen
 pos : 0 < n → ∃ b o, A = some ⟨b, o, none⟩ ∧ b < w.heap.size ∧ ∀ j u, xs[j]? = some u → w.cell? ⟨b, o + j, none⟩ = some u
section
variable {w w' : World} {A : Option Addr} {n c : Nat} {xs : List Value}
theorem Sl.at (h : Sl w A n c xs) {k : Nat} (hk : k < n) : ∃ b o u, A = some ⟨b, o, none⟩ ∧ b < w.heap.size ∧ xs[k]? = some u ∧ w.cell? ⟨b, o + k, none⟩ = some u := by
 obtain ⟨b, o, e, hb, hc⟩ := h.pos (by omega)
 have hl : k < xs.length := by have := h.len; omega
 exact ⟨b, o, xs[k], e, hb, List.getElem?_eq_getElem hl, hc k _ (List.getElem?_eq_getElem hl)⟩
theorem Sl.keep (h : Sl w A n c xs) (hs : w.heap.size ≤ w'.heap.size) (hk : ∀ p : Addr, p.block < w.heap.size → w'.cell? p = w.cell? p) : Sl w' A n c xs :=
 ⟨h.len, h.cap, h.capm, fun hn => by
  obtain ⟨b, o, e, hb, hc⟩ := h.pos hn
  exact ⟨b, o, e, by omega, fun j u hu => (hk _ hb).trans (hc j u hu)⟩⟩
theorem Sl.below (h : Sl w A n c xs) (hb : Below w.heap.size w w') : Sl w' A n c xs := h.keep hb.size fun _ hp => hb.cell hp
theorem Sl.drew (h : Sl w A n c xs) : Sl w.drew A n c xs := ⟨h.len, h.cap, h.capm, h.pos⟩
theorem Sl.drewN (h : Sl w A n c xs) (k : Nat) : Sl (w.drewN k) A n c xs := ⟨h.len, h.cap, h.capm, h.pos⟩
theorem Sl.alloc (h : Sl w A n c xs) (o : Obj) : Sl (w.alloc o) A n c xs := h.below ((Below.refl _ _).alloc (Nat.le_refl _) _)
theorem Sl.nil (w : World) : Sl w none 0 0 [] := ⟨rfl, Nat.le_refl _, Nat.zero_le _, fun h => absurd h (by omega)⟩
theorem Sl.new (w : World) (cs : Array Value) (e : TypeId) {n : Nat} (hn : n = cs.size) (hm : n ≤ 1000000) : Sl (w.alloc (.cells cs e)) (some ⟨w.heap.size, 0, none⟩) n n cs.toList :=
 ⟨by simp [hn], Nat.le_refl _, by unfold maxLen; omega, fun _ => ⟨w.heap.size, 0, rfl, by simp, fun j u hu => by rw [Nat.zero_add, World.cell?_alloc_new]; simpa using hu⟩⟩
theorem Sl.take (h : Sl w A n c xs) (k : Nat) (hk : k ≤ n) : Sl w A k c (xs.take k) :=
 ⟨by simp [h.len]; omega, by have := h.cap; omega, h.capm, fun hn => by
  obtain ⟨b, o, e, hb, hc⟩ := h.pos (by omega)
  exact ⟨b, o, e, hb, fun j u hu => hc j u (by
   rw [List.getElem?_take] at hu
   split at hu
   · exact hu
   · cases hu)⟩⟩
theorem Sl.of_own {base : Nat} {e : TypeId} (h : w.ownsRow base e 1 (.slice A n c) n xs) : Sl w A n c xs := by
 rcases h.2 with ⟨hv, hn⟩ | ⟨g, cap, cur, hv, hb, hg, hc, hm, hs, ht⟩
 · simp at hv
   obtain ⟨rfl, -, rfl⟩ := hv
   subst hn
   have hx : xs = [] := List.eq_nil_of_length_eq_zero (by simpa using h.1)
   subst hx
   exact Sl.nil w
 · simp at hv
   obtain ⟨rfl, rfl⟩ := hv
   refine ⟨by simpa using h.1, hc, hm, fun _ => ⟨g, 0, rfl, lt_of_block hg, fun j u hu => ?_⟩⟩
   have := h.cells (g := g) rfl j u hu
   have hadd : (⟨g, 0, none⟩ : Addr).add j = ⟨g, j, none⟩ := by unfold Addr.add; split <;> simp_all
   rw [hadd] at this
   simpa using this
end
/-- What the call owns is a slice value. -/
theorem own_form {w : World} {base : Nat} {e : TypeId} {size n : Nat} {v : Value} {xs : List Value} (h : w.ownsRow base e size v n xs) : ∃ A c, v = .slice A n c := by
 rcases h.2 with ⟨rfl, rfl⟩ | ⟨g, cap, cur, rfl, _⟩
 · exact ⟨_, _, rfl⟩
 · exact ⟨_, _, rfl⟩
theorem own_more {w : World} {base base' : Nat} {e : TypeId} {size n : Nat} {v : Value} {xs : List Value} (h : w.ownsRow base e size v n xs) (hb : base' ≤ base) : w.ownsRow base' e size v n xs := by
 refine ⟨h.1, ?_⟩
 rcases h.2 with h2 | ⟨g, cap, cur, hv, hg, r⟩
 · exact .inl h2
 · exact .inr ⟨g, cap, cur, hv, by omega, r⟩
theorem own_below {w w' : World} {base : Nat} {e : TypeId} {size n : Nat} {v : Value} {xs : List Value} (h : w.ownsRow base e size v n xs) (hb : Below w.heap.size w w') : w'.ownsRow base e size v n xs :=
 h.kept (row := none) ⟨hb.os, hb.tape, hb.output, hb.size, fun k hk _ => hb.block k hk⟩ (by cases hv : v.ownBlock <;> simp)
theorem own_drewN {w : World} {base : Nat} {e : TypeId} {size n : Nat} {v : Value} {xs : List Value} (h : w.ownsRow base e size v n xs) (k : Nat) : (w.drewN k).ownsRow base e size v n xs := h
/-- A slice type, its elements' type, their cells, bytes and zero value. -/
structure TS (P : Program) (t e : TypeId) (size bytes : Nat) (z : Value) : Prop where
 und : P.underlying t = some (.slice e)
 inf : (P.info? e).map (fun i => (i.zero, i.size, i.bytes)) = some (some z, size, bytes)
 zc : z.cells.size = size
 sz : 0 < size
theorem cells_new (w : World) (cs : Array Value) (e : TypeId) : ∀ (j : Nat) (u : Value), cs.toList[j]? = some u → (w.alloc (.cells cs e)).cell? ((⟨w.heap.size, 0, none⟩ : Addr).add j) = some u := by
 intro j u hu
 have hadd : (⟨w.heap.size, 0, none⟩ : Addr).add j = ⟨w.heap.size, j, none⟩ := by unfold Addr.add; split <;> simp_all
 rw [hadd, World.cell?_alloc_new]
 simpa using hu
/-- append of one element onto a row of the call's own: the element lies in a block that was just laid. -/
theorem push1 {P : Program} {ops : Array Oper} {rest : List Oper} {o : Oper} {a : Act} {Q : Exit → Act → World → Prop} {t e : TypeId} {size bytes : Nat} {z : Value}
 (T : TS P t e size bytes z) (w : World) (cs : Array Value) (base n : Nat) (v : Value) (xs : List Value) (hown : w.ownsRow base e size v n xs)
 (s x : Operand) (hgd : o.guard = none) (ho : o.op = .call { callee := .builtin .append, args := #[s, x], argTypes := #[t, t] })
 (hs : a.eval s = v) (hx : a.eval x = .slice (some ⟨w.heap.size, 0, none⟩) 1 1) (hcs : cs.size = size) (h1 : ∀ u ∈ cs.toList, u.oneCell' = true)
 (hn : (n + 1) * bytes ≤ 140737488355328) (hn2 : n < 1000000000000) (hb : base ≤ w.heap.size)
 (h : ∀ v' w', w'.ownsRow base e size v' (n + 1) (xs ++ cs.toList) → (w.alloc (.cells cs e)).grownBy w' v.ownBlock → wpList P ops Q rest (a.put o.dst v') w') :
 wpList P ops Q (o :: rest) a (w.alloc (.cells cs e)) := by
 obtain ⟨i, hi, hz0, hz1, hz2⟩ := info_parts T.inf
 exact wpList_append_own _ hgd s x t ho base e i z size bytes T.und hi hz0 hz1 hz2 T.zc T.sz v n xs hs (hown.alloc _) _ 1 1 cs.toList hx (by simpa using hcs) (cells_new _ _ _) h1
  (by unfold maxLen; omega) hn (by simp; omega) fun v' w' a1 a2 _ => h v' w' a1 a2
/-- What was there, the row v but for the new element, and the new block: after 'push1' as 'Below'. -/
theorem below_push {B base : Nat} {a w w' : World} {e : TypeId} {size n : Nat} {v : Value} {xs : List Value} {o : Obj} (h : Below B a w) (ho : w.ownsRow base e size v n xs) (hg : (w.alloc o).grownBy w' v.ownBlock) (hB : B ≤ w.heap.size) (hb : B ≤ base) : Below B a w' :=
 (h.alloc hB o).grown hg (by simp; omega) fun k hk => Nat.le_trans hb (ho.lt k hk).1
/-- Block b is just the cells cs of element type t; none of them is frozen. -/
def Blk (w : World) (b : Nat) (t : TypeId) (cs : Array Value) : Prop := w.heap[b]? = some (.cells cs t (0, 0))
section
variable {w w' : World} {b : Nat} {t : TypeId} {cs : Array Value}
theorem Blk.lt (h : Blk w b t cs) : b < w.heap.size := lt_of_block h
theorem Blk.cell (h : Blk w b t cs) (i : Nat) : w.cell? ⟨b, i, none⟩ = cs[i]? := cell_of_row w b i cs t (0, 0) h
theorem Blk.free (h : Blk w b t cs) (i : Nat) : w.frozen? ⟨b, i, none⟩ = false := by unfold Blk at h; simp [World.frozen?, h]
theorem Blk.new (w : World) (t : TypeId) (cs : Array Value) : Blk (w.alloc (.cells cs t)) w.heap.size t cs := heap_alloc_new w _
theorem Blk.new_at (w : World) (t : TypeId) (cs : Array Value) {n : Nat} (hn : n = w.heap.size) : Blk (w.alloc (.cells cs t)) n t cs := by subst hn; exact heap_alloc_new w _
theorem Blk.drew (h : Blk w b t cs) : Blk w.drew b t cs := h
theorem Blk.drewN (h : Blk w b t cs) (n : Nat) : Blk (w.drewN n) b t cs := h
theorem Blk.alloc (h : Blk w b t cs) (o : Obj) : Blk (w.alloc o) b t cs := (Below.heap_alloc w o b h.lt).trans h
theorem Blk.set (h : Blk w b t cs) (i : Nat) (u : Value) : Blk (w.setCell ⟨b, i, none⟩ u) b t (cs.setIfInBounds i u) := by
 unfold Blk at h ⊢
 simp [World.setCell, Array.getElem?_modify, h]
theorem Blk.far (h : Blk w b t cs) {p : Addr} (hp : b ≠ p.block) (u : Value) : Blk (w.setCell p u) b t cs := (Below.heap_setCell w p u b hp).trans h
theorem Blk.below {B : Nat} (h : Blk w b t cs) (hb : Below B w w') (hB : b < B) : Blk w' b t cs := (hb.block b hB).trans h
theorem Blk.keep (h : Blk w b t cs) (hb : Below w.heap.size w w') : Blk w' b t cs := h.below hb h.lt
theorem Blk.grown {row : Option Nat} (h : Blk w b t cs) (hb : w.grownBy w' row) (hg : some b ≠ row) : Blk w' b t cs := (hb.block b h.lt hg).trans h
end
/-- n numbers as cells. -/
def arr (n : Nat) (f : Nat → Int) : Array Value := ((List.range n).map fun i => Value.int .i64 (f i)).toArray
theorem arr_get {n : Nat} {f : Nat → Int} {i : Nat} (h : i < n) : (arr n f)[i]? = some (.int .i64 (f i)) := by simp [arr, h]
theorem arr_size (n : Nat) (f : Nat → Int) : (arr n f).size = n := by simp [arr]
theorem arr_set {n : Nat} {f : Nat → Int} {i : Nat} (v : Int) : (arr n f).setIfInBounds i (.int .i64 v) = arr n (fun j => if j = i then v else f j) := by
 apply Array.ext_getElem?
 intro j
 rw [Array.getElem?_setIfInBounds]
 by_cases hj : j < n
 · rw [arr_get hj, arr_get hj, arr_size]
   by_cases e : i = j
   · subst e; simp [hj]
   · rw [if_neg e, if_neg (Ne.symm e)]
 · have hz : ∀ g : Nat → Int, (arr n g)[j]? = none := fun g => Array.getElem?_eq_none (by rw [arr_size]; omega)
   rw [hz, hz, arr_size]
   by_cases e : i = j
   · subst e; simp [hj]
   · rw [if_neg e]
theorem arr_congr {n : Nat} {f g : Nat → Int} (h : ∀ i, i < n → f i = g i) : arr n f = arr n g := by
 unfold arr
 congr 1
 apply List.map_congr_left
 intro i hi
 rw [h i (by simpa using hi)]
/-- A function with a body is entered. -/
theorem enters {P : Program} {f : FuncId} {fn : Func} {c : Code} (hf : P.funcs[f]? = some fn) (hname : (fn.name == "runtime.NumGoroutine") = false) (hb : fn.body = some c) (args : Array Value) (w : World) :
 (callFunc f args).run P w = .ok (.enter f args) w := by
 have h1 : fn.name ≠ "runtime.NumGoroutine" := by simpa using hname
 simp [callFunc, hf, h1, hb, mark]
/-- Two results, the first one in a block. -/
theorem results_row_tmp {P : Program} {fn : Func} {p u : Tmp} {ty : TypeId} (h : fn.results = #[.cell p ty, .tmp u]) (tmps : Array Value) (w : World) (g : Nat) (t : TypeId) (cs : Array Value) (fr : Nat × Nat) (d : TypeDesc)
 (hp : tmps.getD p undef = .pointer (some ⟨g, 0, none⟩)) (hg : w.heap[g]? = some (.cells cs t fr))
 (hu : P.underlying ty = some d) (hd : (match d with | .struct _ | .array _ _ => true | _ => false) = true) (hi : (P.info? ty).map (·.size) = some cs.size) :
 (results fn tmps).run P w = .ok (.tuple #[.agg cs, tmps.getD u undef]) w := by
 have hp' : tmps[p]?.getD undef = .pointer (some ⟨g, 0, none⟩) := by simpa using hp
 rw [results_cell_tmp h]
 simp [hp', asAddr, run_loadVar_row w g t ty cs fr d hg hu hd hi, Result.andThen]
theorem cell_keep {w w' : World} {a : Addr} {v : Value} (hb : Below w.heap.size w w') (h : w.cell? a = some v) : w'.cell? a = some v := (hb.cell (World.block_lt_of_cell? w a h)).trans h
theorem below_call {w W W' : World} {B : Nat} (kb : Below B w W) (h : Below W.heap.size W W') (hB : B ≤ W.heap.size) : Below B w W' := kb.trans (h.mono hB)
theorem hid {p : Prop} (h : p) : Hid p := h
theorem ret_i {a b : Int} (h : a = b) : Ending.returned (.int .i64 a) = .returned (.int .i64 b) := by rw [h]
end
/- More words for memory: a slice that the call made, known whole. No condition. -/
section
open Go.RowKit
theorem blk_own {w : World} {base g n : Nat} {e : TypeId} {cs : Array Value} (h : Blk w g e cs) (hb : base ≤ g) (hn : n = cs.size) (hm : n ≤ 1000000) : w.ownsRow base e 1 (.slice (some ⟨g, 0, none⟩) n n) n cs.toList :=
 ⟨by simp [hn], .inr ⟨g, n, cs, rfl, hb, h, Nat.le_refl _, by unfold maxLen; omega, by omega, by rw [Nat.mul_one, List.take_of_length_le (by simp [hn])]⟩⟩
theorem made_arr (n : Nat) : (madeCells (Value.int .i64 0).cells (n * 1)).toList.toArray = arr n fun _ => 0 := by
 apply Array.ext_getElem?
 intro j
 by_cases hj : j < n
 · rw [arr_get hj]
   simp [madeCells, Value.cells, hj, Nat.mod_one]
 · have h1 : (arr n fun _ => 0)[j]? = none := Array.getElem?_eq_none (by rw [arr_size]; omega)
   rw [h1]
   simp [madeCells]
   omega
end
/- A map that is known exactly: which keys it has, and what stands at each. Conditions: the keys read as keys. -/
section
open Go.RowKit Go.Maps
open Go.ChangeMaps (setBlock heap_setBlock_same heap_setBlock_other)
/-- Block B is a map that holds just what f tells. -/
def MapX (P : Program) (k : TypeId) (w : World) (B : Nat) (f : Value → Option Value) : Prop :=
 ∃ es clock, w.heap[B]? = some (.map es clock) ∧ (∀ e ∈ es.toList, (∃ l, keyOf P k e.key = some l) ∧ f e.key = some e.val) ∧ (∀ key v, f key = some v → ∃ e ∈ es.toList, e.key = key) ∧ ∀ (i j : Nat) (x y : MapEntry), es[i]? = some x → es[j]? = some y → x.key = y.key → i = j
/-- f with v at a key. -/
def putX (f : Value → Option Value) (key v : Value) (g : Value → Option Value) : Prop := g key = some v ∧ ∀ x, x ≠ key → g x = f x
section
variable {P : Program} {k : TypeId} {w w' : World} {B : Nat} {f g : Value → Option Value}
theorem MapX.made (w : World) : MapX P k (w.alloc (.map #[] 0)) w.heap.size fun _ => none := ⟨#[], 0, (MapKept.heap_alloc w _).1, by simp, (fun _ _ h => by cases h), fun _ _ _ _ h => by simp at h⟩
theorem MapX.lt (h : MapX P k w B f) : B < w.heap.size := by
 obtain ⟨es, c, hb, _⟩ := h
 exact lt_of_block hb
theorem MapX.keep (h : MapX P k w B f) (hb : Below w.heap.size w w') : MapX P k w' B f := by
 have hlt := h.lt
 obtain ⟨es, c, h1, h2⟩ := h
 exact ⟨es, c, (hb.block B hlt).trans h1, h2⟩
theorem MapX.drew (h : MapX P k w B f) : MapX P k w.drew B f := h
theorem MapX.drewN (h : MapX P k w B f) (n : Nat) : MapX P k (w.drewN n) B f := h
theorem MapX.alloc (h : MapX P k w B f) (o : Obj) : MapX P k (w.alloc o) B f := h.keep ((Below.refl _ _).alloc (Nat.le_refl _) _)
theorem MapX.ne_blk (h : MapX P k w B f) {b : Nat} {t : TypeId} {cs : Array Value} (hb : Blk w b t cs) : b ≠ B := by
 rintro rfl
 obtain ⟨es, c, h1, _⟩ := h
 unfold Blk at hb
 rw [hb] at h1
 cases h1
theorem MapX.setCell (h : MapX P k w B f) {a : Addr} (ha : a.block ≠ B) (u : Value) : MapX P k (w.setCell a u) B f := by
 obtain ⟨es, c, h1, h2⟩ := h
 exact ⟨es, c, (Below.heap_setCell w a u B (Ne.symm ha)).trans h1, h2⟩
theorem MapX.grown {row : Option Nat} (h : MapX P k w B f) (hg : w.grownBy w' row) (hr : some B ≠ row) : MapX P k w' B f := by
 have hlt := h.lt
 obtain ⟨es, c, h1, h2⟩ := h
 exact ⟨es, c, (hg.block B hlt hr).trans h1, h2⟩
theorem MapX.congr (h : MapX P k w B f) (e : ∀ x, f x = g x) : MapX P k w B g := by
 obtain rfl : f = g := funext e
 exact h
/-- v, ok := m[key], where the key is there. -/
theorem MapX.look_in {t e : TypeId} (h : MapX P k w B f) (K : Keyed P k) (ht : P.underlying t = some (.map k e)) {key V : Value} {kl : Lit} (hkey : keyOf P k key = some kl) (hV : f key = some V) (n : Nat) (ok : Bool) :
 (Instr.lookup t (.map (some B)) key ok).run P (w.drewN n) = .ok (if ok then .tuple #[V, .bool true] else V) (w.drewN n) := by
 obtain ⟨es, c, hb, he, hex, _⟩ := h
 have hb' : (w.drewN n).heap[B]? = some (.map es c) := hb
 obtain ⟨x, hx, hxk⟩ := hex key V hV
 rcases K.find (w.drewN n) hkey es.toList (fun x hx => (he x hx).1) with ⟨_, g2⟩ | ⟨j, e0, g1, g2, g3⟩
 · exact absurd hxk (g2 x hx)
 · have hv : e0.val = V := by
    have := (he e0 (List.mem_of_getElem? g2)).2
    rw [g3, hV] at this
    exact (Option.some.inj this).symm
   cases ok <;> simp [Instr.lookup, run_underlying ht, MapKept.run_getObj_map hb', K.check (w.drewN n) es.isEmpty hkey, g1, hv, Result.andThen]
/-- v, ok := m[key], where it is not. -/
theorem MapX.look_out {t e : TypeId} (h : MapX P k w B f) (K : Keyed P k) (ht : P.underlying t = some (.map k e)) {z : Value} (hz : ∀ W : World, (zeroValue e).run P W = .ok z W) {key : Value} {kl : Lit} (hkey : keyOf P k key = some kl) (hV : f key = none) (n : Nat) (ok : Bool) :
 (Instr.lookup t (.map (some B)) key ok).run P (w.drewN n) = .ok (if ok then .tuple #[z, .bool false] else z) (w.drewN n) := by
 obtain ⟨es, c, hb, he, hex, _⟩ := h
 have hb' : (w.drewN n).heap[B]? = some (.map es c) := hb
 rcases K.find (w.drewN n) hkey es.toList (fun x hx => (he x hx).1) with ⟨g1, _⟩ | ⟨j, e0, _, g2, g3⟩
 · cases ok <;> simp [Instr.lookup, run_underlying ht, MapKept.run_getObj_map hb', K.check (w.drewN n) es.isEmpty hkey, g1, hz, Result.andThen]
 · have := (he e0 (List.mem_of_getElem? g2)).2
   rw [g3, hV] at this
   cases this
/-- m[key] = val. -/
theorem MapX.update {t e : TypeId} (h : MapX P k w B f) (K : Keyed P k) (ht : P.underlying t = some (.map k e)) {key val : Value} {kl : Lit} (hkey : keyOf P k key = some kl) (hg : putX f key val g) :
 ∃ w', (Instr.mapUpdate t (.map (some B)) key val).run P w = .ok () w' ∧ MapX P k w' B g ∧ w.grownBy w' (some B) := by
 obtain ⟨es, c, hb, he, hex, hun⟩ := h
 have hgrow : ∀ o, w.grownBy (setBlock w B o) (some B) := fun o => ⟨rfl, rfl, rfl, by simp [setBlock], fun i _ hi => heap_setBlock_other hb _ (fun e => hi (by rw [e]))⟩
 rcases K.find w hkey es.toList (fun x hx => (he x hx).1) with ⟨h1, h2⟩ | ⟨j, e0, h1, h2, h3⟩
 · refine ⟨setBlock w B (.map (es.push ⟨key, val, c⟩) (c + 1)), ?_, ⟨_, _, heap_setBlock_same hb _, fun x hx => ?_, fun key' v hv => ?_, fun i j x y hi hj he' => ?_⟩, hgrow _⟩
   · simp [Instr.mapUpdate, run_underlying ht, MapKept.run_getObj_map hb, K.check w false hkey, h1, MapKept.run_setObj_map _ hb, Result.andThen, setBlock]
   · simp only [Array.toList_push, List.mem_append, List.mem_singleton] at hx
     rcases hx with hx | rfl
     · exact ⟨(he x hx).1, by rw [hg.2 _ (h2 x hx)]; exact (he x hx).2⟩
     · exact ⟨⟨kl, hkey⟩, hg.1⟩
   · by_cases e : key' = key
     · subst e
       exact ⟨⟨key', val, c⟩, by simp, rfl⟩
     · rw [hg.2 _ e] at hv
       obtain ⟨x, hx, hk⟩ := hex key' v hv
       exact ⟨x, by simp [hx], hk⟩
   · rw [Array.getElem?_push] at hi hj
     by_cases e1 : i = es.size
     · by_cases e2 : j = es.size
       · rw [e1, e2]
       · rw [if_pos e1] at hi
         rw [if_neg e2] at hj
         simp at hi
         subst hi
         exact absurd he'.symm (h2 y (List.mem_of_getElem? (by simpa using hj)))
     · rw [if_neg e1] at hi
       by_cases e2 : j = es.size
       · rw [if_pos e2] at hj
         simp at hj
         subst hj
         exact absurd he' (h2 x (List.mem_of_getElem? (by simpa using hi)))
       · rw [if_neg e2] at hj
         exact hun i j x y hi hj he'
 · have hj : es[j]? = some e0 := by simpa using h2
   have hst := K.stays w hkey
   have hmod : ∀ i, (es.modify j fun e => { e with key := key, val := val })[i]? = if j = i then (es[i]?).map (fun e => { e with key := key, val := val }) else es[i]? := fun i => by rw [Array.getElem?_modify]
   have hat : ∀ {i : Nat} {x}, (es.modify j fun e => { e with key := key, val := val })[i]? = some x → (i = j ∧ x.key = key ∧ x.val = val) ∨ (i ≠ j ∧ es[i]? = some x) := fun {i x} hx => by
    rw [hmod] at hx
    by_cases e : j = i
    · subst e
      rw [if_pos rfl, hj] at hx
      simp at hx
      subst hx
      exact .inl ⟨rfl, rfl, rfl⟩
    · rw [if_neg e] at hx
      exact .inr ⟨fun k => e k.symm, hx⟩
   refine ⟨setBlock w B (.map (es.modify j fun e => { e with key := key, val := val }) c), ?_, ⟨_, _, heap_setBlock_same hb _, fun x hx => ?_, fun key' v hv => ?_, fun i j' x y hi hj' he' => ?_⟩, hgrow _⟩
   · simp [Instr.mapUpdate, run_underlying ht, MapKept.run_getObj_map hb, K.check w false hkey, h1, hj, h3, hst, MapKept.run_setObj_map _ hb, Result.andThen, setBlock]
   · obtain ⟨i, hi⟩ := List.getElem?_of_mem hx
     rcases hat (by rw [← Array.getElem?_toList]; exact hi) with ⟨_, e1, e2⟩ | ⟨hne, hi2⟩
     · rw [e1, e2]; exact ⟨⟨kl, hkey⟩, hg.1⟩
     · have hm : x ∈ es.toList := List.mem_of_getElem? (by simpa using hi2)
       have hk : x.key ≠ key := fun e => hne (hun i j x e0 hi2 hj (by rw [e, h3]))
       exact ⟨(he x hm).1, by rw [hg.2 _ hk]; exact (he x hm).2⟩
   · have hmj : (es.modify j fun e => { e with key := key, val := val })[j]? = some { e0 with key := key, val := val } := by rw [hmod, if_pos rfl, hj]; rfl
     by_cases e : key' = key
     · exact ⟨_, List.mem_of_getElem? (by rw [Array.getElem?_toList]; exact hmj), e.symm⟩
     · rw [hg.2 _ e] at hv
       obtain ⟨x, hx, hk⟩ := hex key' v hv
       obtain ⟨i, hi⟩ := List.getElem?_of_mem hx
       have hi : es[i]? = some x := by simpa using hi
       have hne : ¬ j = i := fun e' => by
        subst e'
        rw [hj] at hi
        have := Option.some.inj hi
        exact e (by rw [← hk, ← this, h3])
       exact ⟨x, List.mem_of_getElem? (i := i) (by rw [Array.getElem?_toList, hmod, if_neg hne]; exact hi), hk⟩
   · rcases hat hi with ⟨a1, a2, _⟩ | ⟨a1, a2⟩
     · rcases hat hj' with ⟨b1, b2, _⟩ | ⟨b1, b2⟩
       · rw [a1, b1]
       · exact absurd (hun j' j y e0 b2 hj (by rw [← he', a2, h3])) b1
     · rcases hat hj' with ⟨b1, b2, _⟩ | ⟨b1, b2⟩
       · exact absurd (hun i j x e0 a2 hj (by rw [he', b2, h3])) a1
       · exact hun i j' x y a2 b2 he'
end
end
/- The program's copies in memory, and the walks of their methods. Conditions: a copy that NewCopy made, or none. -/
section
open Go.RowKit Go.Maps
/-- What a copy holds at each number. -/
abbrev Ents := Nat → Option (Int × ByteArray)
def fX (e : Ents) : Value → Option Value
 | .int .i64 i => if 0 ≤ i then (e i.toNat).map fun p => .agg #[.int .i64 p.1, .string p.2] else none
 | _ => none
theorem fX_nat (e : Ents) (i : Nat) : fX e (.int .i64 (i : Int)) = (e i).map fun p => .agg #[.int .i64 p.1, .string p.2] := by simp [fX]
def putE (e : Ents) (i : Nat) (p : Int × ByteArray) : Ents := fun j => if j = i then some p else e j
theorem put_fX (e : Ents) (i : Nat) (p : Int × ByteArray) : putX (fX e) (.int .i64 (i : Int)) (.agg #[.int .i64 p.1, .string p.2]) (fX (putE e i p)) := by
 refine ⟨by rw [fX_nat]; simp [putE], fun x hx => ?_⟩
 cases x with
 | int k v =>
  cases k <;> try rfl
  unfold fX
  by_cases h0 : 0 ≤ v
  · simp only [if_pos h0]
    have : v.toNat ≠ i := fun e' => hx (by rw [← e', Int.toNat_of_nonneg h0])
    simp [putE, this]
  · simp only [if_neg h0]
 | _ => rfl
/-- A copy: its struct, and its map. -/
structure CpM (w : World) (cb mb : Nat) (mark : Int) (away : Bool) (e : Ents) : Prop where
 blk : Blk w cb 114 #[.map (some mb), .int .i64 mark, .bool away]
 map : MapX Tryz.prog 3 w mb (fX e)
section
variable {w w' : World} {cb mb : Nat} {mark : Int} {away : Bool} {e : Ents}
theorem CpM.keep (h : CpM w cb mb mark away e) (hb : Below w.heap.size w w') : CpM w' cb mb mark away e := ⟨h.blk.keep hb, h.map.keep hb⟩
theorem CpM.drewN (h : CpM w cb mb mark away e) (n : Nat) : CpM (w.drewN n) cb mb mark away e := ⟨h.blk.drewN n, h.map.drewN n⟩
theorem CpM.ne (h : CpM w cb mb mark away e) : cb ≠ mb := h.map.ne_blk h.blk
theorem CpM.lt (h : CpM w cb mb mark away e) : cb < w.heap.size ∧ mb < w.heap.size := ⟨h.blk.lt, h.map.lt⟩
end
theorem fX_none (x : Value) : fX (fun _ => none) x = none := by
 unfold fX
 split
 · split <;> rfl
 · rfl
/-- Only one block may have changed. -/
structure Chs (S : Nat → Prop) (w w' : World) : Prop where
 os : w'.os = w.os
 tape : w'.tape = w.tape
 output : w'.output = w.output
 size : w.heap.size ≤ w'.heap.size
 block : ∀ i, i < w.heap.size → ¬ S i → w'.heap[i]? = w.heap[i]?
section
variable {S T : Nat → Prop} {w w' w'' : World}
theorem Chs.refl (S : Nat → Prop) (w : World) : Chs S w w := ⟨rfl, rfl, rfl, Nat.le_refl _, fun _ _ _ => rfl⟩
theorem Chs.trans (h : Chs S w w') (k : Chs S w' w'') : Chs S w w'' :=
 ⟨k.os.trans h.os, k.tape.trans h.tape, k.output.trans h.output, Nat.le_trans h.size k.size, fun i hi hs => (k.block i (Nat.lt_of_lt_of_le hi h.size) hs).trans (h.block i hi hs)⟩
theorem Chs.mono (h : Chs S w w') (k : ∀ i, S i → T i) : Chs T w w' := ⟨h.os, h.tape, h.output, h.size, fun i hi hs => h.block i hi fun hc => hs (k i hc)⟩
theorem Chs.of_below (h : Below w.heap.size w w') : Chs S w w' := ⟨h.os, h.tape, h.output, h.size, fun i hi _ => h.block i hi⟩
theorem Chs.setCell {a : Addr} (ha : S a.block) (u : Value) : Chs S w (w.setCell a u) :=
 ⟨rfl, rfl, rfl, by simp, fun i _ hs => Below.heap_setCell w a u i fun e => hs (by rw [e]; exact ha)⟩
theorem Chs.grown {b : Nat} (hb : S b) (h : w.grownBy w' (some b)) : Chs S w w' :=
 ⟨h.os, h.tape, h.output, h.size, fun i hi hs => h.block i hi fun e => hs (by cases e; exact hb)⟩
theorem Chs.below {B : Nat} {w0 : World} (h : Below B w0 w) (k : Chs S w w') (hB : B ≤ w.heap.size) (hS : ∀ i, S i → B ≤ i) : Below B w0 w' :=
 h.trans ⟨k.os, k.tape, k.output, k.size, fun i hi => k.block i (by omega) fun hs => by have := hS i hs; omega⟩
theorem Chs.blk {b : Nat} {t : TypeId} {cs : Array Value} (k : Chs S w w') (h : Blk w b t cs) (hs : ¬ S b) : Blk w' b t cs := (k.block b h.lt hs).trans h
theorem Chs.mapx {P : Program} {kt : TypeId} {b : Nat} {f : Value → Option Value} (k : Chs S w w') (h : MapX P kt w b f) (hs : ¬ S b) : MapX P kt w' b f := by
 have hlt := h.lt
 obtain ⟨es, c, h1, h2⟩ := h
 exact ⟨es, c, (k.block b hlt hs).trans h1, h2⟩
theorem Chs.cpm {cb mb : Nat} {mark : Int} {away : Bool} {e : Ents} (k : Chs S w w') (h : CpM w cb mb mark away e) (h1 : ¬ S cb) (h2 : ¬ S mb) : CpM w' cb mb mark away e := ⟨k.blk h.blk h1, k.mapx h.map h2⟩
end
set_option maxRecDepth 100000 in
theorem newCopyF (w : World) :
 Calls Tryz.prog 31 #[] w fun e w' => ∃ cb mb, e = .returned (.pointer (some ⟨cb, 0, none⟩)) ∧ CpM w' cb mb 0 false (fun _ => none) ∧ Below w.heap.size w w' ∧ w.heap.size ≤ cb ∧ w.heap.size ≤ mb := by
 have hmm := @run_makeMap Tryz.prog
 go_enter Tryz.func31, Tryz.ntmps31
 go_wp2
 go_ret
 exact ⟨w.heap.size + 1, w.heap.size, rfl, ⟨Blk.new_at _ _ _ (by simp), (MapX.congr (MapX.made w) fun x => (fX_none x).symm).alloc _⟩, ((Below.refl _ w).alloc (Nat.le_refl _) _).alloc (by simp) _, by omega, by omega⟩
set_option maxRecDepth 100000 in
theorem noneF (cb mb : Nat) (mark : Int) (away : Bool) (e : Ents) (w : World) (h : CpM w cb mb mark away e) :
 Calls Tryz.prog 60 #[.pointer (some ⟨cb, 0, none⟩)] w fun x w' => x = .returned (.bool false) ∧ w = w' := by
 have c0 := h.blk.cell 0
 have c1 := h.blk.cell 1
 have c2 := h.blk.cell 2
 simp only [List.getElem?_toArray, List.getElem?_cons_zero, List.getElem?_cons_succ] at c0 c1 c2
 have qT : ∀ (w : World) (r : Option Nat), (binOp .eql 112 (.map r) (.map none)).run Tryz.prog w = .ok (.bool r.isNone) w := fun w r => run_eql_map_nil w _ _ _ r Tryz.underlying112
 clear h
 go_enter Tryz.func60, Tryz.ntmps60
 go_wp2
 go_ret
 exact ⟨rfl, rfl⟩
/-- What ready says. -/
def rdyR (away : Bool) : Int := if away then 8 else 0
set_option maxRecDepth 100000 in
theorem readyF (cb mb : Nat) (mark : Int) (away : Bool) (e : Ents) (w : World) (h : CpM w cb mb mark away e) :
 Calls Tryz.prog 84 #[.pointer (some ⟨cb, 0, none⟩)] w fun x w' => x = .returned (.int .i64 (rdyR away)) ∧ w = w' := by
 have HN := hid (noneF cb mb mark away e w h)
 have c0 := h.blk.cell 0
 have c1 := h.blk.cell 1
 have c2 := h.blk.cell 2
 simp only [List.getElem?_toArray, List.getElem?_cons_zero, List.getElem?_cons_succ] at c0 c1 c2
 clear h
 cases away
 · go_enter Tryz.func84, Tryz.ntmps84
   go_wp2_with fail
   refine (HN.out).mono ?_; rintro x w' ⟨rfl, rfl⟩
   go_wp2
   go_ret
   exact ⟨rfl, rfl⟩
 · go_enter Tryz.func84, Tryz.ntmps84
   go_wp2_with fail
   refine (HN.out).mono ?_; rintro x w' ⟨rfl, rfl⟩
   go_wp2
   go_ret
   exact ⟨rfl, rfl⟩
/-- What Promise says, and the mark behind it. -/
def prmR (away : Bool) (mark m : Int) : Int × Int := if away then (8, mark) else if m < 0 ∨ m > 1000000000 then (2, mark) else if m ≤ mark then (5, mark) else (0, m)
set_option maxRecDepth 100000 in
set_option maxHeartbeats 2000000 in
theorem promiseF (m : Int) (cb mb : Nat) (mark : Int) (away : Bool) (e : Ents) (w : World) (h : CpM w cb mb mark away e) :
 Calls Tryz.prog 63 #[.pointer (some ⟨cb, 0, none⟩), .int .i64 m] w fun x w' => x = .returned (.int .i64 (prmR away mark m).1) ∧ CpM w' cb mb (prmR away mark m).2 away e ∧ Chs (· = cb) w w' := by
 have HR := hid (readyF cb mb mark away e w h)
 have HC := hid h
 have hne := h.ne
 have c0 := h.blk.cell 0
 have c1 := h.blk.cell 1
 have c2 := h.blk.cell 2
 simp only [List.getElem?_toArray, List.getElem?_cons_zero, List.getElem?_cons_succ] at c0 c1 c2
 have f1 := h.blk.free 1
 clear h
 unfold prmR
 cases away
 · simp only [rdyR, Bool.false_eq_true, if_false] at HR ⊢
   by_cases h1 : m < 0 ∨ m > 1000000000
   · rw [if_pos h1]
     by_cases h0 : m < 0
     · have g1 : decide (m < 0) = true := decide_eq_true h0
       clear h1 h0
       go_enter Tryz.func63, Tryz.ntmps63
       go_wp2_with fail
       refine (HR.out).mono ?_; rintro x w' ⟨rfl, rfl⟩
       go_wp2
       go_ret
       exact ⟨rfl, HC.out, Chs.refl _ _⟩
     · have g1 : decide (m < 0) = false := decide_eq_false h0
       have g2 : decide (1000000000 < m) = true := decide_eq_true (by omega)
       clear h1 h0
       go_enter Tryz.func63, Tryz.ntmps63
       go_wp2_with fail
       refine (HR.out).mono ?_; rintro x w' ⟨rfl, rfl⟩
       go_wp2
       go_ret
       exact ⟨rfl, HC.out, Chs.refl _ _⟩
   · rw [if_neg h1]
     have g1 : decide (m < 0) = false := decide_eq_false (by omega)
     have g2 : decide (1000000000 < m) = false := decide_eq_false (by omega)
     by_cases h2 : m ≤ mark
     · rw [if_pos h2]
       have g3 : decide (m ≤ mark) = true := decide_eq_true h2
       clear h1 h2
       go_enter Tryz.func63, Tryz.ntmps63
       go_wp2_with fail
       refine (HR.out).mono ?_; rintro x w' ⟨rfl, rfl⟩
       go_wp2
       go_ret
       exact ⟨rfl, HC.out, Chs.refl _ _⟩
     · rw [if_neg h2]
       have g3 : decide (m ≤ mark) = false := decide_eq_false h2
       clear h1 h2
       go_enter Tryz.func63, Tryz.ntmps63
       go_wp2_with fail
       refine (HR.out).mono ?_; rintro x w' ⟨rfl, rfl⟩
       go_wp2
       go_ret
       exact ⟨rfl, ⟨HC.out.blk.set 1 _, HC.out.map.setCell hne _⟩, Chs.setCell (S := (· = cb)) (a := ⟨cb, 1, none⟩) rfl _⟩
 · simp only [rdyR, if_true] at HR ⊢
   go_enter Tryz.func63, Tryz.ntmps63
   go_wp2_with fail
   refine (HR.out).mono ?_; rintro x w' ⟨rfl, rfl⟩
   go_wp2
   go_ret
   exact ⟨rfl, HC.out, Chs.refl _ _⟩
/-- What Put says, and what is there behind it. -/
def putOk (i m : Int) (s : ByteArray) : Bool := decide (0 ≤ i) && decide (i < 200) && decide (0 ≤ m) && decide (m ≤ 1000000000) && decide (s.size ≤ 60)
def putR (away : Bool) (mark i m : Int) (s : ByteArray) : Int := if away then 8 else if putOk i m s then (if m < mark then 5 else 0) else 2
set_option maxRecDepth 100000 in
set_option maxHeartbeats 4000000 in
theorem putF (i m : Int) (s : ByteArray) (cb mb : Nat) (mark : Int) (away : Bool) (e : Ents) (w : World) (h : CpM w cb mb mark away e) :
 Calls Tryz.prog 56 #[.pointer (some ⟨cb, 0, none⟩), .int .i64 i, .int .i64 m, .string s] w fun x w' => x = .returned (.int .i64 (putR away mark i m s)) ∧ (putR away mark i m s ≠ 0 ∧ CpM w' cb mb mark away e ∨ putR away mark i m s = 0 ∧ CpM w' cb mb m away (putE e i.toNat (m, s))) ∧ Chs (fun b => b = cb ∨ b = mb) w w' := by
 have HR := hid (readyF cb mb mark away e w h)
 have HC := hid h
 have hne := h.ne
 have c0 := h.blk.cell 0
 have c1 := h.blk.cell 1
 have c2 := h.blk.cell 2
 simp only [List.getElem?_toArray, List.getElem?_cons_zero, List.getElem?_cons_succ] at c0 c1 c2
 have f1 := h.blk.free 1
 clear h
 have H2 := hid fun (hr : putR away mark i m s ≠ 0) => (show (putR away mark i m s ≠ 0 ∧ CpM w cb mb mark away e ∨ putR away mark i m s = 0 ∧ CpM w cb mb m away (putE e i.toNat (m, s))) ∧ Chs (fun b => b = cb ∨ b = mb) w w from ⟨.inl ⟨hr, HC.out⟩, Chs.refl _ _⟩)
 cases away
 · simp only [rdyR, Bool.false_eq_true, if_false] at HR
   cases hok : putOk i m s
   · have hr : putR false mark i m s = 2 := by simp [putR, hok]
     rw [hr] at H2 ⊢
     have H3 := hid (H2.out (by decide))
     have hcase : i < 0 ∨ ¬ i < 0 ∧ 200 ≤ i ∨ ¬ i < 0 ∧ ¬ 200 ≤ i ∧ m < 0 ∨ ¬ i < 0 ∧ ¬ 200 ≤ i ∧ ¬ m < 0 ∧ 1000000000 < m ∨ ¬ i < 0 ∧ ¬ 200 ≤ i ∧ ¬ m < 0 ∧ ¬ 1000000000 < m ∧ 60 < s.size := by
      unfold putOk at hok
      simp only [Bool.and_eq_false_iff, decide_eq_false_iff_not] at hok
      omega
     clear hok hr H2
     rcases hcase with k | ⟨k1, k2⟩ | ⟨k1, k2, k3⟩ | ⟨k1, k2, k3, k4⟩ | ⟨k1, k2, k3, k4, k5⟩
     · have g1 : decide (i < 0) = true := decide_eq_true (by omega); clear k
       go_enter Tryz.func56, Tryz.ntmps56
       go_wp2_with fail
       refine (HR.out).mono ?_; rintro x w' ⟨rfl, rfl⟩
       go_wp2
       go_ret
       exact ⟨rfl, H3.out⟩
     · have g1 : decide (i < 0) = false := decide_eq_false (by omega); have g2 : decide (200 ≤ i) = true := decide_eq_true (by omega); clear k1 k2
       go_enter Tryz.func56, Tryz.ntmps56
       go_wp2_with fail
       refine (HR.out).mono ?_; rintro x w' ⟨rfl, rfl⟩
       go_wp2
       go_ret
       exact ⟨rfl, H3.out⟩
     · have g1 : decide (i < 0) = false := decide_eq_false (by omega); have g2 : decide (200 ≤ i) = false := decide_eq_false (by omega); have g3 : decide (m < 0) = true := decide_eq_true (by omega); clear k1 k2 k3
       go_enter Tryz.func56, Tryz.ntmps56
       go_wp2_with fail
       refine (HR.out).mono ?_; rintro x w' ⟨rfl, rfl⟩
       go_wp2
       go_ret
       exact ⟨rfl, H3.out⟩
     · have g1 : decide (i < 0) = false := decide_eq_false (by omega); have g2 : decide (200 ≤ i) = false := decide_eq_false (by omega); have g3 : decide (m < 0) = false := decide_eq_false (by omega); have g4 : decide (1000000000 < m) = true := decide_eq_true (by omega); clear k1 k2 k3 k4
       go_enter Tryz.func56, Tryz.ntmps56
       go_wp2_with fail
       refine (HR.out).mono ?_; rintro x w' ⟨rfl, rfl⟩
       go_wp2
       go_ret
       exact ⟨rfl, H3.out⟩
     · have g1 : decide (i < 0) = false := decide_eq_false (by omega); have g2 : decide (200 ≤ i) = false := decide_eq_false (by omega); have g3 : decide (m < 0) = false := decide_eq_false (by omega); have g4 : decide (1000000000 < m) = false := decide_eq_false (by omega); have g5 : decide (60 < s.size) = true := decide_eq_true (by omega); have g6 : decide (60 < (s.size : Int)) = true := decide_eq_true (by omega); clear k1 k2 k3 k4 k5
       go_enter Tryz.func56, Tryz.ntmps56
       go_wp2_with fail
       refine (HR.out).mono ?_; rintro x w' ⟨rfl, rfl⟩
       go_wp2
       go_ret
       exact ⟨rfl, H3.out⟩
   · have hk : 0 ≤ i ∧ i < 200 ∧ 0 ≤ m ∧ m ≤ 1000000000 ∧ s.size ≤ 60 := by
      unfold putOk at hok
      simp only [Bool.and_eq_true, decide_eq_true_iff] at hok
      omega
     have g1 : decide (i < 0) = false := decide_eq_false (by omega)
     have g2 : decide (200 ≤ i) = false := decide_eq_false (by omega)
     have g3 : decide (m < 0) = false := decide_eq_false (by omega)
     have g4 : decide (1000000000 < m) = false := decide_eq_false (by omega)
     have g5 : decide (60 < s.size) = false := decide_eq_false (by omega)
     have g6 : decide (60 < (s.size : Int)) = false := decide_eq_false (by omega)
     by_cases hm : m < mark
     · have hr : putR false mark i m s = 5 := by simp [putR, hok, hm]
       rw [hr] at H2 ⊢
       have H3 := hid (H2.out (by decide))
       have g7 : decide (m < mark) = true := decide_eq_true hm
       clear hok hr H2 hk hm
       go_enter Tryz.func56, Tryz.ntmps56
       go_wp2_with fail
       refine (HR.out).mono ?_; rintro x w' ⟨rfl, rfl⟩
       go_wp2
       go_ret
       exact ⟨rfl, H3.out⟩
     · have hr : putR false mark i m s = 0 := by simp [putR, hok, hm]
       rw [hr]
       have g7 : decide (m < mark) = false := decide_eq_false hm
       obtain ⟨n, rfl⟩ := Int.eq_ofNat_of_zero_le hk.1
       obtain ⟨w1, hrun, hmx, hgr⟩ := HC.out.map.update (int_keyed Tryz.underlying3) Tryz.underlying112 (keyOf_int_mk Tryz.underlying3 (WalkArith.wf_i64 (by omega))) (put_fX e n (m, s))
       have B1 := hid (HC.out.blk.grown hgr (by simp; exact hne))
       have d1 := B1.out.cell 1
       simp only [List.getElem?_toArray, List.getElem?_cons_zero, List.getElem?_cons_succ] at d1
       have z1 := B1.out.free 1
       have HMX := hid (hmx.setCell (a := ⟨cb, 1, none⟩) hne (.int .i64 m))
       have HBK := hid (B1.out.set 1 (.int .i64 m))
       have HCH := hid ((Chs.grown (S := fun b => b = cb ∨ b = mb) (.inr rfl) hgr).trans (Chs.setCell (S := fun b => b = cb ∨ b = mb) (a := ⟨cb, 1, none⟩) (.inl rfl) (.int .i64 m)))
       clear hok hr H2 hm hmx hgr
       go_enter Tryz.func56, Tryz.ntmps56
       go_wp2_with fail
       refine (HR.out).mono ?_; rintro x w' ⟨rfl, rfl⟩
       go_wp2
       go_ret
       exact ⟨rfl, .inr ⟨by simp, ⟨HBK.out, HMX.out⟩⟩, HCH.out⟩
 · simp only [rdyR, if_true] at HR
   have hr : putR true mark i m s = 8 := by simp [putR]
   rw [hr] at H2 ⊢
   have H3 := hid (H2.out (by decide))
   clear hr H2
   go_enter Tryz.func56, Tryz.ntmps56
   go_wp2_with fail
   refine (HR.out).mono ?_; rintro x w' ⟨rfl, rfl⟩
   go_wp2
   go_ret
   exact ⟨rfl, H3.out⟩
end
end Go.Proofs.YtnibidmlkbcfkaaGreatDoor
