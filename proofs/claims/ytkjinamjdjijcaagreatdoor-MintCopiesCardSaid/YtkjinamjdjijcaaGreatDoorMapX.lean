/- A map that is known exactly: which keys it has, and what stands at each. Conditions: the keys read as keys. -/
import Derived.Test.YtkjinamjdjijcaaGreatDoorMem2
import Derived.Maps.OwnOps
namespace Go.Proofs.YtkjinamjdjijcaaGreatDoor
open Go.RowKit Go.Maps
open Go.ChangeMaps (setBlock heap_setBlock_same heap_setBlock_other)

/-- Block B is a map that holds just what f tells. -/
def MapX (P : Program) (k : TypeId) (w : World) (B : Nat) (f : Value → Option Value) : Prop :=
  ∃ es clock, w.heap[B]? = some (.map es clock) ∧ (∀ e ∈ es.toList, (∃ l, keyOf P k e.key = some l) ∧ f e.key = some e.val) ∧ (∀ key v, f key = some v → ∃ e ∈ es.toList, e.key = key) ∧ ∀ (i j : Nat) (x y : MapEntry), es[i]? = some x → es[j]? = some y → x.key = y.key → i = j
/-- f with v at a key. -/
def putX (f : Value → Option Value) (key v : Value) (g : Value → Option Value) : Prop := g key = some v ∧ ∀ x, x ≠ key → g x = f x
section
variable {P : Program} {k : TypeId} {w w' : World} {B : Nat} {f g : Value → Option Value}
theorem MapX.made (w : World) : MapX P k (w.alloc (.map #[] 0)) w.heap.size fun _ => none := ⟨#[], 0, (MapKept.heap_alloc w _).1, by simp, (fun _ _ h => by cases h), fun _ _ _ _ h => by simp at h⟩
theorem MapX.lt (h : MapX P k w B f) : B < w.heap.size := by
  obtain ⟨es, c, hb, _⟩ := h
  exact lt_of_block hb
theorem MapX.keep (h : MapX P k w B f) (hb : Below w.heap.size w w') : MapX P k w' B f := by
  have hlt := h.lt
  obtain ⟨es, c, h1, h2⟩ := h
  exact ⟨es, c, (hb.block B hlt).trans h1, h2⟩
theorem MapX.drew (h : MapX P k w B f) : MapX P k w.drew B f := h
theorem MapX.drewN (h : MapX P k w B f) (n : Nat) : MapX P k (w.drewN n) B f := h
theorem MapX.alloc (h : MapX P k w B f) (o : Obj) : MapX P k (w.alloc o) B f := h.keep ((Below.refl _ _).alloc (Nat.le_refl _) _)
theorem MapX.ne_blk (h : MapX P k w B f) {b : Nat} {t : TypeId} {cs : Array Value} (hb : Blk w b t cs) : b ≠ B := by
  rintro rfl
  obtain ⟨es, c, h1, _⟩ := h
  unfold Blk at hb
  rw [hb] at h1
  cases h1
theorem MapX.setCell (h : MapX P k w B f) {a : Addr} (ha : a.block ≠ B) (u : Value) : MapX P k (w.setCell a u) B f := by
  obtain ⟨es, c, h1, h2⟩ := h
  exact ⟨es, c, (Below.heap_setCell w a u B (Ne.symm ha)).trans h1, h2⟩
theorem MapX.grown {row : Option Nat} (h : MapX P k w B f) (hg : w.grownBy w' row) (hr : some B ≠ row) : MapX P k w' B f := by
  have hlt := h.lt
  obtain ⟨es, c, h1, h2⟩ := h
  exact ⟨es, c, (hg.block B hlt hr).trans h1, h2⟩
theorem MapX.congr (h : MapX P k w B f) (e : ∀ x, f x = g x) : MapX P k w B g := by
  obtain rfl : f = g := funext e
  exact h
/-- v, ok := m[key], where the key is there. -/
theorem MapX.look_in {t e : TypeId} (h : MapX P k w B f) (K : Keyed P k) (ht : P.underlying t = some (.map k e)) {key V : Value} {kl : Lit} (hkey : keyOf P k key = some kl) (hV : f key = some V) (n : Nat) (ok : Bool) :
    (Instr.lookup t (.map (some B)) key ok).run P (w.drewN n) = .ok (if ok then .tuple #[V, .bool true] else V) (w.drewN n) := by
  obtain ⟨es, c, hb, he, hex, _⟩ := h
  have hb' : (w.drewN n).heap[B]? = some (.map es c) := hb
  obtain ⟨x, hx, hxk⟩ := hex key V hV
  rcases K.find (w.drewN n) hkey es.toList (fun x hx => (he x hx).1) with ⟨_, g2⟩ | ⟨j, e0, g1, g2, g3⟩
  · exact absurd hxk (g2 x hx)
  · have hv : e0.val = V := by
      have := (he e0 (List.mem_of_getElem? g2)).2
      rw [g3, hV] at this
      exact (Option.some.inj this).symm
    cases ok <;> simp [Instr.lookup, run_underlying ht, MapKept.run_getObj_map hb', K.check (w.drewN n) es.isEmpty hkey, g1, hv, Result.andThen]
/-- v, ok := m[key], where it is not. -/
theorem MapX.look_out {t e : TypeId} (h : MapX P k w B f) (K : Keyed P k) (ht : P.underlying t = some (.map k e)) {z : Value} (hz : ∀ W : World, (zeroValue e).run P W = .ok z W) {key : Value} {kl : Lit} (hkey : keyOf P k key = some kl) (hV : f key = none) (n : Nat) (ok : Bool) :
    (Instr.lookup t (.map (some B)) key ok).run P (w.drewN n) = .ok (if ok then .tuple #[z, .bool false] else z) (w.drewN n) := by
  obtain ⟨es, c, hb, he, hex, _⟩ := h
  have hb' : (w.drewN n).heap[B]? = some (.map es c) := hb
  rcases K.find (w.drewN n) hkey es.toList (fun x hx => (he x hx).1) with ⟨g1, _⟩ | ⟨j, e0, _, g2, g3⟩
  · cases ok <;> simp [Instr.lookup, run_underlying ht, MapKept.run_getObj_map hb', K.check (w.drewN n) es.isEmpty hkey, g1, hz, Result.andThen]
  · have := (he e0 (List.mem_of_getElem? g2)).2
    rw [g3, hV] at this
    cases this
/-- m[key] = val. -/
theorem MapX.update {t e : TypeId} (h : MapX P k w B f) (K : Keyed P k) (ht : P.underlying t = some (.map k e)) {key val : Value} {kl : Lit} (hkey : keyOf P k key = some kl) (hg : putX f key val g) :
    ∃ w', (Instr.mapUpdate t (.map (some B)) key val).run P w = .ok () w' ∧ MapX P k w' B g ∧ w.grownBy w' (some B) := by
  obtain ⟨es, c, hb, he, hex, hun⟩ := h
  have hgrow : ∀ o, w.grownBy (setBlock w B o) (some B) := fun o => ⟨rfl, rfl, rfl, by simp [setBlock], fun i _ hi => heap_setBlock_other hb _ (fun e => hi (by rw [e]))⟩
  rcases K.find w hkey es.toList (fun x hx => (he x hx).1) with ⟨h1, h2⟩ | ⟨j, e0, h1, h2, h3⟩
  · refine ⟨setBlock w B (.map (es.push ⟨key, val, c⟩) (c + 1)), ?_, ⟨_, _, heap_setBlock_same hb _, fun x hx => ?_, fun key' v hv => ?_, fun i j x y hi hj he' => ?_⟩, hgrow _⟩
    · simp [Instr.mapUpdate, run_underlying ht, MapKept.run_getObj_map hb, K.check w false hkey, h1, MapKept.run_setObj_map _ hb, Result.andThen, setBlock]
    · simp only [Array.toList_push, List.mem_append, List.mem_singleton] at hx
      rcases hx with hx | rfl
      · exact ⟨(he x hx).1, by rw [hg.2 _ (h2 x hx)]; exact (he x hx).2⟩
      · exact ⟨⟨kl, hkey⟩, hg.1⟩
    · by_cases e : key' = key
      · subst e
        exact ⟨⟨key', val, c⟩, by simp, rfl⟩
      · rw [hg.2 _ e] at hv
        obtain ⟨x, hx, hk⟩ := hex key' v hv
        exact ⟨x, by simp [hx], hk⟩
    · rw [Array.getElem?_push] at hi hj
      by_cases e1 : i = es.size
      · by_cases e2 : j = es.size
        · rw [e1, e2]
        · rw [if_pos e1] at hi
          rw [if_neg e2] at hj
          simp at hi
          subst hi
          exact absurd he'.symm (h2 y (List.mem_of_getElem? (by simpa using hj)))
      · rw [if_neg e1] at hi
        by_cases e2 : j = es.size
        · rw [if_pos e2] at hj
          simp at hj
          subst hj
          exact absurd he' (h2 x (List.mem_of_getElem? (by simpa using hi)))
        · rw [if_neg e2] at hj
          exact hun i j x y hi hj he'
  · have hj : es[j]? = some e0 := by simpa using h2
    have hst := K.stays w hkey
    have hmod : ∀ i, (es.modify j fun e => { e with key := key, val := val })[i]? = if j = i then (es[i]?).map (fun e => { e with key := key, val := val }) else es[i]? := fun i => by rw [Array.getElem?_modify]
    have hat : ∀ {i : Nat} {x}, (es.modify j fun e => { e with key := key, val := val })[i]? = some x → (i = j ∧ x.key = key ∧ x.val = val) ∨ (i ≠ j ∧ es[i]? = some x) := fun {i x} hx => by
      rw [hmod] at hx
      by_cases e : j = i
      · subst e
        rw [if_pos rfl, hj] at hx
        simp at hx
        subst hx
        exact .inl ⟨rfl, rfl, rfl⟩
      · rw [if_neg e] at hx
        exact .inr ⟨fun k => e k.symm, hx⟩
    refine ⟨setBlock w B (.map (es.modify j fun e => { e with key := key, val := val }) c), ?_, ⟨_, _, heap_setBlock_same hb _, fun x hx => ?_, fun key' v hv => ?_, fun i j' x y hi hj' he' => ?_⟩, hgrow _⟩
    · simp [Instr.mapUpdate, run_underlying ht, MapKept.run_getObj_map hb, K.check w false hkey, h1, hj, h3, hst, MapKept.run_setObj_map _ hb, Result.andThen, setBlock]
    · obtain ⟨i, hi⟩ := List.getElem?_of_mem hx
      rcases hat (by rw [← Array.getElem?_toList]; exact hi) with ⟨_, e1, e2⟩ | ⟨hne, hi2⟩
      · rw [e1, e2]; exact ⟨⟨kl, hkey⟩, hg.1⟩
      · have hm : x ∈ es.toList := List.mem_of_getElem? (by simpa using hi2)
        have hk : x.key ≠ key := fun e => hne (hun i j x e0 hi2 hj (by rw [e, h3]))
        exact ⟨(he x hm).1, by rw [hg.2 _ hk]; exact (he x hm).2⟩
    · have hmj : (es.modify j fun e => { e with key := key, val := val })[j]? = some { e0 with key := key, val := val } := by rw [hmod, if_pos rfl, hj]; rfl
      by_cases e : key' = key
      · exact ⟨_, List.mem_of_getElem? (by rw [Array.getElem?_toList]; exact hmj), e.symm⟩
      · rw [hg.2 _ e] at hv
        obtain ⟨x, hx, hk⟩ := hex key' v hv
        obtain ⟨i, hi⟩ := List.getElem?_of_mem hx
        have hi : es[i]? = some x := by simpa using hi
        have hne : ¬ j = i := fun e' => by
          subst e'
          rw [hj] at hi
          have := Option.some.inj hi
          exact e (by rw [← hk, ← this, h3])
        exact ⟨x, List.mem_of_getElem? (i := i) (by rw [Array.getElem?_toList, hmod, if_neg hne]; exact hi), hk⟩
    · rcases hat hi with ⟨a1, a2, _⟩ | ⟨a1, a2⟩
      · rcases hat hj' with ⟨b1, b2, _⟩ | ⟨b1, b2⟩
        · rw [a1, b1]
        · exact absurd (hun j' j y e0 b2 hj (by rw [← he', a2, h3])) b1
      · rcases hat hj' with ⟨b1, b2, _⟩ | ⟨b1, b2⟩
        · exact absurd (hun i j x e0 a2 hj (by rw [he', b2, h3])) a1
        · exact hun i j' x y a2 b2 he'
end
end Go.Proofs.YtkjinamjdjijcaaGreatDoor
