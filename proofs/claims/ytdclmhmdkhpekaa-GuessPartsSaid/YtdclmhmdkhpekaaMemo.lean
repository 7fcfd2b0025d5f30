/- A map that the call made and fills: only that each entry is right is known of it. Conditions: the keys read as keys. -/
import Derived.Test.YtdclmhmdkhpekaaMem2
import Derived.Maps.OwnOps
namespace Go.Proofs.Ytdclmhmdkhpekaa
open Go.RowKit Go.Maps
open Go.ChangeMaps (setBlock heap_setBlock_same heap_setBlock_other)

/-- Block B is a map; of each entry OK is true. -/
def Memo (P : Program) (k : TypeId) (w : World) (B : Nat) (OK : Value → Value → Prop) : Prop :=
  ∃ es clock, w.heap[B]? = some (.map es clock) ∧ ∀ e ∈ es.toList, (∃ l, keyOf P k e.key = some l) ∧ OK e.key e.val

section
variable {P : Program} {k : TypeId} {w w' : World} {B : Nat} {OK : Value → Value → Prop}
theorem Memo.made (w : World) : Memo P k (w.alloc (.map #[] 0)) w.heap.size OK := ⟨#[], 0, (MapKept.heap_alloc w _).1, by simp⟩
theorem Memo.lt (h : Memo P k w B OK) : B < w.heap.size := by
  obtain ⟨es, c, hb, _⟩ := h
  exact lt_of_block hb
theorem Memo.keep (h : Memo P k w B OK) (hb : Below w.heap.size w w') : Memo P k w' B OK := by
  have hlt := h.lt
  obtain ⟨es, c, h1, h2⟩ := h
  exact ⟨es, c, (hb.block B hlt).trans h1, h2⟩
theorem Memo.drew (h : Memo P k w B OK) : Memo P k w.drew B OK := h
theorem Memo.drewN (h : Memo P k w B OK) (n : Nat) : Memo P k (w.drewN n) B OK := h
theorem Memo.alloc (h : Memo P k w B OK) (o : Obj) : Memo P k (w.alloc o) B OK := h.keep ((Below.refl _ _).alloc (Nat.le_refl _) _)
theorem Memo.ne_blk (h : Memo P k w B OK) {b : Nat} {t : TypeId} {cs : Array Value} (hb : Blk w b t cs) : b ≠ B := by
  rintro rfl
  obtain ⟨es, c, h1, _⟩ := h
  unfold Blk at hb
  rw [hb] at h1
  cases h1
theorem Memo.ne_cell (h : Memo P k w B OK) {a : Addr} {v : Value} (hc : w.cell? a = some v) : a.block ≠ B := by
  intro e
  obtain ⟨es, c, h1, _⟩ := h
  rw [← e] at h1
  simp [World.cell?, h1] at hc
theorem Memo.setCell (h : Memo P k w B OK) {a : Addr} (ha : a.block ≠ B) (u : Value) : Memo P k (w.setCell a u) B OK := by
  obtain ⟨es, c, h1, h2⟩ := h
  exact ⟨es, c, (Below.heap_setCell w a u B (Ne.symm ha)).trans h1, h2⟩
theorem Memo.grown {row : Option Nat} (h : Memo P k w B OK) (hg : w.grownBy w' row) (hr : some B ≠ row) : Memo P k w' B OK := by
  have hlt := h.lt
  obtain ⟨es, c, h1, h2⟩ := h
  exact ⟨es, c, (hg.block B hlt hr).trans h1, h2⟩

/-- v, ok := m[key]: the right value, or none; whatever has been drawn. -/
theorem Memo.look {t e : TypeId} (h : Memo P k w B OK) (K : Keyed P k) (ht : P.underlying t = some (.map k e)) {z : Value} (hz : ∀ W : World, (zeroValue e).run P W = .ok z W) {key : Value} {kl : Lit} (hkey : keyOf P k key = some kl) (V : Value) (hV : ∀ v, OK key v → v = V) :
    (∀ n, (Instr.lookup t (.map (some B)) key true).run P (w.drewN n) = .ok (.tuple #[V, .bool true]) (w.drewN n)) ∨
    (∀ n, (Instr.lookup t (.map (some B)) key true).run P (w.drewN n) = .ok (.tuple #[z, .bool false]) (w.drewN n)) := by
  obtain ⟨es, c, hb, he⟩ := h
  have hb' : ∀ n, (w.drewN n).heap[B]? = some (.map es c) := fun _ => hb
  by_cases hex : ∃ x ∈ es.toList, x.key = key
  · left
    intro n
    obtain ⟨x, hx, hxk⟩ := hex
    rcases K.find (w.drewN n) hkey es.toList (fun x hx => (he x hx).1) with ⟨_, g2⟩ | ⟨j, e0, g1, g2, g3⟩
    · exact absurd hxk (g2 x hx)
    · have hv : e0.val = V := hV _ (by rw [← g3]; exact (he e0 (List.mem_of_getElem? g2)).2)
      simp [Instr.lookup, run_underlying ht, MapKept.run_getObj_map (hb' n), K.check (w.drewN n) es.isEmpty hkey, g1, hv, Result.andThen]
  · right
    intro n
    rcases K.find (w.drewN n) hkey es.toList (fun x hx => (he x hx).1) with ⟨g1, _⟩ | ⟨j, e0, _, g2, g3⟩
    · simp [Instr.lookup, run_underlying ht, MapKept.run_getObj_map (hb' n), K.check (w.drewN n) es.isEmpty hkey, g1, hz, Result.andThen]
    · exact absurd ⟨e0, List.mem_of_getElem? g2, g3⟩ hex

/-- m[key] = val. -/
theorem Memo.update {t e : TypeId} (h : Memo P k w B OK) (K : Keyed P k) (ht : P.underlying t = some (.map k e)) {key val : Value} {kl : Lit} (hkey : keyOf P k key = some kl) (hv : OK key val) :
    ∃ w', (Instr.mapUpdate t (.map (some B)) key val).run P w = .ok () w' ∧ Memo P k w' B OK ∧ w.grownBy w' (some B) := by
  obtain ⟨es, c, hb, he⟩ := h
  have hgrow : ∀ o, w.grownBy (setBlock w B o) (some B) := fun o => ⟨rfl, rfl, rfl, by simp [setBlock], fun i _ hi => heap_setBlock_other hb _ (fun e => hi (by rw [e]))⟩
  rcases K.find w hkey es.toList (fun x hx => (he x hx).1) with ⟨h1, h2⟩ | ⟨j, e0, h1, h2, h3⟩
  · refine ⟨setBlock w B (.map (es.push ⟨key, val, c⟩) (c + 1)), ?_, ⟨_, _, heap_setBlock_same hb _, fun x hx => ?_⟩, hgrow _⟩
    · simp [Instr.mapUpdate, run_underlying ht, MapKept.run_getObj_map hb, K.check w false hkey, h1, MapKept.run_setObj_map _ hb, Result.andThen, setBlock]
    · simp only [Array.toList_push, List.mem_append, List.mem_singleton] at hx
      rcases hx with hx | rfl
      · exact he x hx
      · exact ⟨⟨kl, hkey⟩, hv⟩
  · have hj : es[j]? = some e0 := by simpa using h2
    have hst := K.stays w hkey
    refine ⟨setBlock w B (.map (es.modify j fun e => { e with key := key, val := val }) c), ?_, ⟨_, _, heap_setBlock_same hb _, fun x hx => ?_⟩, hgrow _⟩
    · simp [Instr.mapUpdate, run_underlying ht, MapKept.run_getObj_map hb, K.check w false hkey, h1, hj, h3, hst, MapKept.run_setObj_map _ hb, Result.andThen, setBlock]
    · obtain ⟨i, hi⟩ := List.getElem?_of_mem hx
      have hi' : (es.modify j fun e => { e with key := key, val := val })[i]? = some x := by rw [← Array.getElem?_toList]; exact hi
      rw [Array.getElem?_modify] at hi'
      by_cases e : j = i
      · subst e
        rw [if_pos rfl, hj] at hi'
        simp at hi'
        subst hi'
        exact ⟨⟨kl, hkey⟩, hv⟩
      · rw [if_neg e] at hi'
        exact he x (List.mem_of_getElem? (by simpa using hi'))
end
end Go.Proofs.Ytdclmhmdkhpekaa
