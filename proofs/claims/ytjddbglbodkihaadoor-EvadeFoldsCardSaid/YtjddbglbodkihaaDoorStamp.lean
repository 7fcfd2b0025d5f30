/- A map that the call made and fills, by 'm[k] = v' alone or among other assignments: each entry is right, and which keys it has. Conditions: the keys read as keys. -/
import Derived.Test.YtjddbglbodkihaaDoorMem2
import Derived.Maps.OwnOps
import Derived.WideKeyEntry
namespace Go.Proofs.YtjddbglbodkihaaDoor
open Go.RowKit Go.Maps Go.MapKept
open Go.ChangeMaps (setBlock heap_setBlock_same heap_setBlock_other modify_eq_set)

def MemoS (P : Program) (k : TypeId) (w : World) (B : Nat) (OK : Value → Value → Prop) : Prop :=
  ∃ es clock, w.heap[B]? = some (.map es clock) ∧ Stamped es clock ∧ ∀ e ∈ es.toList, (∃ l, keyOf P k e.key = some l) ∧ OK e.key e.val
def Has (w : World) (B : Nat) (key : Value) : Prop := ∃ es clock, w.heap[B]? = some (.map es clock) ∧ ∃ e ∈ es.toList, e.key = key

section
variable {P : Program} {k : TypeId} {w w' : World} {B : Nat} {OK : Value → Value → Prop}
theorem set_grown {es : Array MapEntry} {c : Nat} (hb : w.heap[B]? = some (.map es c)) (o : Obj) : w.grownBy (setBlock w B o) (some B) :=
  ⟨rfl, rfl, rfl, by simp [setBlock], fun i _ hi => heap_setBlock_other hb _ (fun e => hi (by rw [e]))⟩
theorem MemoS.made (w : World) : MemoS P k (w.alloc (.map #[] 0)) w.heap.size OK := ⟨#[], 0, (MapKept.heap_alloc w _).1, stamped_empty 0, by simp⟩
theorem not_has_made (w : World) (key : Value) : ¬ Has (w.alloc (.map #[] 0)) w.heap.size key := by
  rintro ⟨es, c, h, e, he, _⟩
  rw [(MapKept.heap_alloc w _).1] at h
  simp at h
  obtain ⟨rfl, _⟩ := h
  simp at he
theorem MemoS.imp {OK' : Value → Value → Prop} (h : MemoS P k w B OK) (H : ∀ x v, OK x v → OK' x v) : MemoS P k w B OK' := by
  obtain ⟨es, c, h1, h2, h3⟩ := h
  exact ⟨es, c, h1, h2, fun e he => ⟨(h3 e he).1, H _ _ (h3 e he).2⟩⟩
theorem MemoS.weak (key : Value) (h : MemoS P k w B OK) : MemoS P k w B (fun x v => x ≠ key → OK x v) := h.imp fun _ _ h _ => h
theorem MemoS.lt (h : MemoS P k w B OK) : B < w.heap.size := by
  obtain ⟨es, c, hb, _⟩ := h
  exact lt_of_block hb
theorem MemoS.same (h : MemoS P k w B OK) (he : w'.heap[B]? = w.heap[B]?) : MemoS P k w' B OK := by
  obtain ⟨es, c, h1, h2⟩ := h
  exact ⟨es, c, he.trans h1, h2⟩
theorem has_same {key : Value} (he : w'.heap[B]? = w.heap[B]?) : Has w' B key ↔ Has w B key := by unfold Has; rw [he]
theorem MemoS.ne_blk (h : MemoS P k w B OK) {b : Nat} {t : TypeId} {cs : Array Value} (hb : Blk w b t cs) : b ≠ B := by
  rintro rfl
  obtain ⟨es, c, h1, _⟩ := h
  unfold Blk at hb
  rw [hb] at h1
  cases h1

/-- v, ok := m[key]: the right value, or none; whatever has been drawn. -/
theorem MemoS.look {t e : TypeId} (h : MemoS P k w B OK) (K : Keyed P k) (ht : P.underlying t = some (.map k e)) {z : Value} (hz : ∀ W : World, (zeroValue e).run P W = .ok z W) {key : Value} {kl : Lit} (hkey : keyOf P k key = some kl) (V : Value) (hV : ∀ v, OK key v → v = V) :
    (Has w B key ∧ ∀ c n, (Instr.lookup t (.map (some B)) key c).run P (w.drewN n) = .ok (if c then .tuple #[V, .bool true] else V) (w.drewN n)) ∨
    (¬ Has w B key ∧ ∀ n, (Instr.lookup t (.map (some B)) key true).run P (w.drewN n) = .ok (.tuple #[z, .bool false]) (w.drewN n)) := by
  obtain ⟨es, c, hb, _, he⟩ := h
  have hb' : ∀ n, (w.drewN n).heap[B]? = some (.map es c) := fun _ => hb
  by_cases hex : ∃ x ∈ es.toList, x.key = key
  · left
    refine ⟨⟨es, c, hb, hex⟩, fun cm n => ?_⟩
    obtain ⟨x, hx, hxk⟩ := hex
    rcases K.find (w.drewN n) hkey es.toList (fun x hx => (he x hx).1) with ⟨_, g2⟩ | ⟨j, e0, g1, g2, g3⟩
    · exact absurd hxk (g2 x hx)
    · have hv : e0.val = V := hV _ (by rw [← g3]; exact (he e0 (List.mem_of_getElem? g2)).2)
      cases cm <;> simp [Instr.lookup, run_underlying ht, MapKept.run_getObj_map (hb' n), K.check (w.drewN n) es.isEmpty hkey, g1, hv, Result.andThen]
  · right
    refine ⟨?_, fun n => ?_⟩
    · rintro ⟨es', c', hb2, hx⟩
      rw [hb] at hb2
      simp at hb2
      obtain ⟨rfl, _⟩ := hb2
      exact hex hx
    · rcases K.find (w.drewN n) hkey es.toList (fun x hx => (he x hx).1) with ⟨g1, _⟩ | ⟨j, e0, _, g2, g3⟩
      · simp [Instr.lookup, run_underlying ht, MapKept.run_getObj_map (hb' n), K.check (w.drewN n) es.isEmpty hkey, g1, hz, Result.andThen]
      · exact absurd ⟨e0, List.mem_of_getElem? g2, g3⟩ hex

/-- What a map with one entry more, or one entry changed, is. -/
structure Put1 (P : Program) (k : TypeId) (w w' : World) (B : Nat) (OK : Value → Value → Prop) (key : Value) : Prop where
  memo : MemoS P k w' B OK
  grown : w.grownBy w' (some B)
  size : w'.heap.size = w.heap.size
  has : Has w' B key
  old : ∀ x, Has w B x → Has w' B x
  new : ∀ x, Has w' B x → Has w B x ∨ x = key
theorem put_push {es : Array MapEntry} {c : Nat} (hb : w.heap[B]? = some (.map es c)) (hs : Stamped es c) {key val : Value} (he : ∀ e ∈ es.toList, (∃ l, keyOf P k e.key = some l) ∧ (e.key ≠ key → OK e.key e.val)) {kl : Lit} (hkey : keyOf P k key = some kl) (hv : OK key val) (h2 : ∀ x ∈ es.toList, x.key ≠ key)
    (hb2 : w'.heap[B]? = some (.map (es.push ⟨key, val, c⟩) (c + 1))) (hg : w.grownBy w' (some B)) (hsz : w'.heap.size = w.heap.size) :
    Put1 P k w w' B OK key := by
  refine ⟨⟨_, _, hb2, stamped_push hs h2, fun x hx => ?_⟩, hg, hsz, ⟨_, _, hb2, ⟨key, val, c⟩, by simp, rfl⟩, ?_, ?_⟩
  · simp only [Array.toList_push, List.mem_append, List.mem_singleton] at hx
    rcases hx with hx | rfl
    · exact ⟨(he x hx).1, (he x hx).2 (h2 x hx)⟩
    · exact ⟨⟨kl, hkey⟩, hv⟩
  · rintro x ⟨es', c', h1, e, hx, hk⟩
    rw [hb] at h1; simp at h1; obtain ⟨rfl, _⟩ := h1
    exact ⟨_, _, hb2, e, by simp only [Array.toList_push, List.mem_append]; exact .inl hx, hk⟩
  · rintro x ⟨es', c', h1, e, hx, hk⟩
    rw [hb2] at h1; simp at h1; obtain ⟨rfl, _⟩ := h1
    simp only [Array.toList_push, List.mem_append, List.mem_singleton] at hx
    rcases hx with hx | rfl
    · exact .inl ⟨es, c, hb, e, hx, hk⟩
    · exact .inr hk.symm
theorem put_modify {es : Array MapEntry} {c j : Nat} {e0 : MapEntry} (hb : w.heap[B]? = some (.map es c)) (hs : Stamped es c) {key val : Value} (he : ∀ e ∈ es.toList, (∃ l, keyOf P k e.key = some l) ∧ (e.key ≠ key → OK e.key e.val)) (hv : OK key val) (h2 : es.toList[j]? = some e0) (h3 : e0.key = key) (f : MapEntry → MapEntry) (hf : ∀ e, (f e).val = val ∧ (f e).born = e.born) (hfk : (f e0).key = key)
    (hb2 : w'.heap[B]? = some (.map (es.modify j f) c)) (hg : w.grownBy w' (some B)) (hsz : w'.heap.size = w.heap.size) :
    Put1 P k w w' B OK key := by
  have hj : es[j]? = some e0 := by simpa using h2
  have hmem := List.mem_of_getElem? h2
  have get : ∀ x ∈ (es.modify j f).toList, (x ∈ es.toList ∧ x.key ≠ key) ∨ x = f e0 := by
    intro x hx
    obtain ⟨i, hi⟩ := List.getElem?_of_mem hx
    have hi' : (es.modify j f)[i]? = some x := by rw [← Array.getElem?_toList]; exact hi
    rw [Array.getElem?_modify] at hi'
    by_cases e : j = i
    · subst e
      rw [if_pos rfl, hj] at hi'
      simp at hi'
      exact .inr hi'.symm
    · rw [if_neg e] at hi'
      have hi2 : es.toList[i]? = some x := by simpa using hi'
      refine .inl ⟨List.mem_of_getElem? hi2, fun hk => e ?_⟩
      have hl : j < (es.toList.map (·.key)).length := by have := (List.getElem?_eq_some_iff.1 h2).1; simpa using this
      refine (List.getElem?_inj hl hs.2.2).1 ?_
      rw [List.getElem?_map, List.getElem?_map, h2, hi2]
      simp [h3, hk]
  have here : f e0 ∈ (es.modify j f).toList := by
    have : (es.modify j f)[j]? = some (f e0) := by rw [Array.getElem?_modify, if_pos rfl, hj]; rfl
    exact List.mem_of_getElem? (by rw [Array.getElem?_toList]; exact this)
  refine ⟨⟨_, _, hb2, stamped_modify hs j f (fun e _ => (hf e).2) (fun e _ h => by rw [hj] at h; cases h; rw [hfk, h3]), fun x hx => ?_⟩, hg, hsz, ⟨_, _, hb2, f e0, here, hfk⟩, ?_, ?_⟩
  · rcases get x hx with h | rfl
    · exact ⟨(he x h.1).1, (he x h.1).2 h.2⟩
    · rw [hfk, (hf e0).1]; exact ⟨by rw [← h3]; exact (he e0 hmem).1, hv⟩
  · rintro x ⟨es', c', h1, e, hx, hk⟩
    rw [hb] at h1; simp at h1; obtain ⟨rfl, _⟩ := h1
    obtain ⟨i, hi⟩ := List.getElem?_of_mem hx
    by_cases e1 : j = i
    · subst e1
      rw [h2] at hi; cases hi
      exact ⟨_, _, hb2, f e0, here, by rw [hfk, ← h3, hk]⟩
    · refine ⟨_, _, hb2, e, ?_, hk⟩
      have : (es.modify j f)[i]? = some e := by rw [Array.getElem?_modify, if_neg e1]; simpa using hi
      exact List.mem_of_getElem? (by rw [Array.getElem?_toList]; exact this)
  · rintro x ⟨es', c', h1, e, hx, hk⟩
    rw [hb2] at h1; simp at h1; obtain ⟨rfl, _⟩ := h1
    rcases get e hx with h | rfl
    · exact .inl ⟨es, c, hb, e, h.1, hk⟩
    · exact .inr (by rw [← hk, hfk])

/-- m[key] = val. -/
theorem MemoS.update {t e : TypeId} {key val : Value} (h : MemoS P k w B (fun x v => x ≠ key → OK x v)) (K : Keyed P k) (ht : P.underlying t = some (.map k e)) {kl : Lit} (hkey : keyOf P k key = some kl) (hv : OK key val) :
    ∃ w', (Instr.mapUpdate t (.map (some B)) key val).run P w = .ok () w' ∧ Put1 P k w w' B OK key := by
  obtain ⟨es, c, hb, hs, he⟩ := h
  rcases K.find w hkey es.toList (fun x hx => (he x hx).1) with ⟨h1, h2⟩ | ⟨j, e0, h1, h2, h3⟩
  · refine ⟨_, ?_, put_push hb hs he hkey hv h2 (heap_setBlock_same hb _) (set_grown hb _) (by simp [setBlock])⟩
    simp [Instr.mapUpdate, run_underlying ht, MapKept.run_getObj_map hb, K.check w false hkey, h1, MapKept.run_setObj_map _ hb, Result.andThen, setBlock]
  · have hj : es[j]? = some e0 := by simpa using h2
    have hst := K.stays w hkey
    refine ⟨_, ?_, put_modify hb hs he hv h2 h3 (fun e => { e with key := key, val := val }) (fun _ => ⟨rfl, rfl⟩) rfl (heap_setBlock_same hb _) (set_grown hb _) (by simp [setBlock])⟩
    simp [Instr.mapUpdate, run_underlying ht, MapKept.run_getObj_map hb, K.check w false hkey, h1, hj, h3, hst, MapKept.run_setObj_map _ hb, Result.andThen, setBlock]

theorem born_here {es : Array MapEntry} {c : Nat} (hs : Stamped es c) {j : Nat} {e0 : MapEntry} (h2 : es.toList[j]? = some e0) : es.findIdx? (fun e => ((e.born : Nat) : Int) == ((e0.born : Nat) : Int)) = some j := by
  obtain ⟨s1, s2, s3⟩ := hs
  rw [WideElems.findIdx_arr]
  exact WideElems.findIdx_born s2 h2
theorem run_store {es : Array MapEntry} {c st j : Nat} {t : TypeId} (hb : w.heap[B]? = some (.map es c)) (hidx : es.findIdx? (fun e => ((e.born : Nat) : Int) == ((st : Nat) : Int)) = some j) (val : Value) :
    (Instr.entryStore t (.map (some B)) (.int .i64 st) val).run P w = .ok () (setBlock w B (.map (es.modify j fun e => { e with val := val }) c)) := by
  simp [Instr.entryStore, MapKept.run_getObj_map hb, asInt, asIntOf, hidx, MapKept.run_setObj_map _ hb, Result.andThen, setBlock]
/-- m[key] = val among other assignments: the entry first, the store last; whatever is drawn between. -/
theorem MemoS.entry {t e : TypeId} {key val : Value} (h : MemoS P k w B (fun x v => x ≠ key → OK x v)) (K : Keyed P k) (ht : P.underlying t = some (.map k e)) {z : Value} (hz : ∀ W : World, (zeroValue e).run P W = .ok z W) {kl : Lit} (hkey : keyOf P k key = some kl) (hv : OK key val) :
    ∃ (v : Value) (st : Nat) (w2 : World), (∀ n, (Instr.mapEntry t (.map (some B)) key).run P (w.drewN n) = .ok (.tuple #[v, .int .i64 st]) (w2.drewN n)) ∧
      ∃ w3 : World, (∀ n, (Instr.entryStore t (.map (some B)) (.int .i64 st) val).run P (w2.drewN n) = .ok () (w3.drewN n)) ∧ Put1 P k w w3 B OK key := by
  obtain ⟨es, c, hb, hs, he⟩ := h
  have hb' : ∀ n, (w.drewN n).heap[B]? = some (.map es c) := fun _ => hb
  have two : ∀ (o1 o2 : Obj) (W : World), w.heap[B]? = some (.map es c) → w.grownBy (setBlock (setBlock w B o1) B o2) (some B) := fun o1 o2 _ hb =>
    ⟨rfl, rfl, rfl, by simp [setBlock], fun i _ hi => by
      have h1 : i ≠ B := fun e => hi (by rw [e])
      simp only [setBlock]
      rw [Array.getElem?_setIfInBounds, if_neg (Ne.symm h1), Array.getElem?_setIfInBounds, if_neg (Ne.symm h1)]⟩
  rcases K.find w hkey es.toList (fun x hx => (he x hx).1) with ⟨h1, h2⟩ | ⟨j, e0, h1, h2, h3⟩
  · have hb2 := heap_setBlock_same hb (.map (es.push ⟨key, z, c⟩) (c + 1))
    have hb2' : ∀ n, ((setBlock w B (.map (es.push ⟨key, z, c⟩) (c + 1))).drewN n).heap[B]? = some (.map (es.push ⟨key, z, c⟩) (c + 1)) := fun _ => hb2
    have hl2 : (es.push ⟨key, z, c⟩).toList[es.size]? = some ⟨key, z, c⟩ := by simp
    have hidx := born_here (stamped_push hs h2 (val := z)) hl2
    have hmod : (es.push ⟨key, z, c⟩).modify es.size (fun e => { e with val := val }) = es.push ⟨key, val, c⟩ := by
      apply Array.ext'
      rw [Array.toList_modify, Array.toList_push, Array.toList_push, ← Array.length_toList, WideElems.modify_last]
    refine ⟨z, c, setBlock w B (.map (es.push ⟨key, z, c⟩) (c + 1)), fun n => ?_, setBlock (setBlock w B (.map (es.push ⟨key, z, c⟩) (c + 1))) B (.map (es.push ⟨key, val, c⟩) (c + 1)), fun n => ?_, ?_⟩
    · rcases K.find (w.drewN n) hkey es.toList (fun x hx => (he x hx).1) with ⟨g1, _⟩ | ⟨j, e0, _, g2, g3⟩
      · simp [Instr.mapEntry, run_underlying ht, MapKept.run_getObj_map (hb' n), K.check (w.drewN n) false hkey, g1, hz, MapKept.run_setObj_map _ (hb' n), Result.andThen, setBlock, goInt]
        rfl
      · exact absurd g3 (h2 _ (List.mem_of_getElem? g2))
    · refine (run_store (hb2' n) hidx val).trans ?_
      rw [hmod]
      rfl
    · exact put_push hb hs he hkey hv h2 (heap_setBlock_same hb2 _) (two _ _ w hb) (by simp [setBlock])
  · have hj : es[j]? = some e0 := by simpa using h2
    have hsame : es.modify j (fun e => { e with key := key }) = es := by
      apply Array.ext'
      rw [Array.toList_modify, modify_eq_set _ _ _ _ h2]
      have : ({ e0 with key := key } : MapEntry) = e0 := by rw [← h3]
      rw [this]
      exact WideElems.set_self _ _ _ h2
    have hb2 := heap_setBlock_same hb (.map es c)
    have hb2' : ∀ n, ((setBlock w B (.map es c)).drewN n).heap[B]? = some (.map es c) := fun _ => hb2
    have hidx := born_here hs h2
    refine ⟨e0.val, e0.born, setBlock w B (.map es c), fun n => ?_, setBlock (setBlock w B (.map es c)) B (.map (es.modify j fun e => { e with val := val }) c), fun n => ?_, ?_⟩
    · rcases K.find (w.drewN n) hkey es.toList (fun x hx => (he x hx).1) with ⟨_, g2⟩ | ⟨j', e0', g1, g2, g3⟩
      · exact absurd h3 (g2 _ (List.mem_of_getElem? h2))
      · have hjj : j' = j := by
          have hl : j' < (es.toList.map (·.key)).length := by have := (List.getElem?_eq_some_iff.1 g2).1; simpa using this
          refine (List.getElem?_inj hl hs.2.2).1 ?_
          rw [List.getElem?_map, List.getElem?_map, g2, h2]
          simp [g3, h3]
        subst hjj
        rw [h2] at g2
        cases g2
        simp [Instr.mapEntry, run_underlying ht, MapKept.run_getObj_map (hb' n), K.check (w.drewN n) false hkey, g1, hj, h3, K.stays (w.drewN n) hkey, hsame, MapKept.run_setObj_map _ (hb' n), Result.andThen, setBlock, goInt]
        rfl
    · exact (run_store (hb2' n) hidx val).trans rfl
    · exact put_modify hb hs he hv h2 h3 (fun e => { e with val := val }) (fun _ => ⟨rfl, rfl⟩) h3 (heap_setBlock_same hb2 _) (two _ _ w hb) (by simp [setBlock])
end
end Go.Proofs.YtjddbglbodkihaaDoor
