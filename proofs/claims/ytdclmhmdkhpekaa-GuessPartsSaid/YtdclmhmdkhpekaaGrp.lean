/- A map that the call made, of lists by pairs of numbers: filled one by one ('m[k] = append(m[k], v)'), and ranged over in an order that nobody knows. No condition. -/
import Derived.Test.YtdclmhmdkhpekaaMemo
import Derived.Test.YtdclmhmdkhpekaaLib
import Derived.Test.YtdclmhmdkhpekaaPegsL
import Derived.WideKeyEntry
import Derived.Maps.RangeRun
import Derived.DeepKeys4
namespace Go.Proofs.Ytdclmhmdkhpekaa
open Go.RowKit Go.Maps Go.MapKept
open Go.ChangeMaps (setBlock heap_setBlock_same heap_setBlock_other modify_eq_set)

theorem laidOutG : laidOutB Try.prog = true := by kernel_rfl
theorem L72 : WideMaps.KeyLaw Try.prog 72 := deep_law_laid laidOutG (m := 4) (by omega) (of_decide_eq_true (by kernel_rfl)) (by kernel_rfl) (by rw [Try.underlying72])
theorem K72 : Keyed Try.prog 72 := Keyed.of_law L72
theorem M108 : Try.prog.underlying 108 = some (.map 72 34) := Try.underlying108
def mV (m : Int × Int) : Value := .agg #[.int .i64 m.1, .int .i64 m.2]
def Small (m : Int × Int) : Prop := (-1000 ≤ m.1 ∧ m.1 ≤ 1000) ∧ -1000 ≤ m.2 ∧ m.2 ≤ 1000
theorem mV_inj {m m' : Int × Int} (h : mV m = mV m') : m = m' := by
  unfold mV at h
  simp only [Value.agg.injEq, Array.mk.injEq, List.cons.injEq, Value.int.injEq, true_and, and_true] at h
  exact Prod.ext h.1 h.2
theorem wfG {n : Int} (h : -9223372036854775808 ≤ n ∧ n ≤ 9223372036854775807) : (Lit.int .i64 n).wf = true := by
  have hmin : IntKind.i64.min = -9223372036854775808 := rfl
  have hmax : IntKind.i64.max = 9223372036854775807 := rfl
  simp only [Lit.wf, Bool.and_eq_true, decide_eq_true_eq]
  omega
theorem mV_key {m : Int × Int} (h : Small m) : ∃ l, keyOf Try.prog 72 (mV m) = some l := by
  have hk : Try.prog.keyType 72 = true := by kernel_rfl
  have c72 : Try.prog.cellsOf 72 = 2 := by kernel_rfl
  have c3 : Try.prog.cellsOf 3 = 1 := by kernel_rfl
  have hsz : 3 ≤ Try.prog.types.size := of_decide_eq_true (by kernel_rfl)
  obtain ⟨q, hm⟩ := Nat.exists_eq_add_of_le hsz
  have e : Try.prog.types.size + 1 = q + 1 + 1 + 1 + 1 := by omega
  have w0 := wfG (n := m.1) (by have := h.1; omega)
  have w1 := wfG (n := m.2) (by have := h.2; omega)
  have h : (keyOf Try.prog 72 (mV m)).isSome = true := by
    unfold mV keyOf
    rw [e]
    simp [hk, Value.formed, Try.underlying72, c72, c3, Value.cells, Program.keyLits, Try.underlying3, w0, w1]
  exact Option.isSome_iff_exists.1 h

/-- What is known of the entries. -/
structure Ents (w : World) (base : Nat) (es : List MapEntry) (G : Int × Int → List Int) : Prop where
  each : ∀ x ∈ es, ∃ m, x.key = mV m ∧ Small m ∧ G m ≠ [] ∧ w.ownsRow base 3 1 x.val (G m).length ((G m).map (Value.int .i64))
  apart : es.Pairwise fun x y => x.val.ownBlock ≠ y.val.ownBlock
  all : ∀ m, G m ≠ [] → ∃ x ∈ es, x.key = mV m
def Grp (w : World) (B base : Nat) (G : Int × Int → List Int) : Prop :=
  ∃ es clock, w.heap[B]? = some (.map es clock) ∧ Stamped es clock ∧ Ents w base es.toList G
theorem own_some {w : World} {base n : Nat} {v : Value} {l : List Int} (h : w.ownsRow base 3 1 v n (l.map (Value.int .i64))) (hl : l ≠ []) : ∃ g, v.ownBlock = some g ∧ base ≤ g ∧ g < w.heap.size := by
  rcases h.2 with ⟨rfl, rfl⟩ | ⟨g, cap, cur, rfl, hb, hg, _⟩
  · have := h.1
    simp at this
    exact absurd this hl
  · exact ⟨g, rfl, hb, lt_of_block hg⟩
theorem Ents.keep {w w' : World} {base : Nat} {es : List MapEntry} {G : Int × Int → List Int} {row : Option Nat} (h : Ents w base es G) (hg : w.grownBy w' row) (hr : ∀ j, row = some j → j < base) : Ents w' base es G :=
  ⟨fun x hx => by
    obtain ⟨m, h1, h2, h3, h4⟩ := h.each x hx
    refine ⟨m, h1, h2, h3, h4.kept hg ?_⟩
    obtain ⟨g, e, hb, _⟩ := own_some h4 h3
    right
    rw [e]
    intro e2
    have := hr g e2.symm
    omega, h.apart, h.all⟩
theorem Grp.made (w : World) {base : Nat} : Grp (w.alloc (.map #[] 0)) w.heap.size base fun _ => [] :=
  ⟨#[], 0, (MapKept.heap_alloc w _).1, stamped_empty 0, ⟨by simp, by simp, fun m h => absurd rfl h⟩⟩
theorem Grp.lt {w : World} {B base : Nat} {G : Int × Int → List Int} (h : Grp w B base G) : B < w.heap.size := by
  obtain ⟨es, c, hb, _⟩ := h
  exact lt_of_block hb
theorem Grp.keep {w w' : World} {B base : Nat} {G : Int × Int → List Int} {row : Option Nat} (h : Grp w B base G) (hg : w.grownBy w' row) (hB : some B ≠ row) (hr : ∀ j, row = some j → j < base) : Grp w' B base G := by
  have hlt := h.lt
  obtain ⟨es, c, h1, h2, h3⟩ := h
  exact ⟨es, c, (hg.block B hlt hB).trans h1, h2, h3.keep hg hr⟩
theorem grown_below {w w' : World} (h : Below w.heap.size w w') : w.grownBy w' none := ⟨h.os, h.tape, h.output, h.size, fun i hi _ => h.block i hi⟩
theorem Grp.below {w w' : World} {B base : Nat} {G : Int × Int → List Int} (h : Grp w B base G) (hb : Below w.heap.size w w') : Grp w' B base G :=
  h.keep (grown_below hb) (by simp) (by simp)

/-- One code more at some marks. -/
def addG (G : Int × Int → List Int) (m0 : Int × Int) (c : Int) (m : Int × Int) : List Int := if m = m0 then G m ++ [c] else G m

theorem ownBlock_ne_map {w : World} {B base n : Nat} {v : Value} {xs : List Value} {es : Array MapEntry} {c : Nat} (h : w.ownsRow base 3 1 v n xs) (hb : w.heap[B]? = some (.map es c)) : v.ownBlock ≠ some B := by
  rcases h.2 with ⟨rfl, rfl⟩ | ⟨g, cap, cur, rfl, _, hg, _⟩
  · simp [Value.ownBlock]
  · simp only [Value.ownBlock, ne_eq, Option.some.injEq]
    rintro rfl
    rw [hb] at hg
    cases hg

theorem set_grown {w : World} {B : Nat} {es : Array MapEntry} {c : Nat} (hb : w.heap[B]? = some (.map es c)) (o : Obj) : w.grownBy (setBlock w B o) (some B) :=
  ⟨rfl, rfl, rfl, by simp [setBlock], fun i _ hi => heap_setBlock_other hb _ (fun e => hi (by rw [e]))⟩

/-- m[k] looked up ahead of an append, and what a store behind the append makes of it. -/
theorem Grp.entry {w : World} {B base : Nat} {G : Int × Int → List Int} (h : Grp w B base G) {m0 : Int × Int} (hm : Small m0) (c : Int) :
    ∃ v st w2, (Instr.mapEntry 108 (.map (some B)) (mV m0)).run Try.prog w = .ok (.tuple #[v, .int .i64 st]) w2 ∧ w.grownBy w2 (some B) ∧ w2.heap.size = w.heap.size ∧ w2.ownsRow base 3 1 v (G m0).length ((G m0).map (Value.int .i64)) ∧
      ∀ w3 v', w2.grownBy w3 v.ownBlock → w3.ownsRow base 3 1 v' ((G m0).length + 1) ((G m0 ++ [c]).map (Value.int .i64)) → (v'.ownBlock = v.ownBlock ∨ v'.ownBlock = some w2.heap.size) →
        ∃ w4, (Instr.entryStore 108 (.map (some B)) (.int .i64 st) v').run Try.prog w3 = .ok () w4 ∧ Grp w4 B base (addG G m0 c) ∧ w3.grownBy w4 (some B) := by
  obtain ⟨es, clock, hb, hst, hE⟩ := h
  obtain ⟨kl, hkey⟩ := mV_key hm
  obtain ⟨s1, s2, s3⟩ := hst
  have hks : ∀ x ∈ es.toList, ∃ l, keyOf Try.prog 72 x.key = some l := fun x hx => by
    obtain ⟨m, h1, h2, _⟩ := hE.each x hx
    rw [h1]; exact mV_key h2
  have hz : ∀ W : World, (zeroValue 34).run Try.prog W = .ok (.slice none 0 0) W := by intro W; simp [go_sem]
  have hsz : ∀ o, (setBlock w B o).heap.size = w.heap.size := fun o => by simp [setBlock]
  rcases K72.find w hkey es.toList hks with ⟨h1, h2⟩ | ⟨j, e0, h1, h2, h3⟩
  · -- no such entry yet
    have hG0 : G m0 = [] := by
      cases hg : G m0 with
      | nil => rfl
      | cons a l =>
        obtain ⟨x, hx, hxk⟩ := hE.all m0 (by rw [hg]; simp)
        exact absurd hxk (h2 x hx)
    refine ⟨.slice none 0 0, clock, setBlock w B (.map (es.push ⟨mV m0, .slice none 0 0, clock⟩) (clock + 1)), ?_, set_grown hb _, hsz _, ?_, ?_⟩
    · simp [Instr.mapEntry, run_underlying M108, MapKept.run_getObj_map hb, K72.check w false hkey, h1, hz, MapKept.run_setObj_map _ hb, Result.andThen, setBlock, goInt]
    · rw [hG0]; exact World.ownsRow_nil _ _ _ _
    · intro w3 v' hg ho hloc
      have hb2 : (setBlock w B (.map (es.push ⟨mV m0, .slice none 0 0, clock⟩) (clock + 1))).heap[B]? = some (.map (es.push ⟨mV m0, .slice none 0 0, clock⟩) (clock + 1)) := heap_setBlock_same hb _
      have hb3 : w3.heap[B]? = some (.map (es.push ⟨mV m0, .slice none 0 0, clock⟩) (clock + 1)) := (hg.block B (lt_of_block hb2) (by simp [Value.ownBlock])).trans hb2
      have hidx : (es.push ⟨mV m0, .slice none 0 0, clock⟩).findIdx? (fun e => ((e.born : Nat) : Int) == ((clock : Nat) : Int)) = some es.size := by
        rw [WideElems.findIdx_arr]
        exact WideElems.findIdx_born (l := (es.push ⟨mV m0, .slice none 0 0, clock⟩).toList) (j := es.size) (e0 := ⟨mV m0, .slice none 0 0, clock⟩) (by
          simp only [Array.toList_push, List.map_append, List.map_cons, List.map_nil]
          refine List.nodup_append.2 ⟨s2, by simp, fun a ha c hc e1 => ?_⟩
          simp only [List.mem_singleton] at hc
          obtain ⟨x, hx, rfl⟩ := List.mem_map.1 ha
          have := s1 x hx
          omega) (by simp)
      have hmod : (es.push ⟨mV m0, .slice none 0 0, clock⟩).modify es.size (fun e => { e with val := v' }) = es.push ⟨mV m0, v', clock⟩ := by
        apply Array.ext'
        rw [Array.toList_modify, Array.toList_push, Array.toList_push, ← Array.length_toList, WideElems.modify_last]
      have hg4 := set_grown hb3 (.map (es.push ⟨mV m0, v', clock⟩) (clock + 1))
      have hgw : w.grownBy (setBlock w3 B (.map (es.push ⟨mV m0, v', clock⟩) (clock + 1))) (some B) :=
        ⟨hg.os, hg.tape, hg.output, by have := hg.size; have := hg4.size; rw [hsz] at *; omega, fun i hi hne => (hg4.block i (by have := hg.size; rw [hsz] at this; omega) hne).trans ((hg.block i (by rw [hsz]; omega) (by simp [Value.ownBlock])).trans (heap_setBlock_other hb _ fun e => hne (by rw [e])))⟩
      obtain ⟨g, hgv, hgb, _⟩ := own_some ho (by simp)
      have ho4 : (setBlock w3 B (.map (es.push ⟨mV m0, v', clock⟩) (clock + 1))).ownsRow base 3 1 v' ((G m0).length + 1) ((G m0 ++ [c]).map (Value.int .i64)) := ho.kept hg4 (.inr (ownBlock_ne_map ho hb3))
      refine ⟨_, ?_, ⟨_, _, heap_setBlock_same hb3 _, stamped_push ⟨s1, s2, s3⟩ h2, ⟨fun x hx => ?_, ?_, fun m hm' => ?_⟩⟩, hg4⟩
      · simp [Instr.entryStore, MapKept.run_getObj_map hb3, asInt, asIntOf, hidx, hmod, MapKept.run_setObj_map _ hb3, Result.andThen, setBlock]
      · simp only [Array.toList_push, List.mem_append, List.mem_singleton] at hx
        rcases hx with hx | rfl
        · obtain ⟨m, e1, e2, e3, e4⟩ := hE.each x hx
          have hne : m ≠ m0 := by rintro rfl; exact h2 x hx e1
          refine ⟨m, e1, e2, by simpa [addG, hne] using e3, ?_⟩
          simp only [addG, if_neg hne]
          exact e4.kept hgw (.inr (ownBlock_ne_map e4 hb))
        · refine ⟨m0, rfl, hm, by simp [addG], ?_⟩
          simp only [addG, if_pos]
          simpa using ho4
      · simp only [Array.toList_push]
        refine List.pairwise_append.2 ⟨hE.apart, by simp, fun x hx y hy => ?_⟩
        simp only [List.mem_singleton] at hy
        subst hy
        obtain ⟨m, e1, e2, e3, e4⟩ := hE.each x hx
        obtain ⟨gx, q1, q2, q3⟩ := own_some e4 e3
        rw [q1]
        simp only
        rcases hloc with h | h
        · rw [h]; simp [Value.ownBlock]
        · rw [h, hsz]; simp; omega
      · by_cases e : m = m0
        · subst e; exact ⟨⟨mV m, v', clock⟩, by simp, rfl⟩
        · simp only [addG, if_neg e] at hm'
          obtain ⟨x, hx, hk⟩ := hE.all m hm'
          exact ⟨x, by simp [hx], hk⟩
  · -- the entry is there
    have hj : es[j]? = some e0 := by simpa using h2
    have hmem := List.mem_of_getElem? h2
    obtain ⟨m, e1, e2, e3, e4⟩ := hE.each e0 hmem
    obtain rfl : m = m0 := mV_inj (e1.symm.trans h3)
    have hsame : es.modify j (fun e => { e with key := mV m }) = es := by
      apply Array.ext'
      rw [Array.toList_modify, modify_eq_set _ _ _ _ h2]
      have : ({ e0 with key := mV m } : MapEntry) = e0 := by rw [← h3]
      rw [this]
      exact WideElems.set_self _ _ _ h2
    refine ⟨e0.val, e0.born, setBlock w B (.map es clock), ?_, set_grown hb _, hsz _, e4.kept (set_grown hb _) (.inr (ownBlock_ne_map e4 hb)), ?_⟩
    · simp [Instr.mapEntry, run_underlying M108, MapKept.run_getObj_map hb, K72.check w false hkey, h1, hj, h3, K72.stays w hkey, hsame, MapKept.run_setObj_map _ hb, Result.andThen, setBlock, goInt]
    · intro w3 v' hg ho hloc
      have hb2 : (setBlock w B (.map es clock)).heap[B]? = some (.map es clock) := heap_setBlock_same hb _
      have hb3 : w3.heap[B]? = some (.map es clock) := (hg.block B (lt_of_block hb2) (Ne.symm (ownBlock_ne_map e4 hb))).trans hb2
      have hidx : es.findIdx? (fun e => ((e.born : Nat) : Int) == ((e0.born : Nat) : Int)) = some j := by
        rw [WideElems.findIdx_arr]
        exact WideElems.findIdx_born s2 h2
      have hg4 := set_grown hb3 (.map (es.modify j fun e => { e with val := v' }) clock)
      obtain ⟨g, hgv, hgb, _⟩ := own_some ho (by simp)
      obtain ⟨g0, k1, k2, k3⟩ := own_some e4 e3
      have ho4 : (setBlock w3 B (.map (es.modify j fun e => { e with val := v' }) clock)).ownsRow base 3 1 v' ((G m).length + 1) ((G m ++ [c]).map (Value.int .i64)) := ho.kept hg4 (.inr (ownBlock_ne_map ho hb3))
      have hsl : (es.modify j fun e => { e with val := v' }).toList = es.toList.set j { e0 with val := v' } := by
        rw [Array.toList_modify, modify_eq_set _ _ _ _ h2]
      have hjl : j < es.toList.length := (List.getElem?_eq_some_iff.1 h2).1
      have hne : ∀ i x, i ≠ j → es.toList[i]? = some x → x.val.ownBlock ≠ e0.val.ownBlock ∧ x.key ≠ mV m := by
        intro i x hi hx
        refine ⟨?_, fun hk => ?_⟩
        · obtain ⟨hil, rfl⟩ := List.getElem?_eq_some_iff.1 hx
          obtain ⟨hjl', rfl⟩ := List.getElem?_eq_some_iff.1 h2
          have hp := List.pairwise_iff_getElem.1 hE.apart
          rcases Nat.lt_or_gt_of_ne hi with g | g
          · exact hp i j hil hjl' g
          · exact Ne.symm (hp j i hjl' hil g)
        · apply hi
          have hl : i < (es.toList.map (·.key)).length := by have := (List.getElem?_eq_some_iff.1 hx).1; simpa using this
          refine (List.getElem?_inj hl s3).1 ?_
          rw [List.getElem?_map, List.getElem?_map, hx, h2]
          simp [hk, h3]
      have others : ∀ i x, i ≠ j → es.toList[i]? = some x → ∃ m', x.key = mV m' ∧ Small m' ∧ addG G m c m' ≠ [] ∧ (setBlock w3 B (.map (es.modify j fun e => { e with val := v' }) clock)).ownsRow base 3 1 x.val (addG G m c m').length ((addG G m c m').map (Value.int .i64)) := by
        intro i x hi hx
        obtain ⟨m', q1, q2, q3, q4⟩ := hE.each x (List.mem_of_getElem? hx)
        obtain ⟨n1, n2⟩ := hne i x hi hx
        have hmm : m' ≠ m := by rintro rfl; exact n2 q1
        refine ⟨m', q1, q2, by simpa [addG, hmm] using q3, ?_⟩
        simp only [addG, if_neg hmm]
        have a1 := q4.kept (set_grown hb (.map es clock)) (.inr (ownBlock_ne_map q4 hb))
        have a2 := a1.kept hg (.inr n1)
        exact a2.kept hg4 (.inr (ownBlock_ne_map a2 hb3))
      refine ⟨_, ?_, ⟨_, _, heap_setBlock_same hb3 _, stamped_modify ⟨s1, s2, s3⟩ j (fun e => { e with val := v' }) (fun _ _ => rfl) (fun _ _ _ => rfl), ⟨fun x hx => ?_, ?_, fun m' hm' => ?_⟩⟩, hg4⟩
      · simp [Instr.entryStore, MapKept.run_getObj_map hb3, asInt, asIntOf, hidx, MapKept.run_setObj_map _ hb3, Result.andThen, setBlock]
      · rw [hsl] at hx
        obtain ⟨i, hi⟩ := List.getElem?_of_mem hx
        by_cases e : i = j
        · subst e
          rw [List.getElem?_set_self hjl] at hi
          cases hi
          refine ⟨m, h3, e2, by simp [addG], ?_⟩
          simp only [addG, if_pos]
          simpa using ho4
        · rw [List.getElem?_set_ne (Ne.symm e)] at hi
          exact others i x e hi
      · rw [hsl]
        rw [List.pairwise_iff_getElem]
        intro a b ha hb' hab
        have hla : a < es.toList.length := by simpa using ha
        have hlb : b < es.toList.length := by simpa using hb'
        have hp := List.pairwise_iff_getElem.1 hE.apart
        have key : ∀ i (hi : i < es.toList.length), i ≠ j → v'.ownBlock ≠ (es.toList[i]).val.ownBlock := by
          intro i hi hij
          obtain ⟨n1, _⟩ := hne i _ hij (List.getElem?_eq_getElem hi)
          obtain ⟨m', q1, q2, q3, q4⟩ := hE.each _ (List.getElem_mem hi)
          obtain ⟨gx, z1, z2, z3⟩ := own_some q4 q3
          rcases hloc with h | h
          · rw [h]; exact Ne.symm n1
          · rw [h, hsz, z1]; simp; omega
        rw [List.getElem_set, List.getElem_set]
        split
        · rename_i ea
          split
          · omega
          · exact key b hlb (by omega)
        · split
          · rename_i eb
            exact Ne.symm (key a hla (by omega))
          · exact hp a b hla hlb hab
      · by_cases e : m' = m
        · subst e
          exact ⟨{ e0 with val := v' }, by rw [hsl]; exact List.mem_set hjl _, h3⟩
        · simp only [addG, if_neg e] at hm'
          obtain ⟨x, hx, hk⟩ := hE.all m' hm'
          obtain ⟨i, hi⟩ := List.getElem?_of_mem hx
          have hij : i ≠ j := by
            rintro rfl
            rw [h2] at hi
            cases hi
            exact e (mV_inj (hk.symm.trans h3))
          exact ⟨x, by rw [hsl]; exact List.mem_of_getElem? (by rw [List.getElem?_set_ne (Ne.symm hij)]; exact hi), hk⟩

/-- A range over it under way: cnt entries are still to come; of the others D is true. -/
def Rng (w : World) (B r base : Nat) (G : Int × Int → List Int) (cnt : Nat) (D : Int × Int → Prop) : Prop :=
  ∃ es clock since seen c0, w.heap[B]? = some (.map es clock) ∧ Stamped es clock ∧ Ents w base es.toList G ∧ w.heap[r]? = some (.mapIter (some B) since seen c0) ∧
    (∀ x ∈ es.toList, x.born < since) ∧ since ≤ c0 ∧ since ≤ clock ∧ (leftOf es seen).size = cnt ∧ ∀ x ∈ es.toList, seen.contains x.born = true → ∀ m, x.key = mV m → D m
section
variable {w w' : World} {B r base cnt : Nat} {G : Int × Int → List Int} {D : Int × Int → Prop}
theorem Grp.range (h : Grp w B base G) (D : Int × Int → Prop) : ∃ w' cnt, (Instr.range 108 (.map (some B))).run Try.prog w = .ok (.pointer (some ⟨w.heap.size, 0, none⟩)) w' ∧ Rng w' B w.heap.size base G cnt D ∧ Below w.heap.size w w' := by
  have hlt := h.lt
  obtain ⟨es, clock, hb, hst, hE⟩ := h
  refine ⟨_, _, run_range_map w 108 72 34 B es clock M108 hb, ⟨es, clock, clock, #[], clock, ((MapKept.heap_alloc w _).2 B hlt).trans hb, hst, hE.keep (World.grownBy_alloc w _ none) (by simp), (MapKept.heap_alloc w _).1, hst.1, Nat.le_refl _, Nat.le_refl _, rfl, by simp⟩, (Below.refl _ _).alloc (Nat.le_refl _) _⟩
theorem Rng.lt (h : Rng w B r base G cnt D) : B < w.heap.size ∧ r < w.heap.size := by
  obtain ⟨es, clock, since, seen, c0, hb, _, _, hr, _⟩ := h
  exact ⟨lt_of_block hb, lt_of_block hr⟩
theorem Rng.keep {row : Option Nat} (h : Rng w B r base G cnt D) (hg : w.grownBy w' row) (hB : some B ≠ row) (hr : some r ≠ row) (hj : ∀ j, row = some j → j < base) : Rng w' B r base G cnt D := by
  have hlt := h.lt
  obtain ⟨es, clock, since, seen, c0, hb, hst, hE, hri, rest⟩ := h
  exact ⟨es, clock, since, seen, c0, (hg.block B hlt.1 hB).trans hb, hst, hE.keep hg hj, (hg.block r hlt.2 hr).trans hri, rest⟩
theorem Rng.below (h : Rng w B r base G cnt D) (hb : Below w.heap.size w w') : Rng w' B r base G cnt D := h.keep (grown_below hb) (by simp) (by simp) (by simp)
theorem Rng.weak {D' : Int × Int → Prop} (h : Rng w B r base G cnt D) (hD : ∀ m, D m → D' m) : Rng w B r base G cnt D' := by
  obtain ⟨es, clock, since, seen, c0, hb, hst, hE, hri, a, b, c, d, e⟩ := h
  exact ⟨es, clock, since, seen, c0, hb, hst, hE, hri, a, b, c, d, fun x hx hs m hm => hD m (e x hx hs m hm)⟩
theorem Rng.next (h : Rng w B r base G cnt D) (ty : TypeId) :
    (cnt = 0 ∧ (∀ m, G m ≠ [] → D m) ∧ (Instr.next (.pointer (some ⟨r, 0, none⟩)) false ty).run Try.prog w = .ok (.tuple #[.bool false]) w) ∨
    ∃ m v w' cnt', cnt' < cnt ∧ Small m ∧ G m ≠ [] ∧ (Instr.next (.pointer (some ⟨r, 0, none⟩)) false ty).run Try.prog w = .ok (.tuple #[.bool true, mV m, v]) w' ∧ w.grownBy w' (some r) ∧ w'.heap.size = w.heap.size ∧
      w'.ownsRow base 3 1 v (G m).length ((G m).map (Value.int .i64)) ∧ (Instr.entry (.pointer (some ⟨r, 0, none⟩))).run Try.prog w' = .ok (.tuple #[mV m, v]) w' ∧ Rng w' B r base G cnt' fun m' => D m' ∨ m' = m := by
  obtain ⟨es, clock, since, seen, c0, hb, hst, hE, hri, hold, hsc, hsk, hcnt, hD⟩ := h
  have hne : r ≠ B := by
    rintro rfl
    rw [hb] at hri
    cases hri
  rcases run_next_at (P := Try.prog) w ty r B since c0 seen es clock hri hb hold hsc with ⟨h0, hrun⟩ | ⟨e, he, w1, hal, hrun⟩
  · left
    refine ⟨by omega, fun m hm => ?_, hrun⟩
    obtain ⟨x, hx, hk⟩ := hE.all m hm
    exact hD x hx (all_seen es seen h0 x hx) m hk
  · right
    obtain ⟨hem, hes⟩ := mem_left he
    obtain ⟨m, e1, e2, e3, e4⟩ := hE.each e hem
    have hr1 : w1.heap[r]? = some (.mapIter (some B) since seen c0) := by rcases hal with rfl | rfl <;> exact hri
    have hb1 : w1.heap[B]? = some (.map es clock) := by rcases hal with rfl | rfl <;> exact hb
    have hset2 := heap_set (o' := .mapIter (some B) since (seen.push e.born) clock) hr1
    have hset := hset2.1
    have hoth := fun (i : Nat) (hi : i ≠ r) => hset2.2 i hi
    have hg : w.grownBy (setBlock w1 r (.mapIter (some B) since (seen.push e.born) clock)) (some r) := by
      rcases hal with rfl | rfl <;> exact ⟨rfl, rfl, rfl, by simp [setBlock], fun i _ hi => hoth i (fun e1 => hi (by rw [e1]))⟩
    have hE' : Ents (setBlock w1 r (.mapIter (some B) since (seen.push e.born) clock)) base es.toList G := ⟨fun x hx => by
      obtain ⟨m, h1, h2, h3, h4⟩ := hE.each x hx
      refine ⟨m, h1, h2, h3, h4.kept hg (.inr ?_)⟩
      intro e5
      rcases h4.2 with ⟨hv, _⟩ | ⟨g, cap, cur, hv, _, hg', _⟩
      · rw [hv] at e5; simp [Value.ownBlock] at e5
      · rw [hv] at e5
        simp only [Value.ownBlock, Option.some.injEq] at e5
        subst e5
        rw [hri] at hg'
        (cases hg'), hE.apart, hE.all⟩
    obtain ⟨m2, f1, f2, f3, f4⟩ := hE'.each e hem
    obtain rfl : m2 = m := mV_inj (f1.symm.trans e1)
    have hb' := (hoth B (fun e => hne e.symm)).trans hb1
    refine ⟨m2, e.val, _, _, ?_, e2, e3, by rw [← e1]; exact hrun, hg, by rcases hal with rfl | rfl <;> simp [setBlock], f4, ?_, ⟨es, clock, since, seen.push e.born, clock, hb', hst, hE', hset, hold, hsk, hsk, rfl, fun x hx hs m' hm' => ?_⟩⟩
    · have := left_shrinks es seen e he
      omega
    · rw [← e1]
      exact run_entry_at _ r B since seen es clock e hset hb' hem hst.2.1
    · rw [contains_push] at hs
      cases hc : seen.contains x.born
      · right
        rw [hc] at hs
        have hbe : x.born = e.born := by simpa using hs
        have : x = e := by
          exact born_inj hst.2.1 hx hem hbe
        subst this
        exact mV_inj (hm'.symm.trans e1)
      · exact .inl (hD x hx hc m' hm')
end
end Go.Proofs.Ytdclmhmdkhpekaa
