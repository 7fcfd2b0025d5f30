/- Walk of the program's look at a tree. Condition: the slices read as lists. -/
import Derived.Test.YtpebglilphgamaaTree
import Derived.Test.YtpebglilphgamaaAsk
import Derived.Test.YtpebglilphgamaaLen
namespace Go.Proofs.Ytpebglilphgamaa
open Go.RowKit Go.Maps
open Go.ChangeMaps (setBlock heap_setBlock_same heap_setBlock_other)

/-- Block M is a map of numbers to true: of those that are told. -/
def Met (w : World) (M : Nat) (told : Nat → Bool) : Prop :=
  ∃ es clock, w.heap[M]? = some (.map es clock) ∧ (∀ e ∈ es.toList, (∃ l, keyOf Try.prog 3 e.key = some l) ∧ e.val = .bool true ∧ ∀ i : Nat, e.key = .int .i64 i → told i = true) ∧ ∀ i : Nat, told i = true → ∃ e ∈ es.toList, e.key = .int .i64 i
section
variable {w w' : World} {M : Nat} {told : Nat → Bool}
theorem Met.made (w : World) : Met (w.alloc (.map #[] 0)) w.heap.size fun _ => false := ⟨#[], 0, (MapKept.heap_alloc w _).1, by simp, fun i h => absurd h (by simp)⟩
theorem Met.lt (h : Met w M told) : M < w.heap.size := by
  obtain ⟨es, c, hb, _⟩ := h
  exact lt_of_block hb
theorem Met.keep (h : Met w M told) (hb : Below w.heap.size w w') : Met w' M told := by
  have hlt := h.lt
  obtain ⟨es, c, h1, h2⟩ := h
  exact ⟨es, c, (hb.block M hlt).trans h1, h2⟩
theorem Met.ne_cell (h : Met w M told) {a : Addr} {v : Value} (hc : w.cell? a = some v) : a.block ≠ M := by
  intro e
  obtain ⟨es, c, h1, _⟩ := h
  rw [← e] at h1
  simp [World.cell?, h1] at hc
theorem Met.drewN (h : Met w M told) (n : Nat) : Met (w.drewN n) M told := h
theorem Met.alloc (h : Met w M told) (o : Obj) : Met (w.alloc o) M told := h.keep ((Below.refl _ _).alloc (Nat.le_refl _) _)
theorem key_nat {i : Nat} (h : i < 9223372036854775808) : keyOf Try.prog 3 (.int .i64 (i : Int)) = some (.int .i64 (i : Int)) :=
  keyOf_int_mk Try.underlying3 (by
    have hmin : IntKind.i64.min = -9223372036854775808 := rfl
    have hmax : IntKind.i64.max = 9223372036854775807 := rfl
    simp only [Lit.wf, Bool.and_eq_true, decide_eq_true_eq]
    omega)
theorem MB : Try.prog.underlying 86 = some (.map 3 4) := Try.underlying86
/-- told[i]. -/
theorem Met.look (h : Met w M told) {i : Nat} (hi : i < 9223372036854775808) : (Instr.lookup 86 (.map (some M)) (.int .i64 i) false).run Try.prog w = .ok (.bool (told i)) w := by
  obtain ⟨es, c, hb, he, hin⟩ := h
  have hkey := key_nat hi
  by_cases hex : ∃ x ∈ es.toList, x.key = .int .i64 (i : Int)
  · obtain ⟨x, hx, hxk⟩ := hex
    rcases K3.find w hkey es.toList (fun x hx => (he x hx).1) with ⟨_, g2⟩ | ⟨j, e0, g1, g2, g3⟩
    · exact absurd hxk (g2 x hx)
    · have h0 := he e0 (List.mem_of_getElem? g2)
      have ht := h0.2.2 i g3
      rw [ht]
      simp [Instr.lookup, run_underlying MB, MapKept.run_getObj_map hb, K3.check w es.isEmpty hkey, g1, h0.2.1, Result.andThen]
  · rcases K3.find w hkey es.toList (fun x hx => (he x hx).1) with ⟨g1, _⟩ | ⟨j, e0, _, g2, g3⟩
    · have ht : told i = false := by
        cases ht : told i
        · rfl
        · exact absurd (hin i ht) hex
      rw [ht]
      simp [Instr.lookup, run_underlying MB, MapKept.run_getObj_map hb, K3.check w es.isEmpty hkey, g1, Result.andThen]
    · exact absurd ⟨e0, List.mem_of_getElem? g2, g3⟩ hex
/-- told[i] = true. -/
theorem Met.update (h : Met w M told) {i : Nat} (hi : i < 9223372036854775808) :
    ∃ w', (Instr.mapUpdate 86 (.map (some M)) (.int .i64 i) (.bool true)).run Try.prog w = .ok () w' ∧ Met w' M (updB told i) ∧ w.grownBy w' (some M) := by
  obtain ⟨es, c, hb, he, hin⟩ := h
  have hkey := key_nat hi
  have hgrow : ∀ o, w.grownBy (setBlock w M o) (some M) := fun o => ⟨rfl, rfl, rfl, by simp [setBlock], fun i _ hi => heap_setBlock_other hb _ (fun e => hi (by rw [e]))⟩
  rcases K3.find w hkey es.toList (fun x hx => (he x hx).1) with ⟨h1, h2⟩ | ⟨j, e0, h1, h2, h3⟩
  · refine ⟨setBlock w M (.map (es.push ⟨.int .i64 i, .bool true, c⟩) (c + 1)), ?_, ⟨_, _, heap_setBlock_same hb _, fun x hx => ?_, fun k hk => ?_⟩, hgrow _⟩
    · simp [Instr.mapUpdate, run_underlying MB, MapKept.run_getObj_map hb, K3.check w false hkey, h1, MapKept.run_setObj_map _ hb, Result.andThen, setBlock]
    · simp only [Array.toList_push, List.mem_append, List.mem_singleton] at hx
      rcases hx with hx | rfl
      · refine ⟨(he x hx).1, (he x hx).2.1, fun k hk => ?_⟩
        unfold updB
        split
        · rfl
        · exact (he x hx).2.2 k hk
      · refine ⟨⟨_, hkey⟩, rfl, fun k hk => ?_⟩
        have hk2 : (.int .i64 (i : Int) : Value) = .int .i64 (k : Int) := hk
        have e : k = i := by
          have e1 : (i : Int) = (k : Int) := by cases hk2; rfl
          omega
        simp [updB, e]
    · unfold updB at hk
      split at hk
      · rename_i e; subst e
        exact ⟨⟨.int .i64 (k : Int), .bool true, c⟩, by simp, rfl⟩
      · obtain ⟨e, h1, h2⟩ := hin k hk
        exact ⟨e, by simp [h1], h2⟩
  · have hj : es[j]? = some e0 := by simpa using h2
    have hst := K3.stays w hkey
    have hE := he e0 (List.mem_of_getElem? h2)
    have hsame : ∀ k : Nat, updB told i k = told k := fun k => by
      unfold updB
      split
      · rename_i e; subst e
        exact (hE.2.2 k h3).symm
      · rfl
    have hsf : updB told i = told := funext hsame
    rw [hsf]
    have hm : ∀ (n : Nat) (x : _), (es.modify j fun e => { e with key := .int .i64 (i : Int), val := .bool true })[n]? = some x → ∃ y, es[n]? = some y ∧ x.key = y.key ∧ x.val = y.val := fun n x hx => by
      rw [Array.getElem?_modify] at hx
      by_cases e : j = n
      · subst e
        rw [if_pos rfl, hj] at hx
        simp at hx
        subst hx
        exact ⟨e0, hj, h3.symm, hE.2.1.symm⟩
      · rw [if_neg e] at hx
        exact ⟨x, hx, rfl, rfl⟩
    refine ⟨setBlock w M (.map (es.modify j fun e => { e with key := .int .i64 (i : Int), val := .bool true }) c), ?_, ⟨_, _, heap_setBlock_same hb _, fun x hx => ?_, fun k hk => ?_⟩, hgrow _⟩
    · simp [Instr.mapUpdate, run_underlying MB, MapKept.run_getObj_map hb, K3.check w false hkey, h1, hj, h3, hst, MapKept.run_setObj_map _ hb, Result.andThen, setBlock]
    · obtain ⟨n, hn⟩ := List.getElem?_of_mem hx
      obtain ⟨y, hy, e1, e2⟩ := hm n x (by rw [← Array.getElem?_toList]; exact hn)
      have := he y (List.mem_of_getElem? (by simpa using hy))
      rw [e1, e2]
      exact this
    · obtain ⟨y, hy, hyk⟩ := hin k hk
      obtain ⟨n, hn⟩ := List.getElem?_of_mem hy
      have hn' : es[n]? = some y := by simpa using hn
      have hlt : n < (es.modify j fun e => { e with key := .int .i64 (i : Int), val := .bool true }).size := by
        have := (Array.getElem?_eq_some_iff.1 hn').1
        simpa using this
      obtain ⟨z, hz, e1, e2⟩ := hm n _ (Array.getElem?_eq_getElem hlt)
      rw [hn'] at hz
      cases hz
      exact ⟨_, Array.getElem_mem_toList hlt, e1.trans hyk⟩
theorem Met.grown {row : Option Nat} (h : Met w M told) (hg : w.grownBy w' row) (hr : some M ≠ row) : Met w' M told := by
  have hlt := h.lt
  obtain ⟨es, c, h1, h2⟩ := h
  exact ⟨es, c, (hg.block M hlt hr).trans h1, h2⟩
end
end Go.Proofs.Ytpebglilphgamaa
