/- Slices of acts. No condition. -/
import Derived.Test.YtkjinamjdjijcaaGreatDoorMem2
import Derived.Deep.Fields
import Derived.OpenShut
import Derived.ChangeMaps5
namespace Go.Proofs.YtkjinamjdjijcaaGreatDoor
open Go.RowKit Go.Maps Go.ChangeShapes Go.WideShapes Go.ChangeMaps Go.Deep

/-- An act. -/
structure Ac where
  kind : Int
  n : Int
  m : Int
  i : Int
  line : ByteArray
def ac (ts : List Ac) (r : Nat) : Ac := ts.getD r ⟨0, 0, 0, 0, ByteArray.empty⟩
theorem ac_of {ts : List Ac} {r : Nat} {u : Ac} (h : ts[r]? = some u) : ac ts r = u := by simp [ac, h]
/-- A slice of acts that reads as ts. -/
structure Sl5 (w : World) (A : Option Addr) (n c : Nat) (ts : List Ac) : Prop where
  len : ts.length = n
  cap : n ≤ c
  capm : c ≤ maxLen
  pos : 0 < n → ∃ b o, A = some ⟨b, o, none⟩ ∧ b < w.heap.size ∧ ∀ (j : Nat) (u : Ac), ts[j]? = some u → w.cell? ⟨b, o + j * 5, none⟩ = some (.int .i64 u.kind) ∧ w.cell? ⟨b, o + (j * 5 + 1), none⟩ = some (.int .i64 u.n) ∧ w.cell? ⟨b, o + (j * 5 + 2), none⟩ = some (.int .i64 u.m) ∧ w.cell? ⟨b, o + (j * 5 + 3), none⟩ = some (.int .i64 u.i) ∧ w.cell? ⟨b, o + (j * 5 + 4), none⟩ = some (.string u.line)
section
variable {w w' : World} {A : Option Addr} {n c : Nat} {ts : List Ac}
theorem Sl5.below (h : Sl5 w A n c ts) (hb : Below w.heap.size w w') : Sl5 w' A n c ts :=
  ⟨h.len, h.cap, h.capm, fun hn => by
    obtain ⟨b, o, e, hl, hc⟩ := h.pos hn
    refine ⟨b, o, e, by have := hb.size; omega, fun j u hu => ?_⟩
    obtain ⟨h0, h1, h2, h3, h4⟩ := hc j u hu
    exact ⟨cell_keep hb h0, cell_keep hb h1, cell_keep hb h2, cell_keep hb h3, cell_keep hb h4⟩⟩
theorem Sl5.at (h : Sl5 w A n c ts) {k : Nat} (hk : k < n) : ∃ b o, A = some ⟨b, o, none⟩ ∧ b < w.heap.size ∧ w.cell? ⟨b, o + k * 5, none⟩ = some (.int .i64 (ac ts k).kind) ∧ w.cell? ⟨b, o + k * 5 + 1, none⟩ = some (.int .i64 (ac ts k).n) ∧ w.cell? ⟨b, o + k * 5 + 2, none⟩ = some (.int .i64 (ac ts k).m) ∧ w.cell? ⟨b, o + k * 5 + 3, none⟩ = some (.int .i64 (ac ts k).i) ∧ w.cell? ⟨b, o + k * 5 + 4, none⟩ = some (.string (ac ts k).line) := by
  obtain ⟨b, o, e, hb, hc⟩ := h.pos (by omega)
  have hl : k < ts.length := by have := h.len; omega
  have e2 : ac ts k = ts[k] := ac_of (List.getElem?_eq_getElem hl)
  have hx : ts[k]? = some (ac ts k) := by rw [e2]; exact List.getElem?_eq_getElem hl
  obtain ⟨h0, h1, h2, h3, h4⟩ := hc k _ hx
  exact ⟨b, o, e, hb, h0, h1, h2, h3, h4⟩
theorem Sl5.take (h : Sl5 w A n c ts) (k : Nat) (hk : k ≤ n) : Sl5 w A k c (ts.take k) :=
  ⟨by rw [List.length_take, h.len]; omega, by have := h.cap; omega, h.capm, fun hn => by
    obtain ⟨b, o, e, hb, hc⟩ := h.pos (by omega)
    exact ⟨b, o, e, hb, fun j u hu => hc j u (by
      rw [List.getElem?_take] at hu
      split at hu
      · exact hu
      · cases hu)⟩⟩
end
section
variable {H : Type} {enc : TypeId × Value → H} {P : Program} {w : World} {base : Nat} {spare : Nat → Bool} {held : Bool}
theorem open_acts {t e i st : TypeId} {fs : Array Field} {fuel : Nat} {cs : List Value} {x : DataW H × List MemPlace} (ht : P.underlying t = some (.slice e)) (he : P.underlying e = some (.struct fs)) (hi : P.underlying i = some (.int .i64)) (hst : P.underlying st = some .string)
    (hf : ∀ j, j < 5 → ∃ f, fs[j]? = some f ∧ f.type = (if j < 4 then i else st) ∧ f.offset = j ∧ P.cellsOf f.type = 1) (hc2 : P.cellsOf e = 5) (hsp : ∀ k, spare k = true)
    (h : DataW.trod enc P w base spare held fuel t cs = some x) :
    ∃ (A : Option Addr) (len cap : Nat) (xs : List Ac), cs = [.slice A len cap] ∧ Sl5 w A len cap xs := by
  rcases open_slice ht h with ⟨rfl, _⟩ | ⟨a, len, cap, m, n, D, Pl, rfl, hb, hl, hm, hmm, hx, hi'⟩
  · exact ⟨none, 0, 0, [], rfl, ⟨rfl, Nat.le_refl _, Nat.zero_le _, fun h => absurd h (by omega)⟩⟩
  · rw [hsp, if_pos rfl] at hmm
    subst hmm
    have each : ∀ k, k < len → ∃ u : Ac, w.cell? (a.add (k * 5)) = some (.int .i64 u.kind) ∧ w.cell? (a.add (k * 5 + 1)) = some (.int .i64 u.n) ∧ w.cell? (a.add (k * 5 + 2)) = some (.int .i64 u.m) ∧ w.cell? (a.add (k * 5 + 3)) = some (.int .i64 u.i) ∧ w.cell? (a.add (k * 5 + 4)) = some (.string u.line) := by
      intro k hk
      obtain ⟨cs', hcs, ht'⟩ := hi' k (by omega)
      rw [hc2] at hcs
      obtain ⟨_, hcl, hat⟩ := World.cells?_some hcs
      obtain ⟨ys, n', hn', hy, hlen, hyl, hfd⟩ := DataW.trod_struct he ht'
      have e0 := hat 0 (by omega)
      have e1 := hat 1 (by omega)
      have e2 := hat 2 (by omega)
      have e3 := hat 3 (by omega)
      have e4 := hat 4 (by omega)
      obtain ⟨c0, c1, c2, c3, c4, rfl⟩ : ∃ c0 c1 c2 c3 c4, cs' = [c0, c1, c2, c3, c4] := by
        match cs', hcl with
        | [c0, c1, c2, c3, c4], _ => exact ⟨c0, c1, c2, c3, c4, rfl⟩
      have key : ∀ (j : Nat) (v : Value), j < 5 → [c0, c1, c2, c3, c4][j]? = some v → ∃ y, DataW.trod enc P w base spare held n' (if j < 4 then i else st) [v] = some y := by
        intro j v hj hv
        obtain ⟨f, hf1, hf2, hf3, hf4⟩ := hf j hj
        have h1 := hfd j f hf1
        rw [hf3, hf4] at h1
        have hd : ([c0, c1, c2, c3, c4].drop j).take 1 = [v] := by
          match j, hj, hv with
          | 0, _, hv => simpa using hv
          | 1, _, hv => simpa using hv
          | 2, _, hv => simpa using hv
          | 3, _, hv => simpa using hv
          | 4, _, hv => simpa using hv
        rw [hd] at h1
        have hjl : j < ys.length := by rw [hyl]; exact (Array.getElem?_eq_some_iff.1 hf1).1
        rw [← hf2]
        exact ⟨ys[j], by rw [← List.getElem?_eq_getElem hjl]; exact h1⟩
      have ints : ∀ (j : Nat) (v : Value), j < 4 → [c0, c1, c2, c3, c4][j]? = some v → ∃ z : Int, v = .int .i64 z := by
        intro j v hj hv
        obtain ⟨y, hy2⟩ := key j v (by omega) hv
        rw [if_pos hj] at hy2
        obtain ⟨n0, h0, _, _⟩ := DataW.trod_int hi hy2
        simp at h0
        exact ⟨n0, h0⟩
      obtain ⟨z0, rfl⟩ := ints 0 c0 (by omega) rfl
      obtain ⟨z1, rfl⟩ := ints 1 c1 (by omega) rfl
      obtain ⟨z2, rfl⟩ := ints 2 c2 (by omega) rfl
      obtain ⟨z3, rfl⟩ := ints 3 c3 (by omega) rfl
      obtain ⟨y, hy⟩ := key 4 c4 (by omega) rfl
      rw [if_neg (by omega)] at hy
      obtain ⟨s, hs0, _, _⟩ := DataW.trod_string hst hy
      simp at hs0
      subst hs0
      refine ⟨⟨z0, z1, z2, z3, s⟩, ?_, ?_, ?_, ?_, ?_⟩
      · rw [Go.Deep.add_add] at e0; simpa using e0
      · rw [Go.Deep.add_add] at e1; simpa using e1
      · rw [Go.Deep.add_add] at e2; simpa using e2
      · rw [Go.Deep.add_add] at e3; simpa using e3
      · rw [Go.Deep.add_add] at e4; simpa using e4
    by_cases h0 : len = 0
    · subst h0
      exact ⟨some a, 0, m, [], rfl, ⟨rfl, Nat.zero_le _, hm, fun h => absurd h (by omega)⟩⟩
    · have hs : a.spot = none := by
        obtain ⟨u, hu, _⟩ := each 0 (by omega)
        unfold World.cell? Addr.add at hu
        simp at hu
        split at hu
        · rename_i hs
          by_cases e : a.spot.isSome
          · simp [e] at hu
          · cases hsp' : a.spot
            · rfl
            · simp [hsp'] at e
        · cases hu
      obtain ⟨b, o, sp⟩ := a
      simp at hs
      subst hs
      have hadd : ∀ j, (⟨b, o, none⟩ : Addr).add j = ⟨b, o + j, none⟩ := fun j => by unfold Addr.add; split <;> simp_all
      have each2 : ∀ k : Nat, ∃ u : Ac, k < len → w.cell? ⟨b, o + k * 5, none⟩ = some (.int .i64 u.kind) ∧ w.cell? ⟨b, o + (k * 5 + 1), none⟩ = some (.int .i64 u.n) ∧ w.cell? ⟨b, o + (k * 5 + 2), none⟩ = some (.int .i64 u.m) ∧ w.cell? ⟨b, o + (k * 5 + 3), none⟩ = some (.int .i64 u.i) ∧ w.cell? ⟨b, o + (k * 5 + 4), none⟩ = some (.string u.line) := by
        intro k
        by_cases hk : k < len
        · obtain ⟨u, h1, h2, h3, h4, h5⟩ := each k hk
          rw [hadd] at h1 h2 h3 h4 h5
          exact ⟨u, fun _ => ⟨h1, h2, h3, h4, h5⟩⟩
        · exact ⟨⟨0, 0, 0, 0, ByteArray.empty⟩, fun h => absurd h hk⟩
      obtain ⟨U, hU⟩ := Classical.axiomOfChoice each2
      refine ⟨_, _, _, (List.range len).map U, rfl, ⟨by simp, hl, hm, fun _ => ⟨b, o, rfl, ?_, fun j u hu => ?_⟩⟩⟩
      · exact World.block_lt_of_cell? w ⟨b, o + 0 * 5, none⟩ (hU 0 (by omega)).1
      · have hj : j < len := by have := (List.getElem?_eq_some_iff.1 hu).1; simpa using this
        have e : u = U j := by simpa [hj] using hu.symm
        subst e
        exact hU j hj
end
end Go.Proofs.YtkjinamjdjijcaaGreatDoor
