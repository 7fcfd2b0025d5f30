/- Slices of pairs: how they come in, how they lie in memory, and how they are copied. No condition. -/
import Derived.Test.YtjddbglbodkihaaDoorProg
import Derived.Test.YtjddbglbodkihaaDoorClone
import Derived.Deep.Slices
import Derived.OpenShut
import Derived.Lib.Walk
namespace Go.Proofs.YtjddbglbodkihaaDoor
open Go.RowKit Go.ChangeShapes Go.WideShapes Go.Deep

theorem TP : TS Tryd.prog 60 66 2 16 (.agg #[.int .i64 0, .int .i64 0]) := ⟨Tryd.underlying60, by kernel_rfl, rfl, by decide⟩
/-- A slice of pairs that reads as xs. -/
structure Sl2 (w : World) (A : Option Addr) (n c : Nat) (xs : List (Int × Int)) : Prop where
  len : xs.length = n
  cap : n ≤ c
  capm : c ≤ maxLen
  pos : 0 < n → ∃ b o, A = some ⟨b, o, none⟩ ∧ b < w.heap.size ∧ ∀ j u, xs[j]? = some u → w.cell? ⟨b, o + j * 2, none⟩ = some (.int .i64 u.1) ∧ w.cell? ⟨b, o + (j * 2 + 1), none⟩ = some (.int .i64 u.2)

def flat (xs : List (Int × Int)) : List Value := xs.flatMap fun u => [.int .i64 u.1, .int .i64 u.2]
theorem flat_len (xs : List (Int × Int)) : (flat xs).length = xs.length * 2 := by
  induction xs with
  | nil => rfl
  | cons u xs ih =>
    have : flat (u :: xs) = .int .i64 u.1 :: .int .i64 u.2 :: flat xs := rfl
    rw [this, List.length_cons, List.length_cons, ih, List.length_cons]; omega
theorem flat_one (xs : List (Int × Int)) : ∀ u ∈ flat xs, u.oneCell' = true := by
  intro u hu
  unfold flat at hu
  simp at hu
  obtain ⟨a, b, _, h | h⟩ := hu <;> subst h <;> rfl
theorem flat_get : ∀ (xs : List (Int × Int)) (j : Nat) (u : Int × Int), xs[j]? = some u → (flat xs)[j * 2]? = some (.int .i64 u.1) ∧ (flat xs)[j * 2 + 1]? = some (.int .i64 u.2) := by
  intro xs
  induction xs with
  | nil => intro j u h; simp at h
  | cons v xs ih =>
    intro j u h
    have e : flat (v :: xs) = .int .i64 v.1 :: .int .i64 v.2 :: flat xs := rfl
    rw [e]
    cases j with
    | zero => simp at h; subst h; exact ⟨rfl, rfl⟩
    | succ j =>
      have := ih j u (by simpa using h)
      have e2 : (j + 1) * 2 = j * 2 + 2 := by omega
      rw [e2]
      exact ⟨by simpa using this.1, by simpa using this.2⟩
section
variable {w w' : World} {A : Option Addr} {n c : Nat} {xs : List (Int × Int)}
theorem Sl2.below (h : Sl2 w A n c xs) (hb : Below w.heap.size w w') : Sl2 w' A n c xs :=
  ⟨h.len, h.cap, h.capm, fun hn => by
    obtain ⟨b, o, e, hl, hc⟩ := h.pos hn
    refine ⟨b, o, e, by have := hb.size; omega, fun j u hu => ?_⟩
    exact ⟨(hb.cell (p := ⟨b, o + j * 2, none⟩) hl).trans (hc j u hu).1, (hb.cell (p := ⟨b, o + (j * 2 + 1), none⟩) hl).trans (hc j u hu).2⟩⟩
theorem Sl2.drewN (h : Sl2 w A n c xs) (k : Nat) : Sl2 (w.drewN k) A n c xs := ⟨h.len, h.cap, h.capm, h.pos⟩
theorem Sl2.take (h : Sl2 w A n c xs) (k : Nat) (hk : k ≤ n) : Sl2 w A k c (xs.take k) :=
  ⟨by simp [h.len]; omega, by have := h.cap; omega, h.capm, fun hn => by
    obtain ⟨b, o, e, hb, hc⟩ := h.pos (by omega)
    exact ⟨b, o, e, hb, fun j u hu => hc j u (by
      rw [List.getElem?_take] at hu
      split at hu
      · exact hu
      · cases hu)⟩⟩
theorem Sl2.at (h : Sl2 w A n c xs) {k : Nat} (hk : k < n) : ∃ b o u, A = some ⟨b, o, none⟩ ∧ b < w.heap.size ∧ xs[k]? = some u ∧ w.cell? ⟨b, o + k * 2, none⟩ = some (.int .i64 u.1) ∧ w.cell? ⟨b, o + (k * 2 + 1), none⟩ = some (.int .i64 u.2) := by
  obtain ⟨b, o, e, hb, hc⟩ := h.pos (by omega)
  have hl : k < xs.length := by have := h.len; omega
  have := hc k _ (List.getElem?_eq_getElem hl)
  exact ⟨b, o, xs[k], e, hb, List.getElem?_eq_getElem hl, this.1, this.2⟩
theorem Sl2.len_le (h : Sl2 w A n c xs) : n ≤ 9223372036854775807 := by have := h.cap; have := h.capm; unfold maxLen at this; omega
theorem Sl2.none_zero (h : Sl2 w none n c xs) : n = 0 ∧ xs = [] := by
  have h0 : n = 0 := by
    rcases Nat.eq_zero_or_pos n with h0 | h0
    · exact h0
    · obtain ⟨_, _, e, _⟩ := h.pos h0
      cases e
  exact ⟨h0, List.eq_nil_of_length_eq_zero (by have := h.len; omega)⟩
theorem Sl2.of_own {base : Nat} {e : TypeId} (h : w.ownsRow base e 2 (.slice A n c) n (flat xs)) : Sl2 w A n c xs := by
  have hlen : xs.length = n := by
    have h1 := h.1
    have h2 := flat_len xs
    omega
  rcases h.2 with ⟨hv, hn⟩ | ⟨g, cap, cur, hv, hb, hg, hc, hm, hs, ht⟩
  · simp at hv
    obtain ⟨rfl, -, rfl⟩ := hv
    subst hn
    exact ⟨hlen, Nat.le_refl _, Nat.zero_le _, fun h => absurd h (by omega)⟩
  · simp at hv
    obtain ⟨rfl, rfl⟩ := hv
    have hadd : ∀ j, (⟨g, 0, none⟩ : Addr).add j = ⟨g, j, none⟩ := fun j => by unfold Addr.add; split <;> simp_all
    refine ⟨hlen, hc, hm, fun _ => ⟨g, 0, rfl, lt_of_block hg, fun j u hu => ?_⟩⟩
    have hf := flat_get xs j u hu
    have c0 := h.cells (g := g) rfl _ _ hf.1
    have c1 := h.cells (g := g) rfl _ _ hf.2
    rw [hadd] at c0 c1
    simpa using ⟨c0, c1⟩
end

section
variable {H : Type} {enc : TypeId × Value → H} {P : Program} {w : World} {base : Nat} {spare : Nat → Bool} {held : Bool}
theorem open_pairs {t e i : TypeId} {fuel : Nat} {cs : List Value} {x : DataW H × List MemPlace} (ht : P.underlying t = some (.slice e)) (he : P.underlying e = some (.array 2 i)) (hi : P.underlying i = some (.int .i64)) (hc1 : P.cellsOf i = 1) (hc2 : P.cellsOf e = 2)
    (hsp : ∀ k, spare k = true)
    (h : DataW.trod enc P w base spare held fuel t cs = some x) :
    ∃ (A : Option Addr) (len cap : Nat) (xs : List (Int × Int)), cs = [.slice A len cap] ∧ Sl2 w A len cap xs ∧ ∀ u ∈ xs, (-9223372036854775808 ≤ u.1 ∧ u.1 ≤ 9223372036854775807) ∧ (-9223372036854775808 ≤ u.2 ∧ u.2 ≤ 9223372036854775807) := by
  rcases open_slice ht h with ⟨rfl, _⟩ | ⟨a, len, cap, m, n, D, Pl, rfl, hb, hl, hm, hmm, hx, hi'⟩
  · exact ⟨none, 0, 0, [], rfl, ⟨rfl, Nat.le_refl _, Nat.zero_le _, fun h => absurd h (by omega)⟩, by simp⟩
  · rw [hsp, if_pos rfl] at hmm
    subst hmm
    have each : ∀ k, k < len → ∃ u : Int × Int, w.cell? (a.add (k * 2)) = some (.int .i64 u.1) ∧ w.cell? (a.add (k * 2 + 1)) = some (.int .i64 u.2) ∧ (Lit.int .i64 u.1).wf = true ∧ (Lit.int .i64 u.2).wf = true := by
      intro k hk
      obtain ⟨cs', hcs, ht'⟩ := hi' k (by omega)
      rw [hc2] at hcs
      obtain ⟨_, hcl, hat⟩ := World.cells?_some hcs
      obtain ⟨ys, m', _, _, _, hyl, hy⟩ := DataW.trod_array he ht'
      rw [hc1] at hy
      have e0 := hat 0 (by omega)
      have e1 := hat 1 (by omega)
      obtain ⟨c0, c1, rfl⟩ : ∃ c0 c1, cs' = [c0, c1] := by
        match cs', hcl with
        | [c0, c1], _ => exact ⟨c0, c1, rfl⟩
      obtain ⟨y0, y1, rfl⟩ : ∃ y0 y1, ys = [y0, y1] := by
        match ys, hyl with
        | [y0, y1], _ => exact ⟨y0, y1, rfl⟩
      obtain ⟨n0, h0, _, w0⟩ := DataW.trod_int hi (hy 0 (by omega))
      obtain ⟨n1, h1, _, w1⟩ := DataW.trod_int hi (hy 1 (by omega))
      simp at h0 h1
      subst h0 h1
      refine ⟨(n0, n1), ?_, ?_, w0, w1⟩
      · rw [Go.Deep.add_add] at e0; simpa using e0
      · rw [Go.Deep.add_add] at e1; simpa using e1
    by_cases h0 : len = 0
    · subst h0
      exact ⟨some a, 0, m, [], rfl, ⟨rfl, Nat.zero_le _, hm, fun h => absurd h (by omega)⟩, by simp⟩
    · have hx : a.spot = none := by
        obtain ⟨u, hu, _⟩ := each 0 (by omega)
        unfold World.cell? Addr.add at hu
        simp at hu
        split at hu
        · rename_i hs
          by_cases e : a.spot.isSome
          · simp [e] at hu
          · cases hsp' : a.spot
            · rfl
            · simp [hsp'] at e
        · cases hu
      obtain ⟨b, o, sp⟩ := a
      simp at hx
      subst hx
      have hadd : ∀ j, (⟨b, o, none⟩ : Addr).add j = ⟨b, o + j, none⟩ := fun j => by unfold Addr.add; split <;> simp_all
      have each2 : ∀ k : Nat, ∃ u : Int × Int, k < len → w.cell? ⟨b, o + k * 2, none⟩ = some (.int .i64 u.1) ∧ w.cell? ⟨b, o + (k * 2 + 1), none⟩ = some (.int .i64 u.2) ∧ (Lit.int .i64 u.1).wf = true ∧ (Lit.int .i64 u.2).wf = true := by
        intro k
        by_cases hk : k < len
        · obtain ⟨u, h1, h2, h3, h4⟩ := each k hk
          rw [hadd] at h1 h2
          exact ⟨u, fun _ => ⟨h1, h2, h3, h4⟩⟩
        · exact ⟨(0, 0), fun h => absurd h hk⟩
      obtain ⟨U, hU⟩ := Classical.axiomOfChoice each2
      refine ⟨some ⟨b, o, none⟩, len, m, (List.range len).map U, rfl, ⟨by simp, hl, hm, fun _ => ⟨b, o, rfl, ?_, fun j u hu => ?_⟩⟩, fun u hu => ?_⟩
      · have := World.block_lt_of_cell? w _ (hU 0 (by omega)).1
        exact this
      · have hj : j < len := by
          have := (List.getElem?_eq_some_iff.1 hu).1
          simpa using this
        rw [List.getElem?_map, List.getElem?_range hj] at hu
        simp at hu
        subst hu
        exact ⟨(hU j hj).1, (hU j hj).2.1⟩
      · simp at hu
        obtain ⟨j, hj, rfl⟩ := hu
        exact ⟨wf_bd (hU j hj).2.2.1, wf_bd (hU j hj).2.2.2⟩
end

theorem Sl2.cells {w : World} {ad : Addr} {n c : Nat} {xs : List (Int × Int)} (h : Sl2 w (some ad) n c xs) : ∀ j u, (flat xs)[j]? = some u → w.cell? (ad.add j) = some u := by
  intro j u hu
  have hj := (List.getElem?_eq_some_iff.1 hu).1
  rw [flat_len] at hj
  obtain ⟨b, o, e, hb, hc⟩ := h.pos (by have := h.len; omega)
  obtain rfl := Option.some.inj e
  have hadd : (⟨b, o, none⟩ : Addr).add j = ⟨b, o + j, none⟩ := by unfold Addr.add; split <;> simp_all
  rw [hadd]
  have hl : j / 2 < xs.length := by omega
  have hf := flat_get xs (j / 2) _ (List.getElem?_eq_getElem hl)
  have hc' := hc (j / 2) _ (List.getElem?_eq_getElem hl)
  by_cases h0 : j % 2 = 0
  · have e : j / 2 * 2 = j := by omega
    rw [e] at hf hc'
    rw [hf.1] at hu
    cases hu
    exact hc'.1
  · have e : j / 2 * 2 + 1 = j := by omega
    rw [e] at hf hc'
    rw [hf.2] at hu
    cases hu
    exact hc'.2

set_option maxRecDepth 100000 in
set_option maxHeartbeats 400000 in
theorem clonePairs (A : Option Addr) (n c : Nat) (xs : List (Int × Int)) (hn : n ≤ 1000000) (w : World) (hs : Sl2 w A n c xs) :
    Calls Tryd.prog 54 #[.slice A n c] w fun e w' => ∃ A' c', e = .returned (.slice A' n c') ∧ Sl2 w' A' n c' xs ∧ Below w.heap.size w w' := by
  have qT : ∀ (w : World) (a : Option Addr) (n c n' c' : Nat), (binOp .eql 60 (.slice a n c) (.slice none n' c')).run Tryd.prog w = .ok (.bool a.isNone) w := fun w a n c n' c' => Lib.run_eql_slice_nil w _ _ a n c n' c' Tryd.underlying60
  obtain ⟨i0, hi, hz0, hz1, hz2⟩ := info_parts TP.inf
  cases A with
  | none =>
    obtain ⟨rfl, hx⟩ := hs.none_zero
    have HX := hid hx
    clear hx
    go_enter Tryd.func54, Tryd.ntmps54
    go_wp2
    go_ret
    exact ⟨none, 0, rfl, by rw [HX.out]; exact ⟨rfl, Nat.le_refl _, Nat.zero_le _, fun h => absurd h (by omega)⟩, Below.refl _ _⟩
  | some ad =>
    have hl := hid (show (flat xs).length = n * 2 by rw [flat_len, hs.len])
    have hcell := hid hs.cells
    clear hs
    go_enter Tryd.func54, Tryd.ntmps54
    go_wp2_with (at_builtin; refine wpList_append_own _ rfl _ _ 60 rfl w.heap.size 66 i0 (.agg #[.int .i64 0, .int .i64 0]) 2 16 TP.und hi hz0 hz1 hz2 rfl (by decide) _ 0 [] rfl (World.ownsRow_made w #[] 0 (Nat.le_refl _) (by unfold maxLen; omega) rfl) ad n c (flat xs) rfl ?c1 ?c2 (flat_one _) ?c3 ?c4 ?c5 ?c6)
    case c1 => rw [hl.out]
    case c2 => exact fun j u hu => cell_keep ((Below.refl _ _).alloc (Nat.le_refl _) _) (hcell.out j u hu)
    case c3 => unfold maxLen; omega
    case c4 => omega
    case c5 => simp
    case c6 =>
      intro v' w1 hown hg _
      obtain ⟨A', c', rfl⟩ := own_form hown
      have hb : Below w.heap.size w w1 := ((Below.refl _ _).alloc (Nat.le_refl _) _).grown hg (by simp) (fun k hk => by simp [Value.ownBlock] at hk; omega)
      clear hg
      go_wp2
      go_ret
      exact ⟨A', c', rfl, Sl2.of_own hown, hb⟩

set_option maxRecDepth 100000 in
set_option maxHeartbeats 400000 in
/-- pairs copies the beginning of a slice. -/
theorem lawPairs (A : Option Addr) (n c : Nat) (xs : List (Int × Int)) (w : World) (hs : Sl2 w A n c xs) :
    Calls Tryd.prog 51 #[.slice A n c] w fun e w' => ∃ A' c', e = .returned (.slice A' (min n 70) c') ∧ Sl2 w' A' (min n 70) c' (xs.take (min n 70)) ∧ Below w.heap.size w w' := by
  have hm := hs.len_le
  have hcap := hs.cap
  have ht := hs.take (min n 70) (Nat.min_le_left _ _)
  have HC := hid (clonePairs A (min n 70) c (xs.take (min n 70)) (by omega) w ht)
  clear ht hs
  by_cases h7 : n ≤ 70
  · have e : (min (n : Int) 70).toNat = n := by omega
    rw [Nat.min_eq_left h7] at HC ⊢
    go_enter Tryd.func51, Tryd.ntmps51
    go_wp2_with fail
    refine (HC.out).mono ?_; rintro e w1 ⟨A', c', rfl, ho, hb⟩
    go_wp2
    go_ret
    exact ⟨A', c', rfl, ho, hb⟩
  · have e : (min (n : Int) 70).toNat = 70 := by omega
    rw [Nat.min_eq_right (by omega)] at HC ⊢
    go_enter Tryd.func51, Tryd.ntmps51
    go_wp2_with fail
    refine (HC.out).mono ?_; rintro e w1 ⟨A', c', rfl, ho, hb⟩
    go_wp2
    go_ret
    exact ⟨A', c', rfl, ho, hb⟩
end Go.Proofs.YtjddbglbodkihaaDoor
