/- Slices of triples: how they come in, how they lie in memory; walks of slices.Clone of them and of the law's triples. Condition: the slice reads as a list of triples. -/
import Derived.Test.YtdclmhmdkhpekaaLib
import Derived.Deep.Slices
import Derived.OpenShut
namespace Go.Proofs.Ytdclmhmdkhpekaa
open Go.RowKit Go.ChangeShapes Go.WideShapes Go.Deep

abbrev Tri := Int × Int × Int
def triV (u : Tri) : List Value := [.int .i64 u.1, .int .i64 u.2.1, .int .i64 u.2.2]
theorem TT : TS Try.prog 51 65 3 24 (.agg #[.int .i64 0, .int .i64 0, .int .i64 0]) := ⟨Try.underlying51, by kernel_rfl, rfl, by decide⟩
/-- A slice of triples that reads as xs. -/
structure Slt (w : World) (A : Option Addr) (n c : Nat) (xs : List Tri) : Prop where
  len : xs.length = n
  cap : n ≤ c
  capm : c ≤ maxLen
  pos : 0 < n → ∃ b o, A = some ⟨b, o, none⟩ ∧ b < w.heap.size ∧ ∀ (j : Nat) (u : Tri), xs[j]? = some u → w.cell? ⟨b, o + j * 3, none⟩ = some (.int .i64 u.1) ∧ w.cell? ⟨b, o + (j * 3 + 1), none⟩ = some (.int .i64 u.2.1) ∧ w.cell? ⟨b, o + (j * 3 + 2), none⟩ = some (.int .i64 u.2.2)
def flat3 (xs : List Tri) : List Value := xs.flatMap triV
theorem flat3_len (xs : List Tri) : (flat3 xs).length = xs.length * 3 := by
  induction xs with
  | nil => rfl
  | cons u xs ih =>
    have : flat3 (u :: xs) = .int .i64 u.1 :: .int .i64 u.2.1 :: .int .i64 u.2.2 :: flat3 xs := rfl
    rw [this, List.length_cons, List.length_cons, List.length_cons, ih, List.length_cons]; omega
theorem flat3_one (xs : List Tri) : ∀ u ∈ flat3 xs, u.oneCell' = true := by
  intro u hu
  unfold flat3 at hu
  rw [List.mem_flatMap] at hu
  obtain ⟨v, _, h⟩ := hu
  simp [triV] at h
  rcases h with h | h | h <;> subst h <;> rfl
theorem flat3_get : ∀ (ts : List Tri) (j : Nat) (u : Tri), ts[j]? = some u → (flat3 ts)[j * 3]? = some (.int .i64 u.1) ∧ (flat3 ts)[j * 3 + 1]? = some (.int .i64 u.2.1) ∧ (flat3 ts)[j * 3 + 2]? = some (.int .i64 u.2.2) := by
  intro ts
  induction ts with
  | nil => intro j u h; simp at h
  | cons v ts ih =>
    intro j u h
    have e : flat3 (v :: ts) = .int .i64 v.1 :: .int .i64 v.2.1 :: .int .i64 v.2.2 :: flat3 ts := rfl
    rw [e]
    cases j with
    | zero => simp at h; subst h; exact ⟨rfl, rfl, rfl⟩
    | succ j =>
      have := ih j u (by simpa using h)
      have e2 : (j + 1) * 3 = j * 3 + 3 := by omega
      rw [e2]
      exact ⟨by simpa using this.1, by simpa using this.2.1, by simpa using this.2.2⟩
section
variable {w w' : World} {A : Option Addr} {n c : Nat} {xs : List Tri}
theorem Slt.below (h : Slt w A n c xs) (hb : Below w.heap.size w w') : Slt w' A n c xs :=
  ⟨h.len, h.cap, h.capm, fun hn => by
    obtain ⟨b, o, e, hl, hc⟩ := h.pos hn
    refine ⟨b, o, e, by have := hb.size; omega, fun j u hu => ?_⟩
    exact ⟨(hb.cell (p := ⟨b, o + j * 3, none⟩) hl).trans (hc j u hu).1, (hb.cell (p := ⟨b, o + (j * 3 + 1), none⟩) hl).trans (hc j u hu).2.1, (hb.cell (p := ⟨b, o + (j * 3 + 2), none⟩) hl).trans (hc j u hu).2.2⟩⟩
theorem Slt.drewN (h : Slt w A n c xs) (k : Nat) : Slt (w.drewN k) A n c xs := ⟨h.len, h.cap, h.capm, h.pos⟩
theorem Slt.take (h : Slt w A n c xs) (k : Nat) (hk : k ≤ n) : Slt w A k c (xs.take k) :=
  ⟨by simp [h.len]; omega, by have := h.cap; omega, h.capm, fun hn => by
    obtain ⟨b, o, e, hb, hc⟩ := h.pos (by omega)
    exact ⟨b, o, e, hb, fun j u hu => hc j u (by
      rw [List.getElem?_take] at hu
      split at hu
      · exact hu
      · cases hu)⟩⟩
theorem Slt.at (h : Slt w A n c xs) {k : Nat} (hk : k < n) : ∃ b o u, A = some ⟨b, o, none⟩ ∧ b < w.heap.size ∧ xs[k]? = some u ∧ w.cell? ⟨b, o + k * 3, none⟩ = some (.int .i64 u.1) ∧ w.cell? ⟨b, o + (k * 3 + 1), none⟩ = some (.int .i64 u.2.1) ∧ w.cell? ⟨b, o + (k * 3 + 2), none⟩ = some (.int .i64 u.2.2) := by
  obtain ⟨b, o, e, hb, hc⟩ := h.pos (by omega)
  have hl : k < xs.length := by have := h.len; omega
  exact ⟨b, o, xs[k], e, hb, List.getElem?_eq_getElem hl, hc k _ (List.getElem?_eq_getElem hl)⟩
theorem Slt.len_le (h : Slt w A n c xs) : n ≤ 9223372036854775807 := by have := h.cap; have := h.capm; unfold maxLen at this; omega
theorem Slt.none_zero (h : Slt w none n c xs) : n = 0 ∧ xs = [] := by
  have h0 : n = 0 := by
    rcases Nat.eq_zero_or_pos n with h0 | h0
    · exact h0
    · obtain ⟨_, _, e, _⟩ := h.pos h0
      cases e
  exact ⟨h0, List.eq_nil_of_length_eq_zero (by have := h.len; omega)⟩
theorem Slt.nil (w : World) : Slt w none 0 0 [] := ⟨rfl, Nat.le_refl _, Nat.zero_le _, fun h => absurd h (by omega)⟩
theorem Slt.of_own {base : Nat} {e : TypeId} (h : w.ownsRow base e 3 (.slice A n c) n (flat3 xs)) : Slt w A n c xs := by
  have hlen : xs.length = n := by
    have h1 := h.1
    have h2 := flat3_len xs
    omega
  rcases h.2 with ⟨hv, hn⟩ | ⟨g, cap, cur, hv, hb, hg, hc, hm, hs, ht⟩
  · simp at hv
    obtain ⟨rfl, -, rfl⟩ := hv
    subst hn
    exact ⟨hlen, Nat.le_refl _, Nat.zero_le _, fun h => absurd h (by omega)⟩
  · simp at hv
    obtain ⟨rfl, rfl⟩ := hv
    have hadd : ∀ j, (⟨g, 0, none⟩ : Addr).add j = ⟨g, j, none⟩ := fun j => by unfold Addr.add; split <;> simp_all
    refine ⟨hlen, hc, hm, fun _ => ⟨g, 0, rfl, lt_of_block hg, fun j u hu => ?_⟩⟩
    have hf := flat3_get xs j u hu
    have c0 := h.cells (g := g) rfl _ _ hf.1
    have c1 := h.cells (g := g) rfl _ _ hf.2.1
    have c2 := h.cells (g := g) rfl _ _ hf.2.2
    rw [hadd] at c0 c1 c2
    simpa using ⟨c0, c1, c2⟩
theorem Slt.cells {ad : Addr} (h : Slt w (some ad) n c xs) : ∀ j u, (flat3 xs)[j]? = some u → w.cell? (ad.add j) = some u := by
  intro j u hu
  have hj := (List.getElem?_eq_some_iff.1 hu).1
  rw [flat3_len] at hj
  obtain ⟨b, o, e, hb, hc⟩ := h.pos (by have := h.len; omega)
  obtain rfl := Option.some.inj e
  have hadd : (⟨b, o, none⟩ : Addr).add j = ⟨b, o + j, none⟩ := by unfold Addr.add; split <;> simp_all
  rw [hadd]
  have hl : j / 3 < xs.length := by omega
  have hf := flat3_get xs (j / 3) _ (List.getElem?_eq_getElem hl)
  have hc' := hc (j / 3) _ (List.getElem?_eq_getElem hl)
  rcases (show j % 3 = 0 ∨ j % 3 = 1 ∨ j % 3 = 2 by omega) with h0 | h0 | h0
  · have e : j / 3 * 3 = j := by omega
    rw [e] at hf hc'
    rw [hf.1] at hu
    cases hu
    exact hc'.1
  · have e : j / 3 * 3 + 1 = j := by omega
    rw [e] at hf hc'
    rw [hf.2.1] at hu
    cases hu
    exact hc'.2.1
  · have e : j / 3 * 3 + 2 = j := by omega
    rw [e] at hf hc'
    rw [hf.2.2] at hu
    cases hu
    exact hc'.2.2
end

section
variable {H : Type} {enc : TypeId × Value → H} {P : Program} {w : World} {base : Nat} {spare : Nat → Bool} {held : Bool}
theorem open_triples {t e i : TypeId} {fuel : Nat} {cs : List Value} {x : DataW H × List MemPlace} (ht : P.underlying t = some (.slice e)) (he : P.underlying e = some (.array 3 i)) (hi : P.underlying i = some (.int .i64)) (hc1 : P.cellsOf i = 1) (hc2 : P.cellsOf e = 3)
    (hsp : ∀ k, spare k = true)
    (h : DataW.trod enc P w base spare held fuel t cs = some x) :
    ∃ (A : Option Addr) (len cap : Nat) (xs : List Tri), cs = [.slice A len cap] ∧ Slt w A len cap xs := by
  rcases open_slice ht h with ⟨rfl, _⟩ | ⟨a, len, cap, m, n, D, Pl, rfl, hb, hl, hm, hmm, hx, hi'⟩
  · exact ⟨none, 0, 0, [], rfl, Slt.nil w⟩
  · rw [hsp, if_pos rfl] at hmm
    subst hmm
    have each : ∀ k, k < len → ∃ u : Tri, w.cell? (a.add (k * 3)) = some (.int .i64 u.1) ∧ w.cell? (a.add (k * 3 + 1)) = some (.int .i64 u.2.1) ∧ w.cell? (a.add (k * 3 + 2)) = some (.int .i64 u.2.2) := by
      intro k hk
      obtain ⟨cs', hcs, ht'⟩ := hi' k (by omega)
      rw [hc2] at hcs
      obtain ⟨_, hcl, hat⟩ := World.cells?_some hcs
      obtain ⟨ys, m', _, _, _, hyl, hy⟩ := DataW.trod_array he ht'
      rw [hc1] at hy
      have e0 := hat 0 (by omega)
      have e1 := hat 1 (by omega)
      have e2 := hat 2 (by omega)
      obtain ⟨c0, c1, c2, rfl⟩ : ∃ c0 c1 c2, cs' = [c0, c1, c2] := by
        match cs', hcl with
        | [c0, c1, c2], _ => exact ⟨c0, c1, c2, rfl⟩
      obtain ⟨y0, y1, y2, rfl⟩ : ∃ y0 y1 y2, ys = [y0, y1, y2] := by
        match ys, hyl with
        | [y0, y1, y2], _ => exact ⟨y0, y1, y2, rfl⟩
      obtain ⟨n0, h0, _, w0⟩ := DataW.trod_int hi (hy 0 (by omega))
      obtain ⟨n1, h1, _, w1⟩ := DataW.trod_int hi (hy 1 (by omega))
      obtain ⟨n2, h2, _, w2⟩ := DataW.trod_int hi (hy 2 (by omega))
      simp at h0 h1 h2
      subst h0 h1 h2
      refine ⟨(n0, n1, n2), ?_, ?_, ?_⟩
      · rw [Go.Deep.add_add] at e0; simpa using e0
      · rw [Go.Deep.add_add] at e1; simpa using e1
      · rw [Go.Deep.add_add] at e2; simpa using e2
    by_cases h0 : len = 0
    · subst h0
      exact ⟨some a, 0, m, [], rfl, ⟨rfl, Nat.zero_le _, hm, fun h => absurd h (by omega)⟩⟩
    · have hx : a.spot = none := by
        obtain ⟨u, hu, _⟩ := each 0 (by omega)
        unfold World.cell? Addr.add at hu
        simp at hu
        split at hu
        · rename_i hs
          by_cases e : a.spot.isSome
          · simp [e] at hu
          · cases hsp' : a.spot
            · rfl
            · simp [hsp'] at e
        · cases hu
      obtain ⟨b, o, sp⟩ := a
      simp at hx
      subst hx
      have hadd : ∀ j, (⟨b, o, none⟩ : Addr).add j = ⟨b, o + j, none⟩ := fun j => by unfold Addr.add; split <;> simp_all
      have each2 : ∀ k : Nat, ∃ u : Tri, k < len → w.cell? ⟨b, o + k * 3, none⟩ = some (.int .i64 u.1) ∧ w.cell? ⟨b, o + (k * 3 + 1), none⟩ = some (.int .i64 u.2.1) ∧ w.cell? ⟨b, o + (k * 3 + 2), none⟩ = some (.int .i64 u.2.2) := by
        intro k
        by_cases hk : k < len
        · obtain ⟨u, h1, h2, h3⟩ := each k hk
          rw [hadd] at h1 h2 h3
          exact ⟨u, fun _ => ⟨h1, h2, h3⟩⟩
        · exact ⟨(0, 0, 0), fun h => absurd h hk⟩
      obtain ⟨U, hU⟩ := Classical.axiomOfChoice each2
      refine ⟨some ⟨b, o, none⟩, len, m, (List.range len).map U, rfl, ⟨by simp, hl, hm, fun _ => ⟨b, o, rfl, World.block_lt_of_cell? w _ (hU 0 (by omega)).1, fun j u hu => ?_⟩⟩⟩
      have hj : j < len := by
        have := (List.getElem?_eq_some_iff.1 hu).1
        simpa using this
      rw [List.getElem?_map, List.getElem?_range hj] at hu
      simp at hu
      subst hu
      exact hU j hj
end

set_option maxRecDepth 100000 in
set_option maxHeartbeats 400000 in
theorem cloneTriples (A : Option Addr) (n c : Nat) (xs : List Tri) (hn : n ≤ 1000000) (w : World) (hs : Slt w A n c xs) :
    Calls Try.prog 67 #[.slice A n c] w fun e w' => ∃ A' c', e = .returned (.slice A' n c') ∧ w'.ownsRow w.heap.size 65 3 (.slice A' n c') n (flat3 xs) ∧ Below w.heap.size w w' := by
  have qT : ∀ (w : World) (a : Option Addr) (n c n' c' : Nat), (binOp .eql 51 (.slice a n c) (.slice none n' c')).run Try.prog w = .ok (.bool a.isNone) w := fun w a n c n' c' => Lib.run_eql_slice_nil w _ _ a n c n' c' Try.underlying51
  obtain ⟨i0, hi, hz0, hz1, hz2⟩ := info_parts TT.inf
  cases A with
  | none =>
    obtain ⟨rfl, hx⟩ := hs.none_zero
    have HX := hid hx
    clear hx
    go_enter Try.func67, Try.ntmps67
    go_wp2
    go_ret
    exact ⟨none, 0, rfl, by rw [HX.out]; exact World.ownsRow_nil _ _ _ _, Below.refl _ _⟩
  | some ad =>
    have hl := hid (show (flat3 xs).length = n * 3 by rw [flat3_len, hs.len])
    have hcell := hid hs.cells
    clear hs
    go_enter Try.func67, Try.ntmps67
    go_wp2_with (at_builtin; refine wpList_append_own _ rfl _ _ 51 rfl w.heap.size 65 i0 (.agg #[.int .i64 0, .int .i64 0, .int .i64 0]) 3 24 TT.und hi hz0 hz1 hz2 rfl (by decide) _ 0 [] rfl (World.ownsRow_made w #[] 0 (Nat.le_refl _) (by unfold maxLen; omega) rfl) ad n c (flat3 xs) rfl ?c1 ?c2 (flat3_one _) ?c3 ?c4 ?c5 ?c6)
    case c1 => rw [hl.out]
    case c2 => exact fun j u hu => cell_keep ((Below.refl _ _).alloc (Nat.le_refl _) _) (hcell.out j u hu)
    case c3 => unfold maxLen; omega
    case c4 => omega
    case c5 => simp
    case c6 =>
      intro v' w1 hown hg _
      obtain ⟨A', c', rfl⟩ := own_form hown
      have hb : Below w.heap.size w w1 := ((Below.refl _ _).alloc (Nat.le_refl _) _).grown hg (by simp) (fun k hk => by simp [Value.ownBlock] at hk; omega)
      clear hg
      go_wp2
      go_ret
      exact ⟨A', c', by simp, by simpa using hown, hb⟩

set_option maxRecDepth 100000 in
set_option maxHeartbeats 400000 in
/-- triples copies the beginning of a slice. -/
theorem lawTriples (A : Option Addr) (n c : Nat) (xs : List Tri) (w : World) (hs : Slt w A n c xs) :
    Calls Try.prog 41 #[.slice A n c] w fun e w' => ∃ A' c', e = .returned (.slice A' (min n 13) c') ∧ w'.ownsRow w.heap.size 65 3 (.slice A' (min n 13) c') (min n 13) (flat3 (xs.take (min n 13))) ∧ Below w.heap.size w w' := by
  have hm := hs.len_le
  have hcap := hs.cap
  have ht := hs.take (min n 13) (Nat.min_le_left _ _)
  have HC := hid (cloneTriples A (min n 13) c (xs.take (min n 13)) (by omega) w ht)
  clear ht hs
  by_cases h7 : n ≤ 13
  · rw [Nat.min_eq_left h7] at HC ⊢
    go_enter Try.func41, Try.ntmps41
    go_wp2_with (go_at_call 67; refine (HC.out).mono ?_; rintro e w1 ⟨A', c', rfl, ho, hb⟩)
    go_ret
    exact ⟨A', c', rfl, ho, hb⟩
  · rw [Nat.min_eq_right (by omega)] at HC ⊢
    go_enter Try.func41, Try.ntmps41
    go_wp2_with (go_at_call 67; refine (HC.out).mono ?_; rintro e w1 ⟨A', c', rfl, ho, hb⟩)
    go_ret
    exact ⟨A', c', rfl, ho, hb⟩
end Go.Proofs.Ytdclmhmdkhpekaa
