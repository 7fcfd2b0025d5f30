/- Walks of slices.Clone, of the law's list, and of slices.Equal. Conditions: slices read as lists of numbers. -/
import Derived.Test.YtjddbglbodkihaaDoorKept
import Derived.BigQuiet
import Derived.Deep.QuietTactic
import Derived.Deep.RegionLaw
import Derived.Deep.CutRange
namespace Go.Proofs.YtjddbglbodkihaaDoor
open Go.RowKit

def at0 (xs : List Int) (j : Nat) : Int := xs.getD j 0
theorem at0_get {xs : List Int} {j : Nat} {x : Int} (h : xs[j]? = some x) : at0 xs j = x := by simp [at0, h]
theorem at0_mem {xs : List Int} {j : Nat} (h : j < xs.length) : at0 xs j ∈ xs := by
  simp [at0, List.getD, h]
theorem Sl.len_le {w : World} {A : Option Addr} {n c : Nat} {xs : List Value} (h : Sl w A n c xs) : n ≤ 9223372036854775807 := by have := h.cap; have := h.capm; unfold maxLen at this; omega
theorem Sl.num {w : World} {A : Option Addr} {n c : Nat} {xs : List Int} (h : Sl w A n c (xs.map (Value.int .i64))) {k : Nat} (hk : k < n) : ∃ b o, A = some ⟨b, o, none⟩ ∧ b < w.heap.size ∧ k < xs.length ∧ w.cell? ⟨b, o + k, none⟩ = some (.int .i64 (at0 xs k)) := by
  obtain ⟨b, o, u, e, hl, hx, hc⟩ := h.at hk
  rw [List.getElem?_map] at hx
  obtain ⟨x, hy, rfl⟩ := Option.map_eq_some_iff.1 hx
  exact ⟨b, o, e, hl, (List.getElem?_eq_some_iff.1 hy).1, by rw [at0_get hy]; exact hc⟩
theorem Sl.numlen {w : World} {A : Option Addr} {n c : Nat} {xs : List Int} (h : Sl w A n c (xs.map (Value.int .i64))) : xs.length = n := by simpa using h.len
theorem ret_b {a b : Bool} (h : b = a) : Ending.returned (.bool a) = .returned (.bool b) := by rw [h]
theorem Sl.cells {w : World} {ad : Addr} {n c : Nat} {xs : List Value} (h : Sl w (some ad) n c xs) : ∀ j u, xs[j]? = some u → w.cell? (ad.add j) = some u := by
  intro j u hu
  have hj := (List.getElem?_eq_some_iff.1 hu).1
  obtain ⟨b, o, e, hb, hc⟩ := h.pos (by have := h.len; omega)
  obtain rfl := Option.some.inj e
  have hadd : (⟨b, o, none⟩ : Addr).add j = ⟨b, o + j, none⟩ := by unfold Addr.add; split <;> simp_all
  rw [hadd]
  exact hc j u hu
theorem Sl.none_zero {w : World} {n c : Nat} {xs : List Value} (h : Sl w none n c xs) : n = 0 ∧ xs = [] := by
  have h0 : n = 0 := by
    rcases Nat.eq_zero_or_pos n with h0 | h0
    · exact h0
    · obtain ⟨_, _, e, _⟩ := h.pos h0
      cases e
  exact ⟨h0, List.eq_nil_of_length_eq_zero (by have := h.len; omega)⟩

set_option maxRecDepth 100000 in
set_option maxHeartbeats 400000 in
theorem cloneInts (A : Option Addr) (n c : Nat) (xs : List Int) (hn : n ≤ 1000000) (w : World) (hs : Sl w A n c (xs.map (Value.int .i64))) :
    Calls Tryd.prog 33 #[.slice A n c] w fun e w' => ∃ A' c', e = .returned (.slice A' n c') ∧ w'.ownsRow w.heap.size 3 1 (.slice A' n c') n (xs.map (Value.int .i64)) ∧ Below w.heap.size w w' := by
  have qT : ∀ (w : World) (a : Option Addr) (n c n' c' : Nat), (binOp .eql 22 (.slice a n c) (.slice none n' c')).run Tryd.prog w = .ok (.bool a.isNone) w := fun w a n c n' c' => Lib.run_eql_slice_nil w _ _ a n c n' c' Tryd.underlying22
  obtain ⟨i0, hi, hz0, hz1, hz2⟩ := info_parts TI22.inf
  cases A with
  | none =>
    obtain ⟨rfl, hx⟩ := hs.none_zero
    have HX := hid hx
    clear hx
    go_enter Tryd.func33, Tryd.ntmps33
    go_wp2
    go_ret
    exact ⟨none, 0, rfl, by rw [HX.out]; exact World.ownsRow_nil _ _ _ _, Below.refl _ _⟩
  | some ad =>
    have hl := hid (show (xs.map (Value.int .i64)).length = n from hs.len)
    have hcell := hid hs.cells
    clear hs
    go_enter Tryd.func33, Tryd.ntmps33
    go_wp2_with (at_builtin; refine wpList_append_own _ rfl _ _ 22 rfl w.heap.size 3 i0 (.int .i64 0) 1 8 TI22.und hi hz0 hz1 hz2 rfl (by decide) _ 0 [] rfl (World.ownsRow_made w #[] 0 (Nat.le_refl _) (by unfold maxLen; omega) rfl) ad n c (xs.map (Value.int .i64)) rfl ?c1 ?c2 (ints_oneCell _ _) ?c3 ?c4 ?c5 ?c6)
    case c1 => rw [hl.out]; omega
    case c2 => exact fun j u hu => cell_keep ((Below.refl _ _).alloc (Nat.le_refl _) _) (hcell.out j u hu)
    case c3 => unfold maxLen; omega
    case c4 => omega
    case c5 => simp
    case c6 =>
      intro v' w1 hown hg _
      obtain ⟨A', c', rfl⟩ := own_form hown
      have hb : Below w.heap.size w w1 := ((Below.refl _ _).alloc (Nat.le_refl _) _).grown hg (by simp) (fun k hk => by simp [Value.ownBlock] at hk; omega)
      clear hg
      go_wp2
      go_ret
      exact ⟨A', c', rfl, hown, hb⟩

set_option maxRecDepth 100000 in
set_option maxHeartbeats 400000 in
/-- list copies the beginning of a slice. -/
theorem lawList (A : Option Addr) (n c : Nat) (xs : List Int) (w : World) (hs : Sl w A n c (xs.map (Value.int .i64))) :
    Calls Tryd.prog 16 #[.slice A n c] w fun e w' => ∃ A' c', e = .returned (.slice A' (min n 70) c') ∧ w'.ownsRow w.heap.size 3 1 (.slice A' (min n 70) c') (min n 70) ((xs.take (min n 70)).map (Value.int .i64)) ∧ Below w.heap.size w w' := by
  have hm := hs.len_le
  have hcap := hs.cap
  have ht := hs.take (min n 70) (Nat.min_le_left _ _)
  rw [← List.map_take] at ht
  have HC := hid (cloneInts A (min n 70) c (xs.take (min n 70)) (by omega) w ht)
  clear ht hs
  by_cases h7 : n ≤ 70
  · rw [Nat.min_eq_left h7] at HC ⊢
    go_enter Tryd.func16, Tryd.ntmps16
    go_wp2_with (go_at_call 33; refine (HC.out).mono ?_; rintro e w1 ⟨A', c', rfl, ho, hb⟩)
    go_ret
    exact ⟨A', c', rfl, by first | exact ho | (rw [← List.map_take]; exact ho), hb⟩
  · rw [Nat.min_eq_right (by omega)] at HC ⊢
    go_enter Tryd.func16, Tryd.ntmps16
    go_wp2_with (go_at_call 33; refine (HC.out).mono ?_; rintro e w1 ⟨A', c', rfl, ho, hb⟩)
    go_ret
    exact ⟨A', c', rfl, by first | exact ho | (rw [← List.map_take]; exact ho), hb⟩

set_option maxRecDepth 100000 in
set_option maxHeartbeats 400000 in
theorem equalInts (A B : Option Addr) (n c m d : Nat) (xs ys : List Int) (w : World) (hs : Sl w A n c (xs.map (Value.int .i64))) (ht : Sl w B m d (ys.map (Value.int .i64))) :
    Calls Tryd.prog 19 #[.slice A n c, .slice B m d] w fun e w' => e = .returned (.bool (decide (xs = ys))) ∧ Below w.heap.size w w' := by
  have hlm := hs.len_le
  have hlm' := ht.len_le
  by_cases hnm : n = m
  · subst hnm
    have HL := hid hs.numlen
    have HM := hid ht.numlen
    go_enter Tryd.func19, Tryd.ntmps19
    go_wp2
    go_loopg [13] n (fun gk i wr => ∃ k : Nat, gk + k = n ∧ i = .int .i64 k ∧ (∀ j, j < k → at0 xs j = at0 ys j) ∧ Below w.heap.size w wr)
    case atStart => exact ⟨0, by omega, rfl, fun j h => absurd h (by omega), Below.refl _ _⟩
    case round =>
      obtain ⟨k, hk, rfl, hno, hb⟩ := hrel
      have HO := hid hno; have HK := hid hk; clear hno hk
      by_cases hlt : k < n
      · obtain ⟨b, o, rfl, lb, hkl, ca⟩ := hs.num hlt
        obtain ⟨b', o', rfl, lb', hkl', ca'⟩ := ht.num hlt
        have cc := (hb.cell (p := ⟨b, o + k, none⟩) lb).trans ca
        have cc' := (hb.cell (p := ⟨b', o' + k, none⟩) lb').trans ca'
        have HX := hid hkl; have HY := hid hkl'
        clear ca ca' hkl hkl'
        by_cases e : at0 xs k = at0 ys k
        · rw [e] at cc
          have E := hid e; clear e
          go_wp2_with fail
          go_quiet (fail)
          go_wp2
          go_roundg (gk - 1)
          case measure => have := HK.out; omega
          case rel =>
            refine ⟨k + 1, by have := HK.out; omega, by go_num, fun j hj => ?_, below_drewN hb _⟩
            by_cases e : j = k
            · subst e; exact E.out
            · exact HO.out j (by omega)
        · have hne : (at0 xs k != at0 ys k) = true := by rw [bne_iff_ne]; exact e
          have hf := hid (show decide (xs = ys) = false from decide_eq_false fun h => e (by rw [h]))
          clear e
          go_wp2_with fail
          go_quiet (fail)
          go_wp2
          go_ret
          exact ⟨ret_b hf.out, below_drewN hb _⟩
      · have hf := hid (show decide (xs = ys) = true from decide_eq_true (by
          have h1 := HL.out; have h2 := HM.out; have h3 := HK.out
          apply List.ext_getElem (by omega)
          intro j hj hj'
          have := HO.out j (by omega)
          simpa [at0, hj, hj'] using this))
        go_wp2
        go_ret
        exact ⟨ret_b hf.out, hb⟩
  · have hne : ((n : Int) != (m : Int)) = true := by rw [bne_iff_ne]; omega
    have hne' : (n != m) = true := by rw [bne_iff_ne]; omega
    have hf := hid (show decide (xs = ys) = false from decide_eq_false fun h => hnm (by rw [← hs.numlen, ← ht.numlen, h]))
    go_enter Tryd.func19, Tryd.ntmps19
    go_wp2
    go_ret
    exact ⟨ret_b hf.out, Below.refl _ _⟩


end Go.Proofs.YtjddbglbodkihaaDoor
