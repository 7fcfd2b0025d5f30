/- Walks of slices.Clone of pairs, the law's pairs, the reference's Examples. Condition: the slice reads as a list of pairs. -/
import Derived.Test.YtpebglilphgamaaPairs
namespace Go.Proofs.Ytpebglilphgamaa
open Go.RowKit

theorem Sl2.cells {w : World} {ad : Addr} {n c : Nat} {xs : List (Int × Int)} (h : Sl2 w (some ad) n c xs) : ∀ j u, (flat xs)[j]? = some u → w.cell? (ad.add j) = some u := by
  intro j u hu
  have hj := (List.getElem?_eq_some_iff.1 hu).1
  rw [flat_len] at hj
  obtain ⟨b, o, e, hb, hc⟩ := h.pos (by have := h.len; omega)
  obtain rfl := Option.some.inj e
  have hadd : (⟨b, o, none⟩ : Addr).add j = ⟨b, o + j, none⟩ := by unfold Addr.add; split <;> simp_all
  rw [hadd]
  have hl : j / 2 < xs.length := by omega
  have hf := flat_get xs (j / 2) _ (List.getElem?_eq_getElem hl)
  have hc' := hc (j / 2) _ (List.getElem?_eq_getElem hl)
  by_cases h0 : j % 2 = 0
  · have e : j / 2 * 2 = j := by omega
    rw [e] at hf hc'
    rw [hf.1] at hu
    cases hu
    exact hc'.1
  · have e : j / 2 * 2 + 1 = j := by omega
    rw [e] at hf hc'
    rw [hf.2] at hu
    cases hu
    exact hc'.2

set_option maxRecDepth 100000 in
set_option maxHeartbeats 400000 in
theorem clonePairs (A : Option Addr) (n c : Nat) (xs : List (Int × Int)) (hn : n ≤ 1000000) (w : World) (hs : Sl2 w A n c xs) :
    Calls Try.prog 54 #[.slice A n c] w fun e w' => ∃ A' c', e = .returned (.slice A' n c') ∧ Sl2 w' A' n c' xs ∧ Below w.heap.size w w' := by
  have qT : ∀ (w : World) (a : Option Addr) (n c n' c' : Nat), (binOp .eql 23 (.slice a n c) (.slice none n' c')).run Try.prog w = .ok (.bool a.isNone) w := fun w a n c n' c' => Lib.run_eql_slice_nil w _ _ a n c n' c' Try.underlying23
  obtain ⟨i0, hi, hz0, hz1, hz2⟩ := info_parts TP.inf
  cases A with
  | none =>
    obtain ⟨rfl, hx⟩ := hs.none_zero
    have HX := hid hx
    clear hx
    go_enter Try.func54, Try.ntmps54
    go_wp2
    go_ret
    exact ⟨none, 0, rfl, by rw [HX.out]; exact ⟨rfl, Nat.le_refl _, Nat.zero_le _, fun h => absurd h (by omega)⟩, Below.refl _ _⟩
  | some ad =>
    have hl := hid (show (flat xs).length = n * 2 by rw [flat_len, hs.len])
    have hcell := hid hs.cells
    clear hs
    go_enter Try.func54, Try.ntmps54
    go_wp2_with (at_builtin; refine wpList_append_own _ rfl _ _ 23 rfl w.heap.size 42 i0 (.agg #[.int .i64 0, .int .i64 0]) 2 16 TP.und hi hz0 hz1 hz2 rfl (by decide) _ 0 [] rfl (World.ownsRow_made w #[] 0 (Nat.le_refl _) (by unfold maxLen; omega) rfl) ad n c (flat xs) rfl ?c1 ?c2 (flat_one _) ?c3 ?c4 ?c5 ?c6)
    case c1 => rw [hl.out]
    case c2 => exact fun j u hu => cell_keep ((Below.refl _ _).alloc (Nat.le_refl _) _) (hcell.out j u hu)
    case c3 => unfold maxLen; omega
    case c4 => omega
    case c5 => simp
    case c6 =>
      intro v' w1 hown hg _
      obtain ⟨A', c', rfl⟩ := own_form hown
      have hb : Below w.heap.size w w1 := ((Below.refl _ _).alloc (Nat.le_refl _) _).grown hg (by simp) (fun k hk => by simp [Value.ownBlock] at hk; omega)
      clear hg
      go_wp2
      go_ret
      exact ⟨A', c', rfl, Sl2.of_own hown, hb⟩

set_option maxRecDepth 100000 in
set_option maxHeartbeats 400000 in
/-- pairs copies the beginning of a slice. -/
theorem lawPairs (A : Option Addr) (n c : Nat) (xs : List (Int × Int)) (w : World) (hs : Sl2 w A n c xs) :
    Calls Try.prog 18 #[.slice A n c] w fun e w' => ∃ A' c', e = .returned (.slice A' (min n 25) c') ∧ Sl2 w' A' (min n 25) c' (xs.take (min n 25)) ∧ Below w.heap.size w w' := by
  have hm := hs.len_le
  have hcap := hs.cap
  have ht := hs.take (min n 25) (Nat.min_le_left _ _)
  have HC := hid (clonePairs A (min n 25) c (xs.take (min n 25)) (by omega) w ht)
  clear ht hs
  by_cases h7 : n ≤ 25
  · rw [Nat.min_eq_left h7] at HC ⊢
    go_enter Try.func18, Try.ntmps18
    go_wp2_with (go_at_call 54; refine (HC.out).mono ?_; rintro e w1 ⟨A', c', rfl, ho, hb⟩)
    go_ret
    exact ⟨A', c', rfl, ho, hb⟩
  · rw [Nat.min_eq_right (by omega)] at HC ⊢
    go_enter Try.func18, Try.ntmps18
    go_wp2_with (go_at_call 54; refine (HC.out).mono ?_; rintro e w1 ⟨A', c', rfl, ho, hb⟩)
    go_ret
    exact ⟨A', c', rfl, ho, hb⟩
end Go.Proofs.Ytpebglilphgamaa
