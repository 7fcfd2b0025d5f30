/- evade.read of what is no family. Conditions: the slice reads as numbers; the table of the library stands. -/
import Derived.Test.YtjddbglbodkihaaDoorReadOdd
namespace Go.Proofs.YtjddbglbodkihaaDoor
open Go.RowKit

theorem readNo (n : Int) (A : Option Addr) (m c : Nat) (xs : List Int) (w : World) (hs : Sl w A m c (xs.map (Value.int .i64))) (hT : Tab w) (H : ¬ Fam n xs) :
    Calls Tryd.prog 57 #[.int .i64 n, .slice A m c] w fun e w' => (∃ G : Nat, e = .returned (.tuple #[.agg #[.int .i64 n, .int .u64 G], .bool false])) ∧ Below w.heap.size w w' := by
  have hmm : m ≤ 9223372036854775807 := by have h1 := hs.cap; have h2 := hs.capm; unfold maxLen at h2; omega
  by_cases hc : n < 1 ∨ 6 < n ∨ 64 < m
  · exact readBad n A m c w (hid fun W _ => collectNo n A m c W hmm hc)
  · obtain ⟨k, rfl⟩ := Int.eq_ofNat_of_zero_le (show 0 ≤ n by omega)
    have h1 : 1 ≤ k := by omega
    have h6 : k ≤ 6 := by omega
    have hm : m ≤ 64 := by omega
    cases hok : setsOk k xs with
    | false =>
      refine readBad k A m c w (hid fun W hW => ?_)
      have e := collectF k A m c xs W h1 h6 hm (hs.below hW)
      rw [hok] at e
      exact e.mono fun _ _ h => ⟨⟨h.1.choose, h.1.choose_spec.1⟩, h.2⟩
    | true =>
      by_cases hl : famL 64 (setF xs).testBit = xs
      · exact (readOpen k A m c xs w hs hT h1 h6 hok hl H).mono fun _ _ h => ⟨⟨_, h.1⟩, h.2⟩
      · exact (readOdd k A m c xs w hs hT h1 h6 hm hok hl).mono fun _ _ h => ⟨⟨_, h.1⟩, h.2⟩
end Go.Proofs.YtjddbglbodkihaaDoor
