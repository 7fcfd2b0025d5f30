/- What an interview keeps: a map from positions to whether they are won. No condition. -/
import Derived.Test.YtdclmhmdkhpekaaWinM
import Derived.Test.YtdclmhmdkhpekaaMemo
import Derived.Test.YtdclmhmdkhpekaaWeights
import Derived.Laws.CopyOwn
import Derived.DeepKeys4
namespace Go.Proofs.Ytdclmhmdkhpekaa
open Go.RowKit Go.Maps

theorem laidOutK : laidOutB Try.prog = true := by kernel_rfl
theorem K112 : Keyed Try.prog 112 := Keyed.of_law (deep_law_laid laidOutK (m := 4) (by omega) (of_decide_eq_true (by kernel_rfl)) (by kernel_rfl) (by rw [Try.underlying112]))
/-- A position as a key. -/
def keyV (xs : List Int) (q : Int) : Value := .agg #[.int .i64 (at0 xs 0), .int .i64 (at0 xs 1), .int .i64 (at0 xs 2), .int .i64 (at0 xs 3), .int .i64 (xs.length : Nat), .int .i64 q]
theorem wf_mk {n : Int} (h : -9223372036854775808 ≤ n ∧ n ≤ 9223372036854775807) : (Lit.int .i64 n).wf = true := by
  have hmin : IntKind.i64.min = -9223372036854775808 := rfl
  have hmax : IntKind.i64.max = 9223372036854775807 := rfl
  simp only [Lit.wf, Bool.and_eq_true, decide_eq_true_eq]
  omega
theorem key_some {xs : List Int} {q : Int} (hx : ∀ j, 0 ≤ at0 xs j ∧ at0 xs j ≤ 1000) (hl : xs.length ≤ 4) (hq : 0 ≤ q ∧ q ≤ 1000) : ∃ l, keyOf Try.prog 112 (keyV xs q) = some l := by
  have hk : Try.prog.keyType 112 = true := by kernel_rfl
  have c112 : Try.prog.cellsOf 112 = 6 := by kernel_rfl
  have c110 : Try.prog.cellsOf 110 = 4 := by kernel_rfl
  have c3 : Try.prog.cellsOf 3 = 1 := by kernel_rfl
  have hsz : 3 ≤ Try.prog.types.size := of_decide_eq_true (by kernel_rfl)
  obtain ⟨m, hm⟩ := Nat.exists_eq_add_of_le hsz
  have e : Try.prog.types.size + 1 = m + 1 + 1 + 1 + 1 := by omega
  have w0 := wf_mk (n := at0 xs 0) (by have := hx 0; omega)
  have w1 := wf_mk (n := at0 xs 1) (by have := hx 1; omega)
  have w2 := wf_mk (n := at0 xs 2) (by have := hx 2; omega)
  have w3 := wf_mk (n := at0 xs 3) (by have := hx 3; omega)
  have w4 := wf_mk (n := ((xs.length : Nat) : Int)) (by omega)
  have w5 := wf_mk (n := q) (by omega)
  have h : (keyOf Try.prog 112 (keyV xs q)).isSome = true := by
    unfold keyV keyOf
    rw [e]
    simp [hk, Value.formed, Try.underlying112, c112, c110, c3, Value.cells, Program.keyLits, Try.underlying110, Try.underlying3, w0, w1, w2, w3, w4, w5, List.range_succ]
  exact Option.isSome_iff_exists.1 h
theorem keyV_inj {xs ys : List Int} {q r : Int} (hx : xs.length ≤ 4) (h : keyV xs q = keyV ys r) : xs = ys ∧ q = r := by
  unfold keyV at h
  simp only [Value.agg.injEq, Array.mk.injEq, List.cons.injEq, Value.int.injEq, true_and, and_true] at h
  obtain ⟨h0, h1, h2, h3, h4, h5⟩ := h
  refine ⟨?_, h5⟩
  apply List.ext_getElem (by omega)
  intro j a b
  have e : ∀ (l : List Int) (h : j < l.length), l[j] = at0 l j := fun l h => by simp [at0, List.getD, h]
  rw [e xs a, e ys b]
  have : j = 0 ∨ j = 1 ∨ j = 2 ∨ j = 3 := by omega
  rcases this with rfl | rfl | rfl | rfl
  · exact h0
  · exact h1
  · exact h2
  · exact h3
def OKw (key val : Value) : Prop := ∀ (xs : List Int) (q : Nat), xs.length ≤ 4 → key = keyV xs q → val = .bool (winS q xs)
theorem OKw_mk {xs : List Int} {q : Nat} (hx : xs.length ≤ 4) : OKw (keyV xs q) (.bool (winS q xs)) := by
  intro ys r hy h
  obtain ⟨h1, h2⟩ := keyV_inj hx h
  have h3 : q = r := by omega
  subst h1 h3
  rfl
theorem M81 : Try.prog.underlying 81 = some (.map 112 4) := Try.underlying81
end Go.Proofs.Ytdclmhmdkhpekaa
