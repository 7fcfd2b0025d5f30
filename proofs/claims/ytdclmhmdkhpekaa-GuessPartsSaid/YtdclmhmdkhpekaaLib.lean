/- Contracts of the library's functions on slices of ints: IndexFunc, ContainsFunc. Conditions: the slice reads as a list; the function value tells a predicate. -/
import Derived.Test.YtdclmhmdkhpekaaProg
import Derived.Test.YtdclmhmdkhpekaaMem
import Derived.KernelRfl
import Derived.Deep.RegionHeld3
import Derived.BigQuiet
import Derived.Deep.QuietTactic
namespace Go.Proofs.Ytdclmhmdkhpekaa
open Go.RowKit

theorem TI : TS Try.prog 34 3 1 8 (.int .i64 0) := ⟨Try.underlying34, by kernel_rfl, rfl, by decide⟩

/-- Where the first element stands of which f is true; -1. -/
def idxf (f : Int → Bool) : List Int → Int
  | [] => -1
  | x :: l => if f x then 0 else if idxf f l = -1 then -1 else idxf f l + 1
theorem idxf_none {f : Int → Bool} {xs : List Int} (h : ∀ (j : Nat) (y : Int), xs[j]? = some y → f y = false) : idxf f xs = -1 := by
  induction xs with
  | nil => rfl
  | cons x l ih =>
    have h1 := h 0 x rfl
    have h2 := ih fun j y hy => h (j + 1) y (by simpa using hy)
    simp [idxf, h1, h2]
theorem idxf_at {f : Int → Bool} {xs : List Int} {k : Nat} {x : Int} (hx : xs[k]? = some x) (hf : f x = true) (h : ∀ (j : Nat) (y : Int), j < k → xs[j]? = some y → f y = false) : idxf f xs = k := by
  induction xs generalizing k with
  | nil => simp at hx
  | cons z l ih =>
    cases k with
    | zero => simp at hx; subst hx; simp [idxf, hf]
    | succ k =>
      have h1 := h 0 z (by omega) rfl
      have h2 := ih (k := k) (by simpa using hx) fun j y hj hy => h (j + 1) y (by omega) (by simpa using hy)
      simp [idxf, h1, h2]
theorem idxf_any (f : Int → Bool) (xs : List Int) : decide (0 ≤ idxf f xs) = xs.any f := by
  induction xs with
  | nil => rfl
  | cons x l ih =>
    have hlo : -1 ≤ idxf f l := by
      clear ih
      induction l with
      | nil => simp [idxf]
      | cons y l ih => simp only [idxf]; split <;> (try split) <;> omega
    cases hx : f x
    · rw [List.any_cons, ← ih, hx, Bool.false_or]
      simp only [idxf, hx, Bool.false_eq_true, if_false]
      split
      · rename_i h; rw [h]
      · congr 1; apply propext; omega
    · simp [idxf, hx]
theorem idxf_bd (f : Int → Bool) (xs : List Int) : -1 ≤ idxf f xs ∧ idxf f xs < xs.length + 1 := by
  induction xs with
  | nil => simp [idxf]
  | cons x l ih => simp only [idxf, List.length_cons]; split <;> (try split) <;> omega

/-- A function value that tells f, for the elements of xs, in every world behind w. -/
structure Tells (w : World) (g : Nat) (lb : Array Value) (xs : List Int) (f : Int → Bool) : Prop where
  ent : ∀ args W, (callFunc g args).run Try.prog W = .ok (.enter g args) W
  run : ∀ x, x ∈ xs → ∀ W, Below w.heap.size w W → Calls Try.prog g (#[.int .i64 x] ++ lb) W fun e W' => e = .returned (.bool (f x)) ∧ Below W.heap.size W W'

set_option maxRecDepth 100000 in
set_option maxHeartbeats 400000 in
theorem indexFunc (A : Option Addr) (n c : Nat) (xs : List Int) (g : Nat) (lb : Array Value) (f : Int → Bool) (w : World) (hs : Sl w A n c (xs.map (Value.int .i64))) (hf : Tells w g lb xs f) :
    Calls Try.prog 70 #[.slice A n c, .func (.func g) #[] lb] w fun e w' => (∃ k : Int, e = .returned (.int .i64 k) ∧ k = idxf f xs) ∧ Below w.heap.size w w' := by
  have hm : n ≤ 9223372036854775807 := by have := hs.cap; have := hs.capm; unfold maxLen at this; omega
  have HF := hid hf.run
  have he := hf.ent
  clear hf
  go_enter Try.func70, Try.ntmps70
  go_wp2
  go_loopg [8] n (fun gk i wr => ∃ k : Nat, gk + k = n ∧ i = .int .i64 k ∧ (∀ j y, j < k → xs[j]? = some y → f y = false) ∧ Below w.heap.size w wr)
  case atStart => exact ⟨0, by omega, rfl, fun j _ h => absurd h (by omega), Below.refl _ _⟩
  case round =>
    obtain ⟨k, hk, rfl, hno, hb⟩ := hrel
    have HN := hid hno; have HK := hid hk; clear hno hk
    by_cases hlt : k < n
    · obtain ⟨b, o, u, rfl, lb1, e1, ca⟩ := hs.at2 hb hlt
      rw [List.getElem?_map] at e1
      obtain ⟨x, hx, rfl⟩ := Option.map_eq_some_iff.1 e1
      have hc := HF.out x (List.mem_of_getElem? hx) wr hb
      have HX := hid hx
      cases hfx : f x
      · rw [hfx] at hc
        have HC := hid hc
        clear e1 hx hc
        go_wp2_with (refine (HC.out).mono ?_; rintro e w1 ⟨rfl, hb1⟩; have hz1 := hb1.size)
        go_roundg (gk - 1)
        case measure => have := HK.out; omega
        case rel =>
          refine ⟨k + 1, by have := HK.out; omega, by go_num, fun j y hj hy => ?_, below_call hb hb1 hb.size⟩
          by_cases e : j = k
          · subst e; rw [HX.out] at hy; cases hy; exact hfx
          · exact HN.out j y (by omega) hy
      · rw [hfx] at hc
        have HC := hid hc
        have HR := hid (idxf_at hx hfx HN.out)
        clear e1 hx hc
        go_wp2_with (refine (HC.out).mono ?_; rintro e w1 ⟨rfl, hb1⟩; have hz1 := hb1.size)
        go_ret
        exact ⟨⟨k, rfl, HR.out.symm⟩, below_call hb hb1 hb.size⟩
    · have HR := hid (idxf_none (xs := xs) (f := f) fun j y hy => HN.out j y (by have := (List.getElem?_eq_some_iff.1 hy).1; have := hs.len; simp at this; omega) hy)
      go_wp2
      go_ret
      exact ⟨⟨-1, rfl, HR.out.symm⟩, hb⟩

set_option maxHeartbeats 400000 in
theorem containsFunc (A : Option Addr) (n c : Nat) (xs : List Int) (g : Nat) (lb : Array Value) (f : Int → Bool) (w : World) (hs : Sl w A n c (xs.map (Value.int .i64))) (hf : Tells w g lb xs f) :
    Calls Try.prog 81 #[.slice A n c, .func (.func g) #[] lb] w fun e w' => e = .returned (.bool (xs.any f)) ∧ Below w.heap.size w w' := by
  have hany := hid (idxf_any f xs)
  have HC := hid (indexFunc A n c xs g lb f w hs hf)
  clear hf hs
  go_enter Try.func81, Try.ntmps81
  go_wp2_with (go_at_call 70; refine (HC.out).mono ?_; rintro e w1 ⟨⟨k, rfl, rfl⟩, hb1⟩)
  go_ret
  exact ⟨ret_v (congrArg Value.bool hany.out), hb1⟩
end Go.Proofs.Ytdclmhmdkhpekaa
