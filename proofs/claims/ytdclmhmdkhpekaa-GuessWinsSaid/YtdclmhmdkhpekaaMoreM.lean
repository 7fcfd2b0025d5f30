/- Walk of GuessMore. No condition. -/
import Derived.Test.YtdclmhmdkhpekaaWalkWeighs
namespace Go.Proofs.Ytdclmhmdkhpekaa
open Go.RowKit

theorem at0_set {xs : List Int} {i j : Nat} {v : Int} : at0 (xs.set i v) j = if i = j ∧ i < xs.length then v else at0 xs j := by
  unfold at0
  simp only [List.getD, List.getElem?_set]
  by_cases e : i = j
  · subst e
    by_cases h : i < xs.length
    · simp [h]
    · simp [h]
  · simp [e]
/-- One number less at a level. -/
def lessL (xs : List Int) (i : Nat) : List Int := xs.set i (at0 xs i - 1)
/-- One that has lied once more. -/
def moveL (xs : List Int) (i : Nat) : List Int := (lessL xs i).set (i + 1) (at0 xs (i + 1) + 1)
theorem psum_set {xs : List Int} {i : Nat} {v : Int} (hi : i < xs.length) : ∀ k, psum (xs.set i v) k = psum xs k + (if i < k then v - at0 xs i else 0) := by
  intro k
  induction k with
  | zero => simp [psum]
  | succ k ih =>
    simp only [psum, ih, at0_set]
    by_cases e : i = k
    · subst e
      rw [if_neg (show ¬ i < i by omega), if_pos (show i = i ∧ i < xs.length from ⟨rfl, hi⟩), if_pos (show i < i + 1 by omega)]
      omega
    · rw [if_neg (show ¬ (i = k ∧ i < xs.length) from fun a => e a.1)]
      by_cases e2 : i < k
      · rw [if_pos e2, if_pos (show i < k + 1 by omega)]; omega
      · rw [if_neg e2, if_neg (show ¬ i < k + 1 by omega)]; omega
theorem less_easier {xs : List Int} {i : Nat} (hi : i < xs.length) : Easier (lessL xs i) xs := ⟨by simp [lessL], fun k _ => by
  unfold lessL
  rw [psum_set hi]
  split <;> omega⟩
theorem less_nn {xs : List Int} (h : Nn xs) {i : Nat} (h1 : 1 ≤ at0 xs i) : Nn (lessL xs i) := ⟨by simpa [lessL] using h.lo, by simpa [lessL] using h.hi, fun j hj => by
  unfold lessL at hj ⊢
  rw [at0_set]
  split
  · omega
  · exact h.nn j (by simpa using hj)⟩
theorem less_len {xs : List Int} {i : Nat} : (lessL xs i).length = xs.length := by simp [lessL]
theorem move_easier {xs : List Int} {i : Nat} (hi : i + 1 < xs.length) : Easier (moveL xs i) xs := ⟨by simp [moveL, lessL], fun k _ => by
  have e : at0 (lessL xs i) (i + 1) = at0 xs (i + 1) := by unfold lessL; rw [at0_set, if_neg (by omega)]
  unfold moveL
  rw [psum_set (by rw [less_len]; exact hi), e]
  unfold lessL
  rw [psum_set (by omega)]
  by_cases a : i < k
  · rw [if_pos a]; split <;> omega
  · rw [if_neg a, if_neg (by omega)]; omega⟩
theorem move_nn {xs : List Int} (h : Nn xs) {i : Nat} (h1 : 1 ≤ at0 xs i) : Nn (moveL xs i) := ⟨by simpa [moveL, lessL] using h.lo, by simpa [moveL, lessL] using h.hi, fun j hj => by
  have hj2 : j < xs.length := by simpa [moveL, lessL] using hj
  unfold moveL lessL
  rw [at0_set]
  split
  · rename_i a
    have := h.nn (i + 1) (by have := a.2; simp at this; exact this)
    omega
  · rw [at0_set]
    split
    · omega
    · exact h.nn j hj2⟩
theorem state_of {xs : List Int} {m : Int} (h : Nn xs) (ht : total xs ≤ m) : stateOk m xs = true :=
  stateOk_iff.2 ⟨h.lo, h.hi, fun x hx => by
    obtain ⟨j, hj, rfl⟩ := mem_at0 hx
    have h1 := h.nn j hj
    have h2 := at0_le_total h.nn hj
    omega, ht⟩
theorem pick_ig (x : Int) {n : Nat} (h0 : 0 < n) (hn : n ≤ 1000) : ∃ j : Nat, wrap64 ((IntKind.u64.wrap x).tmod (n : Int)) = (j : Int) ∧ j < n := by
  have h1 : 0 ≤ IntKind.u64.wrap x := by rw [IntKind.wrap_u64]; omega
  rw [Int.tmod_eq_emod_of_nonneg h1]
  have h2 := Int.emod_nonneg (IntKind.u64.wrap x) (show (n : Int) ≠ 0 by omega)
  have h3 := Int.emod_lt_of_pos (IntKind.u64.wrap x) (show (0 : Int) < n by omega)
  refine ⟨(IntKind.u64.wrap x % n).toNat, ?_, by omega⟩
  unfold wrap64
  omega
/-- A row of the call's own, one number stored. -/
theorem own_store {w : World} {base g n c i : Nat} {e : TypeId} {xs : List Int} {v : Int} (h : w.ownsRow base e 1 (.slice (some ⟨g, 0, none⟩) n c) n (xs.map (Value.int .i64))) : (w.setCell ⟨g, i, none⟩ (.int .i64 v)).ownsRow base e 1 (.slice (some ⟨g, 0, none⟩) n c) n ((xs.set i v).map (Value.int .i64)) := by
  rcases h.2 with ⟨hv, hn⟩ | ⟨g', cap, cur, hv, hb, hg, hc, hm, hs, ht⟩
  · simp at hv
  · simp at hv
    obtain ⟨rfl, rfl⟩ := hv
    have hb2 : Blk (w.setCell ⟨g, i, none⟩ (.int .i64 v)) g e (cur.setIfInBounds i (.int .i64 v)) := Blk.set (show Blk w g e cur from hg) i _
    refine ⟨by simpa using h.1, .inr ⟨g, c, _, rfl, hb, hb2, hc, hm, by simpa using hs, ?_⟩⟩
    rw [Nat.mul_one, Array.toList_setIfInBounds, List.map_set, ← ht, Nat.mul_one, List.take_set]

set_option maxRecDepth 100000 in
set_option maxHeartbeats 1000000 in
theorem guessMore_bad (w : World) (A : Option Addr) (n c : Nat) (xs : List Int) (q i : Int) (hs : Sl w A n c (xs.map (Value.int .i64))) (h : ¬ (stateOk 24 xs = true ∧ 0 ≤ q ∧ q ≤ 12)) :
    Calls Try.prog 11 #[.slice A n c, .int .i64 q, .int .i64 i] w fun e w' => e = .returned (.bool true) ∧ Below w.heap.size w w' := by
  have hn := hs.numlen
  have HL := hid (lawList A n c xs w hs)
  have HB := hid fun A' c' W (s1 : Sl W A' (min n 7) c' ((xs.take (min n 7)).map (Value.int .i64))) => winsBad A' (min n 7) c' _ q W s1 (by rw [stateOk_take hn]; exact h)
  clear hs h hn
  go_enter Try.func11, Try.ntmps11
  go_wp2_with fail
  refine HL.out.mono ?_; rintro e w1 ⟨A1, c1, rfl, o1, b1⟩
  have s1 := Sl.of_own o1
  go_wp2_with fail
  refine (HB.out _ _ _ s1).mono ?_; rintro e w2 ⟨rfl, rfl⟩
  clear s1 o1
  go_wp2_with (go_at_call 20; refine (awake _).mono ?_; rintro e w6 ⟨rfl, b6⟩)
  go_ret
  exact ⟨rfl, below_call b1 b6 b1.size⟩

set_option maxRecDepth 100000 in
set_option maxHeartbeats 2000000 in
theorem guessMore_no (w : World) (A : Option Addr) (n c : Nat) (xs : List Int) (q : Nat) (i : Int) (hq : q ≤ 12) (hs : Sl w A n c (xs.map (Value.int .i64))) (h : stateOk 24 xs = true) (hw : winS q xs = false) :
    Calls Try.prog 11 #[.slice A n c, .int .i64 q, .int .i64 i] w fun e w' => e = .returned (.bool true) ∧ Below w.heap.size w w' := by
  have hn := hs.numlen
  have e1 := take_min7 hn (by have := stateOk_len h; omega)
  have e2 : min n 7 = n := Nat.min_eq_left (by have := stateOk_len h; omega)
  have HL := hid fun W (hb : Below w.heap.size w W) => lawList A n c xs W (hs.below hb)
  rw [e1, e2] at HL
  have HW := hid fun A' c' W (s1 : Sl W A' n c' (xs.map (Value.int .i64))) => winsPub A' n c' xs q hq W s1 h
  rw [hw] at HW
  have HST := hid fun W (hb : Below w.heap.size w W) => refState A n c xs 24 (by omega) W (hs.below hb)
  rw [h] at HST
  have g1 : decide ((q : Int) < 0) = false := decide_eq_false (by omega)
  have g2 : decide (12 < (q : Int)) = false := decide_eq_false (by omega)
  have g3 : decide (12 < q) = false := decide_eq_false (by omega)
  clear hs h hn e1 e2 hw
  go_enter Try.func11, Try.ntmps11
  go_wp2_with fail
  refine (HL.out _ (Below.refl _ _)).mono ?_; rintro e w1 ⟨A1, c1, rfl, o1, b1⟩
  have s1 := Sl.of_own o1
  go_wp2_with fail
  refine (HW.out _ _ _ s1).mono ?_; rintro e w2 ⟨rfl, b2⟩
  have b12 : Below w.heap.size w w2 := below_call b1 b2 b1.size
  clear s1 o1 b1 b2
  go_wp2_with fail
  refine (HST.out _ b12).mono ?_; rintro e w3 ⟨rfl, rfl⟩
  go_wp2_with (go_at_call 20; refine (awake _).mono ?_; rintro e w6 ⟨rfl, b6⟩)
  go_ret
  exact ⟨rfl, below_call b12 b6 b12.size⟩

/-- What the law goes on with, behind its first questions. -/
structure MoreC (w : World) (A : Option Addr) (n c : Nat) (xs : List Int) (q : Nat) : Prop where
  hl : ∀ W, Below w.heap.size w W → Calls Try.prog 28 #[.slice A n c] W fun e w' => ∃ A' c', e = .returned (.slice A' n c') ∧ w'.ownsRow W.heap.size 3 1 (.slice A' n c') n (xs.map (Value.int .i64)) ∧ Below W.heap.size W w'
  hw : ∀ ys, Nn ys → Easier ys xs → ∀ A' c' W, Sl W A' n c' (ys.map (Value.int .i64)) → Calls Try.prog 39 #[.slice A' n c', .int .i64 q] W fun e w' => e = .returned (.tuple #[.bool true, .int .i64 0]) ∧ Below W.heap.size W w'
end Go.Proofs.Ytdclmhmdkhpekaa
