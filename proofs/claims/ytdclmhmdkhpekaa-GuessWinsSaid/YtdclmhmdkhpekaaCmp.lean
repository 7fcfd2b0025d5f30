/- slices.Compare of rows of the same length; the first good question is before no good one. No condition. -/
import Derived.Test.YtdclmhmdkhpekaaWinPub
namespace Go.Proofs.Ytdclmhmdkhpekaa
open Go.RowKit

/-- The order of rows, compared from the front. -/
def cmpL : List Int → List Int → Int
  | x :: xs, y :: ys => if x < y then -1 else if y < x then 1 else cmpL xs ys
  | _, _ => 0
theorem cmpL_lt : ∀ (k : Nat) (xs ys : List Int), k < xs.length → k < ys.length → (∀ j, j < k → at0 xs j = at0 ys j) → at0 xs k < at0 ys k → cmpL xs ys = -1 := by
  intro k
  induction k with
  | zero =>
    intro xs ys h1 h2 _ h
    cases xs <;> cases ys <;> simp_all [at0, cmpL]
  | succ k ih =>
    intro xs ys h1 h2 he h
    cases xs with
    | nil => simp at h1
    | cons x xs => cases ys with
      | nil => simp at h2
      | cons y ys =>
        have h0 := he 0 (by omega)
        simp only [at0, List.getD_cons_zero] at h0
        subst h0
        simp only [cmpL, Int.lt_irrefl, if_false]
        exact ih xs ys (by simpa using h1) (by simpa using h2) (fun j hj => by simpa [at0] using he (j + 1) (by omega)) (by simpa [at0] using h)
theorem cmpL_gt : ∀ (k : Nat) (xs ys : List Int), k < xs.length → k < ys.length → (∀ j, j < k → at0 xs j = at0 ys j) → at0 ys k < at0 xs k → cmpL xs ys = 1 := by
  intro k
  induction k with
  | zero =>
    intro xs ys h1 h2 _ h
    cases xs <;> cases ys <;> simp_all [at0, cmpL]
    omega
  | succ k ih =>
    intro xs ys h1 h2 he h
    cases xs with
    | nil => simp at h1
    | cons x xs => cases ys with
      | nil => simp at h2
      | cons y ys =>
        have h0 := he 0 (by omega)
        simp only [at0, List.getD_cons_zero] at h0
        subst h0
        simp only [cmpL, Int.lt_irrefl, if_false]
        exact ih xs ys (by simpa using h1) (by simpa using h2) (fun j hj => by simpa [at0] using he (j + 1) (by omega)) (by simpa [at0] using h)
theorem cmpL_self : ∀ xs : List Int, cmpL xs xs = 0 := by
  intro xs
  induction xs with
  | nil => rfl
  | cons x xs ih => simp only [cmpL, Int.lt_irrefl, if_false]; exact ih
theorem cmpL_eq {n : Nat} {xs ys : List Int} (h1 : xs.length = n) (h2 : ys.length = n) (h : ∀ j, j < n → at0 xs j = at0 ys j) : cmpL xs ys = 0 := by
  have : xs = ys := by
    apply List.ext_getElem (by omega)
    intro j hj hj'
    have := h j (by omega)
    simpa [at0, hj, hj'] using this
  subst this
  exact cmpL_self _

theorem firstQ_before {good : List Int → Bool} : ∀ (rest pre r : List Int), firstQ good rest pre = some r → ∀ s t : List Int, r = pre ++ t → t.length = rest.length → s.length = rest.length → (∀ j, j < rest.length → 0 ≤ at0 s j ∧ at0 s j ≤ at0 rest j) → cmpL s t < 0 → good (pre ++ s) = false := by
  intro rest
  induction rest with
  | nil =>
    intro pre r _ s t _ _ hs _ hc
    have : s = [] := List.eq_nil_of_length_eq_zero (by simpa using hs)
    subst this
    simp [cmpL] at hc
  | cons x rest ih =>
    intro pre r h s t hr ht hs hb hc
    obtain _ | ⟨u, s⟩ := s
    · simp at hs
    obtain _ | ⟨v, t⟩ := t
    · simp at ht
    simp only [firstQ, List.findSome?_eq_some_iff] at h
    obtain ⟨l1, a, l2, hl, ha, hbef⟩ := h
    obtain ⟨_, s', hr', hl', _⟩ := firstQ_good _ _ _ ha
    have hva : v = (a : Int) ∧ t = s' := by
      rw [hr] at hr'
      rw [List.append_assoc, List.append_right_inj] at hr'
      simpa using hr'
    obtain ⟨rfl, rfl⟩ := hva
    have hidx : l1.length = a := by
      have h1 : (List.range (x.toNat + 1))[l1.length]? = some a := by rw [hl]; simp
      have h2 := (List.getElem?_eq_some_iff.1 h1)
      obtain ⟨hlt, he⟩ := h2
      simpa using he
    have hmem : ∀ k, k < a → k ∈ l1 := by
      intro k hk
      have hlt : k < l1.length := by omega
      have h1 : (List.range (x.toNat + 1))[k]? = some (l1[k]) := by rw [hl, List.getElem?_append_left hlt]; simp [hlt]
      obtain ⟨_, he⟩ := List.getElem?_eq_some_iff.1 h1
      have : k = l1[k] := by simpa using he
      rw [this]; exact List.getElem_mem hlt
    have h0 := hb 0 (by simp)
    simp [at0] at h0
    obtain ⟨n, rfl⟩ := Int.eq_ofNat_of_zero_le h0.1
    have hb' : ∀ j, j < rest.length → 0 ≤ at0 s j ∧ at0 s j ≤ at0 rest j := fun j hj => by simpa [at0] using hb (j + 1) (by simpa using hj)
    simp only [cmpL] at hc
    by_cases e : (n : Int) < (a : Int)
    · have := firstQ_none _ _ (hbef n (hmem n (by omega))) s (by simpa using hs) hb'
      simpa using this
    · rw [if_neg e] at hc
      by_cases e2 : (a : Int) < (n : Int)
      · rw [if_pos e2] at hc; omega
      · rw [if_neg e2] at hc
        have hna : n = a := by omega
        subst hna
        have := ih _ _ ha s t (by rw [hr]; simp) (by simpa using ht) (by simpa using hs) hb' hc
        simpa using this

set_option maxRecDepth 100000 in
theorem isNaN96 (x : Int) (w : World) : Calls Try.prog 96 #[.int .i64 x] w fun e w' => e = .returned (.bool false) ∧ w = w' := by
  have h : (x != x) = false := by simp
  go_enter Try.func96, Try.ntmps96
  go_wp2
  go_ret
  exact ⟨rfl, rfl⟩

set_option maxRecDepth 100000 in
set_option maxHeartbeats 1000000 in
theorem cmp78 (x y : Int) (w : World) : Calls Try.prog 78 #[.int .i64 x, .int .i64 y] w fun e w' => e = .returned (.int .i64 (if x < y then -1 else if y < x then 1 else 0)) ∧ w = w' := by
  obtain ⟨r, HR⟩ : ∃ r : Int, Hid (r = if x < y then (-1 : Int) else if y < x then 1 else 0) := ⟨_, hid rfl⟩
  rw [← HR.out]
  by_cases h1 : x < y
  · have d1 : decide (x < y) = true := decide_eq_true h1
    have hr : r = -1 := by have := HR.out; rw [if_pos h1] at this; omega
    subst hr
    clear HR h1
    go_enter Try.func78, Try.ntmps78
    go_wp2_with (go_at_call 96; refine (isNaN96 _ _).mono ?_; rintro e w' ⟨rfl, rfl⟩)
    go_ret
    exact ⟨rfl, rfl⟩
  · have d1 : decide (x < y) = false := decide_eq_false h1
    by_cases h2 : y < x
    · have d2 : decide (y < x) = true := decide_eq_true h2
      have hr : r = 1 := by have := HR.out; rw [if_neg h1, if_pos h2] at this; omega
      subst hr
      clear HR h1 h2
      go_enter Try.func78, Try.ntmps78
      go_wp2_with (go_at_call 96; refine (isNaN96 _ _).mono ?_; rintro e w' ⟨rfl, rfl⟩)
      go_ret
      exact ⟨rfl, rfl⟩
    · have d2 : decide (y < x) = false := decide_eq_false h2
      have hr : r = 0 := by have := HR.out; rw [if_neg h1, if_neg h2] at this; omega
      subst hr
      clear HR h1 h2
      go_enter Try.func78, Try.ntmps78
      go_wp2_with (go_at_call 96; refine (isNaN96 _ _).mono ?_; rintro e w' ⟨rfl, rfl⟩)
      go_ret
      exact ⟨rfl, rfl⟩

set_option maxRecDepth 100000 in
set_option maxHeartbeats 1000000 in
theorem compareInts (A B : Option Addr) (n c d : Nat) (xs ys : List Int) (w : World) (hs : Sl w A n c (xs.map (Value.int .i64))) (ht : Sl w B n d (ys.map (Value.int .i64))) :
    Calls Try.prog 51 #[.slice A n c, .slice B n d] w fun e w' => e = .returned (.int .i64 (cmpL xs ys)) ∧ Below w.heap.size w w' := by
  have hlm := hs.len_le
  have HL := hid hs.numlen
  have HM := hid ht.numlen
  have f0 : ((n : Int) < (n : Int)) = False := by simp
  have d0 : decide ((n : Int) < (n : Int)) = false := by simp
  go_enter Try.func51, Try.ntmps51
  go_wp2
  go_loopg [11] n (fun gk i wr => ∃ k : Nat, gk + k = n ∧ i = .int .i64 k ∧ (∀ j, j < k → at0 xs j = at0 ys j) ∧ Below w.heap.size w wr)
  case atStart => exact ⟨0, by omega, rfl, fun j h => absurd h (by omega), Below.refl _ _⟩
  case round =>
    obtain ⟨k, hk, rfl, hno, hb⟩ := hrel
    have HO := hid hno; have HK := hid hk; clear hno hk
    by_cases hlt : k < n
    · obtain ⟨b, o, rfl, lb, hkl, ca⟩ := hs.num hlt
      obtain ⟨b', o', rfl, lb', hkl', ca'⟩ := ht.num hlt
      have cc := (hb.cell (p := ⟨b, o + k, none⟩) lb).trans ca
      have cc' := (hb.cell (p := ⟨b', o' + k, none⟩) lb').trans ca'
      have HX := hid hkl; have HY := hid hkl'
      have g1 : decide ((n : Int) ≤ (k : Int)) = false := decide_eq_false (by omega)
      have HC := hid (cmp78 (at0 xs k) (at0 ys k))
      clear ca ca' hkl hkl'
      rcases Int.lt_trichotomy (at0 xs k) (at0 ys k) with e | e | e
      · have HC2 := hid fun W => (show Calls Try.prog 78 #[.int .i64 (at0 xs k), .int .i64 (at0 ys k)] W fun e w' => e = .returned (.int .i64 (-1)) ∧ W = w' by have := HC.out W; rwa [if_pos e] at this)
        have hf := hid (cmpL_lt k xs ys HX.out HY.out HO.out e)
        clear HC e
        go_wp2_with (go_at_call 78; refine (HC2.out _).mono ?_; rintro e w' ⟨rfl, rfl⟩)
        go_ret
        exact ⟨by rw [hf.out]; rfl, hb⟩
      · have HC2 := hid fun W => (show Calls Try.prog 78 #[.int .i64 (at0 xs k), .int .i64 (at0 ys k)] W fun e w' => e = .returned (.int .i64 0) ∧ W = w' by have := HC.out W; rwa [if_neg (by omega), if_neg (by omega)] at this)
        have E := hid e
        clear HC e
        go_wp2_with (go_at_call 78; refine (HC2.out _).mono ?_; rintro e w' ⟨rfl, rfl⟩)
        go_roundg (gk - 1)
        case measure => have := HK.out; omega
        case rel =>
          refine ⟨k + 1, by have := HK.out; omega, by go_num, fun j hj => ?_, hb⟩
          by_cases e : j = k
          · subst e; exact E.out
          · exact HO.out j (by omega)
      · have HC2 := hid fun W => (show Calls Try.prog 78 #[.int .i64 (at0 xs k), .int .i64 (at0 ys k)] W fun e w' => e = .returned (.int .i64 1) ∧ W = w' by have := HC.out W; rwa [if_neg (by omega), if_pos e] at this)
        have hf := hid (cmpL_gt k xs ys HX.out HY.out HO.out e)
        clear HC e
        go_wp2_with (go_at_call 78; refine (HC2.out _).mono ?_; rintro e w' ⟨rfl, rfl⟩)
        go_ret
        exact ⟨by rw [hf.out]; rfl, hb⟩
    · have hf := hid (cmpL_eq HL.out HM.out (fun j hj => HO.out j (by have := HK.out; omega)))
      go_wp2
      go_ret
      exact ⟨by rw [hf.out]; rfl, hb⟩
end Go.Proofs.Ytdclmhmdkhpekaa
