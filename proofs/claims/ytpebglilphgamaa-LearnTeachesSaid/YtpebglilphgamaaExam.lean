/- Walks of the reference's Examples and Left. Condition: the slices read as lists. -/
import Derived.Test.YtpebglilphgamaaPairs2
namespace Go.Proofs.Ytpebglilphgamaa
open Go.RowKit

/-- A pair is an example of p points. -/
def exBad (p : Int) (u : Int × Int) : Bool := decide (u.1 < 0) || decide (p ≤ u.1) || (u.2 != 0 && u.2 != 1)
structure Exs (p : Int) (l : List (Int × Int)) : Prop where
  len : l.length ≤ 20
  all : ∀ (j : Nat) (u : Int × Int), l[j]? = some u → exBad p u = false

set_option maxRecDepth 100000 in
set_option maxHeartbeats 1000000 in
theorem refExamplesOk (p : Int) (A : Option Addr) (n c : Nat) (xs : List (Int × Int)) (H : Exs p xs) (w : World) (hs : Sl2 w A n c xs) :
    Calls Try.prog 20 #[.int .i64 p, .slice A n c] w fun e w' => e = .returned (.bool true) ∧ Below w.heap.size w w' := by
  have hle := hs.len_le
  have hn20 : n ≤ 20 := by have := H.len; have := hs.len; omega
  have HA := hid H.all
  clear H
  go_enter Try.func20, Try.ntmps20
  go_wp2
  go_loopg [9] n (fun gk i wr => ∃ k : Nat, gk + k = n ∧ i = .int .i64 k ∧ Below w.heap.size w wr)
  case atStart => exact ⟨0, by omega, rfl, Below.refl _ _⟩
  case round =>
    obtain ⟨k, hk, rfl, hb⟩ := hrel
    have HK := hid hk; clear hk
    by_cases hlt : k < n
    · obtain ⟨b, o, ⟨x, y⟩, rfl, lb, hu, c1, c2⟩ := hs.at hlt
      have d1 := (hb.cell (p := ⟨b, o + k * 2, none⟩) lb).trans c1
      have d3 : wr.cell? ⟨b, o + k * 2 + 1, none⟩ = some (.int .i64 y) := (hb.cell (p := ⟨b, o + (k * 2 + 1), none⟩) lb).trans c2
      have hx := HA.out k _ hu
      unfold exBad at hx
      simp only [Bool.or_eq_false_iff, Bool.and_eq_false_iff, decide_eq_false_iff_not] at hx
      obtain ⟨⟨x1, x2⟩, x3⟩ := hx
      have x1' : decide (x < 0) = false := decide_eq_false x1
      have x2' : decide (p ≤ x) = false := decide_eq_false x2
      have hsz := hid hb.size
      have HB := hid (hb.alloc hb.size (.cells #[.int .i64 x, .int .i64 y] 42))
      clear c1 c2 hu x1 x2
      rcases x3 with x3 | x3
      · go_wp2
        go_roundg (gk - 1)
        case measure => have := HK.out; omega
        case rel => exact ⟨k + 1, by have := HK.out; omega, by go_num, HB.out⟩
      · have x4 : (y != 0) = true := by rw [bne_eq_false_iff_eq] at x3; subst x3; rfl
        go_wp2
        go_roundg (gk - 1)
        case measure => have := HK.out; omega
        case rel => exact ⟨k + 1, by have := HK.out; omega, by go_num, HB.out⟩
    · go_wp2
      go_ret
      exact ⟨ret_b (decide_eq_true (by omega)).symm, hb⟩

set_option maxRecDepth 100000 in
set_option maxHeartbeats 2000000 in
theorem refExamplesBad (p : Int) (A : Option Addr) (n c : Nat) (xs : List (Int × Int)) (hno : ¬ Exs p xs) (w : World) (hs : Sl2 w A n c xs) :
    Calls Try.prog 20 #[.int .i64 p, .slice A n c] w fun e w' => e = .returned (.bool false) ∧ Below w.heap.size w w' := by
  have hle := hs.len_le
  have hl := hs.len
  have HNO := hid fun (h20 : n ≤ 20) (h : ∀ (j : Nat) (u : Int × Int), j < n → xs[j]? = some u → exBad p u = false) => hno ⟨by omega, fun j u hu => h j u (by have := (List.getElem?_eq_some_iff.1 hu).1; omega) hu⟩
  clear hno hl
  go_enter Try.func20, Try.ntmps20
  go_wp2
  go_loopg [9] n (fun gk i wr => ∃ k : Nat, gk + k = n ∧ i = .int .i64 k ∧ (∀ (j : Nat) (u : Int × Int), j < k → xs[j]? = some u → exBad p u = false) ∧ Below w.heap.size w wr)
  case atStart => exact ⟨0, by omega, rfl, fun j u h => absurd h (by omega), Below.refl _ _⟩
  case round =>
    obtain ⟨k, hk, rfl, ha, hb⟩ := hrel
    have HK := hid hk; have HA := hid ha; clear hk ha
    by_cases hlt : k < n
    · obtain ⟨b, o, ⟨x, y⟩, rfl, lb, hu, c1, c2⟩ := hs.at hlt
      have d1 := (hb.cell (p := ⟨b, o + k * 2, none⟩) lb).trans c1
      have d3 : wr.cell? ⟨b, o + k * 2 + 1, none⟩ = some (.int .i64 y) := (hb.cell (p := ⟨b, o + (k * 2 + 1), none⟩) lb).trans c2
      have hsz := hid hb.size
      have HB := hid (hb.alloc hb.size (.cells #[.int .i64 x, .int .i64 y] 42))
      have HG := hid fun (hx : exBad p (x, y) = false) => show ∀ (j : Nat) (u : Int × Int), j < k + 1 → xs[j]? = some u → exBad p u = false from fun j u hj hju => by
        by_cases e : j = k
        · subst e; rw [hu] at hju; cases hju; exact hx
        · exact HA.out j u (by omega) hju
      clear c1 c2 hu
      by_cases x1 : x < 0
      · have x1' : decide (x < 0) = true := decide_eq_true x1
        go_wp2
        go_ret
        exact ⟨rfl, HB.out⟩
      have x1' : decide (x < 0) = false := decide_eq_false x1
      by_cases x2 : p ≤ x
      · have x2' : decide (p ≤ x) = true := decide_eq_true x2
        go_wp2
        go_ret
        exact ⟨rfl, HB.out⟩
      have x2' : decide (p ≤ x) = false := decide_eq_false x2
      by_cases y0 : y = 0
      · have y0' : (y != 0) = false := by rw [bne_eq_false_iff_eq]; exact y0
        have hG := hid (HG.out (by unfold exBad; simp [x1', x2', y0]))
        clear y0
        go_wp2
        go_roundg (gk - 1)
        case measure => have := HK.out; omega
        case rel => exact ⟨k + 1, by have := HK.out; omega, by go_num, hG.out, HB.out⟩
      have y0' : (y != 0) = true := by rw [bne_iff_ne]; exact y0
      by_cases y1 : y = 1
      · have y1' : (y != 1) = false := by rw [bne_eq_false_iff_eq]; exact y1
        have hG := hid (HG.out (by unfold exBad; simp [x1', x2', y1]))
        clear y0 y1
        go_wp2
        go_roundg (gk - 1)
        case measure => have := HK.out; omega
        case rel => exact ⟨k + 1, by have := HK.out; omega, by go_num, hG.out, HB.out⟩
      have y1' : (y != 1) = true := by rw [bne_iff_ne]; exact y1
      go_wp2
      go_ret
      exact ⟨rfl, HB.out⟩
    · by_cases h20 : n ≤ 20
      · exact absurd (HNO.out h20 fun j u hj => HA.out j u (by have := HK.out; omega)) (fun h => h)
      · have h20' : decide ((n : Int) ≤ 20) = false := decide_eq_false (by omega)
        go_wp2
        go_ret
        exact ⟨rfl, hb⟩

/-- The concepts that agree with examples. -/
def leftL (xs : List Int) (l : List (Int × Int)) : List Int := l.foldl (fun c u => split c u.1 (u.2 == 1)) xs
theorem leftL_snoc (xs : List Int) (l : List (Int × Int)) (u : Int × Int) : leftL xs (l ++ [u]) = split (leftL xs l) u.1 (u.2 == 1) := by
  unfold leftL
  rw [List.foldl_append]
  rfl
theorem split_le (xs : List Int) (x : Int) (y : Bool) : (split xs x y).length ≤ xs.length := List.length_filter_le _ _
theorem leftL_le (xs : List Int) (l : List (Int × Int)) : (leftL xs l).length ≤ xs.length := by
  unfold leftL
  induction l generalizing xs with
  | nil => exact Nat.le_refl _
  | cons u l ih => exact Nat.le_trans (ih _) (split_le _ _ _)
theorem exBad_iff {p : Int} {u : Int × Int} (h : exBad p u = false) : 0 ≤ u.1 ∧ u.1 < p ∧ u.2 = (if (u.2 == 1) = true then 1 else 0) := by
  unfold exBad at h
  simp only [Bool.or_eq_false_iff, Bool.and_eq_false_iff, decide_eq_false_iff_not, bne_eq_false_iff_eq] at h
  obtain ⟨⟨h1, h2⟩, h3⟩ := h
  refine ⟨by omega, by omega, ?_⟩
  rcases h3 with h3 | h3 <;> rw [h3] <;> rfl

set_option maxRecDepth 100000 in
set_option maxHeartbeats 1000000 in
theorem refLeft (A : Option Addr) (n c : Nat) (xs : List Int) (hn : n ≤ 1000) (p : Int) (hp : p ≤ 60) (E : Option Addr) (m d : Nat) (ls : List (Int × Int)) (H : Exs p ls) (w : World) (hs : Sl w A n c (xs.map (Value.int .i64))) (he : Sl2 w E m d ls) :
    Calls Try.prog 23 #[.slice A n c, .slice E m d] w fun e w' => ∃ A' n' c', e = .returned (.slice A' n' c') ∧ Sl w' A' n' c' ((leftL xs ls).map (Value.int .i64)) ∧ Below w.heap.size w w' := by
  have hl := hs.numlen
  have hm := he.len
  have hm20 : m ≤ 20 := by have := H.len; omega
  have HA := hid H.all
  have HT := hid fun (k : Nat) (u : Int × Int) (hu : ls[k]? = some u) => show leftL xs (ls.take (k + 1)) = split (leftL xs (ls.take k)) u.1 (u.2 == 1) from by
    have hk := (List.getElem?_eq_some_iff.1 hu).1
    have e : ls[k] = u := (List.getElem?_eq_some_iff.1 hu).2
    rw [List.take_succ_eq_append_getElem hk, leftL_snoc, e]
  have HE := hid (show leftL xs (ls.take m) = leftL xs ls by rw [List.take_of_length_le (by omega)])
  have HL := hid fun k => leftL_le xs (ls.take k)
  have HXL := hid hl
  have HS := hid hs
  clear H hl hm hs
  go_enter Try.func23, Try.ntmps23
  go_wp2
  go_loopg [0, 9] m (fun gk o i wr => ∃ k : Nat, gk + k = m ∧ i = .int .i64 k ∧ (∃ A' n' c', o = .slice A' n' c' ∧ Sl wr A' n' c' ((leftL xs (ls.take k)).map (Value.int .i64))) ∧ Below w.heap.size w wr)
  case atStart => exact ⟨0, by omega, rfl, ⟨A, n, c, rfl, HS.out⟩, Below.refl _ _⟩
  case round =>
    obtain ⟨k, hk, rfl, ⟨A', n', c', rfl, hsl⟩, hb⟩ := hrel
    have HK := hid hk; clear hk
    have hn' : n' ≤ 1000 := by have := HL.out k; have := hsl.numlen; have := HXL.out; omega
    have HSL := hid hsl; clear hsl
    by_cases hlt : k < m
    · obtain ⟨b, o, ⟨x, y⟩, rfl, lb, hu, c1, c2⟩ := he.at hlt
      have d1 := (hb.cell (p := ⟨b, o + k * 2, none⟩) lb).trans c1
      have d3 : wr.cell? ⟨b, o + k * 2 + 1, none⟩ = some (.int .i64 y) := (hb.cell (p := ⟨b, o + (k * 2 + 1), none⟩) lb).trans c2
      have hx := exBad_iff (HA.out k _ hu)
      have hsz := hid hb.size
      have HB := hid (hb.alloc hb.size (.cells #[.int .i64 x, .int .i64 y] 42))
      have hT := hid (HT.out k _ hu)
      have hf : Fits x := ⟨hx.1, by have := hx.2.1; simp only at this; omega⟩
      have hR := hid fun W (hW : Sl W A' n' c' ((leftL xs (ls.take k)).map (Value.int .i64))) => refSplit A' n' c' (leftL xs (ls.take k)) x (y == 1) hf hn' W hW
      have hy : y = if (y == 1) = true then 1 else 0 := hx.2.2
      rw [← hy] at hR
      clear c1 c2 hu hx hy
      go_wp2_with fail
      refine (hR.out _ (HSL.out.alloc _)).mono ?_; rintro e w2 ⟨A2, n2, c2, rfl, o2, b2⟩
      have s2 := Sl.of_own o2
      have hb2 := below_call HB.out b2 (by have := hsz.out; simp; omega)
      clear o2 b2
      go_wp2
      go_roundg (gk - 1)
      case measure => have := HK.out; omega
      case rel => exact ⟨k + 1, by have := HK.out; omega, by go_num, ⟨A2, n2, c2, rfl, by rw [hT.out]; exact s2⟩, hb2⟩
    · obtain rfl : k = m := by have := HK.out; omega
      go_wp2
      go_ret
      exact ⟨A', n', c', rfl, by rw [← HE.out]; exact HSL.out, hb⟩
end Go.Proofs.Ytpebglilphgamaa
