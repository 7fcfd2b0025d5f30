/- Walk of learn.read. Conditions: none but that the slice reads as numbers. -/
import Derived.Test.YtpebglilphgamaaSch
namespace Go.Proofs.Ytpebglilphgamaa
open Go.RowKit

/-- A class of concepts of p points. -/
structure Cls (p : Int) (xs : List Int) : Prop where
  p1 : 1 ≤ p
  p5 : p ≤ 5
  n1 : 1 ≤ xs.length
  n16 : xs.length ≤ 16
  rng : ∀ j, j < xs.length → 0 ≤ at0 xs j ∧ at0 xs j < p2 p
  asc : ∀ j, j + 1 < xs.length → at0 xs j < at0 xs (j + 1)
theorem asc_le {xs : List Int} (h : ∀ j, j + 1 < xs.length → at0 xs j < at0 xs (j + 1)) : ∀ d j, j + d < xs.length → at0 xs j ≤ at0 xs (j + d) := by
  intro d
  induction d with
  | zero => intro j _; exact Int.le_refl _
  | succ d ih =>
    intro j hj
    have h1 := ih j (by omega)
    have h2 := h (j + d) (by omega)
    have e : j + (d + 1) = j + d + 1 := by omega
    rw [e]; omega
theorem cls_of {p : Int} {xs : List Int} (h1 : 1 ≤ p) (h2 : p ≤ 5) (h3 : 1 ≤ xs.length) (h4 : xs.length ≤ 16) (h5 : 0 ≤ at0 xs 0) (h6 : at0 xs (xs.length - 1) < p2 p)
    (h7 : ∀ j, j + 1 < xs.length → at0 xs j < at0 xs (j + 1)) : Cls p xs :=
  ⟨h1, h2, h3, h4, fun j hj => by
    have a := asc_le h7 j 0 (by omega)
    have b := asc_le h7 (xs.length - 1 - j) j (by omega)
    rw [Nat.zero_add] at a
    have e : j + (xs.length - 1 - j) = xs.length - 1 := by omega
    rw [e] at b
    omega, h7⟩
theorem Cls.fits {p : Int} {xs : List Int} (h : Cls p xs) : Fits p := ⟨by have := h.p1; omega, by have := h.p5; omega⟩

attribute [local go_sem ↓] shl_p2

set_option maxRecDepth 100000 in
set_option maxHeartbeats 1000000 in
theorem readBad (p : Int) (A : Option Addr) (n c : Nat) (xs : List Int) (w : World) (hs : Sl w A n c (xs.map (Value.int .i64))) (hno : ¬ Cls p xs) :
    Calls Try.prog 52 #[.int .i64 p, .slice A n c] w fun e w' => e = .returned (.tuple #[.pointer none, .bool false]) ∧ Below w.heap.size w w' := by
  have hl := hs.numlen
  have hle := hs.len_le
  by_cases h1 : p < 1
  · have h1' : decide (p < 1) = true := decide_eq_true h1
    clear hno hl
    go_enter Try.func52, Try.ntmps52
    go_wp2_with fail
    go_quiet (fail)
    go_wp2
    go_ret2
    exact ⟨rfl, below_drewN (Below.refl _ _) _⟩
  have h1' : decide (p < 1) = false := decide_eq_false h1
  by_cases h2 : 5 < p
  · have h2' : decide (5 < p) = true := decide_eq_true h2
    clear hno hl
    go_enter Try.func52, Try.ntmps52
    go_wp2_with fail
    go_quiet (fail)
    go_wp2
    go_ret2
    exact ⟨rfl, below_drewN (Below.refl _ _) _⟩
  have h2' : decide (5 < p) = false := decide_eq_false h2
  by_cases h3 : n < 1
  · have h3' : decide ((n : Int) < 1) = true := decide_eq_true (by omega)
    clear hno hl
    go_enter Try.func52, Try.ntmps52
    go_wp2_with fail
    go_quiet (fail)
    go_wp2
    go_ret2
    exact ⟨rfl, below_drewN (Below.refl _ _) _⟩
  have h3' : decide ((n : Int) < 1) = false := decide_eq_false (by omega)
  by_cases h4 : 16 < n
  · have h4' : decide (16 < (n : Int)) = true := decide_eq_true (by omega)
    clear hno hl
    go_enter Try.func52, Try.ntmps52
    go_wp2_with fail
    go_quiet (fail)
    go_wp2
    go_ret2
    exact ⟨rfl, below_drewN (Below.refl _ _) _⟩
  have h4' : decide (16 < (n : Int)) = false := decide_eq_false (by omega)
  obtain ⟨b, o, rfl, lb, hk0, ca⟩ := hs.num (k := 0) (by omega)
  obtain ⟨b', o', e', _, _, cz⟩ := hs.num (k := n - 1) (by omega)
  obtain ⟨rfl, rfl⟩ : b = b' ∧ o = o' := by simpa using e'
  clear e'
  rw [Nat.add_zero] at ca
  have hn0 : 0 < n := by omega
  have hn16 : n ≤ 16 := by omega
  have hf : Fits p := ⟨by omega, by omega⟩
  have hsub : ((n : Int) - 1) = ((n - 1 : Nat) : Int) := by omega
  by_cases h5 : at0 xs 0 < 0
  · have h5' : decide (at0 xs 0 < 0) = true := decide_eq_true h5
    clear hno hl
    go_enter Try.func52, Try.ntmps52
    go_wp2_with fail
    go_quiet (fail)
    go_wp2
    go_ret2
    exact ⟨rfl, below_drewN (Below.refl _ _) _⟩
  have h5' : decide (at0 xs 0 < 0) = false := decide_eq_false h5
  by_cases h6 : p2 p ≤ at0 xs (n - 1)
  · have h6' : decide (p2 p ≤ at0 xs (n - 1)) = true := decide_eq_true h6
    clear hno hl
    go_enter Try.func52, Try.ntmps52
    go_wp2_with fail
    go_quiet (fail)
    go_wp2
    go_ret2
    exact ⟨rfl, below_drewN (Below.refl _ _) _⟩
  have h6' : decide (p2 p ≤ at0 xs (n - 1)) = false := decide_eq_false h6
  have HNO := hid fun (h7 : ∀ j, j + 1 < n → at0 xs j < at0 xs (j + 1)) => hno (cls_of (by omega) (by omega) (by omega) (by omega) (by omega) (by rw [hl]; omega) (by rw [hl]; exact h7))
  clear hno
  have HL := hid hl
  clear hl
  go_enter Try.func52, Try.ntmps52
  go_wp2_with fail
  go_quiet (fail)
  go_wp2
  go_loopg [6] n (fun gk i wr => ∃ k : Nat, gk + k = n + 1 ∧ i = .int .i64 k ∧ 1 ≤ k ∧ (∀ j, j + 1 < k → at0 xs j < at0 xs (j + 1)) ∧ Below w.heap.size w wr)
  case atStart => exact ⟨1, by omega, rfl, by omega, fun j h => absurd h (by omega), below_drewN (Below.refl _ _) _⟩
  case round =>
    obtain ⟨k, hk, rfl, hk1, ho, hb⟩ := hrel
    have HK := hid hk; have HO := hid ho; clear hk ho
    clear h5' h6' hsub cz
    by_cases hlt : k < n
    · obtain ⟨b1, o1, e1, _, _, c1⟩ := hs.num (k := k - 1) (by omega)
      obtain ⟨b2, o2, e2, _, _, c2⟩ := hs.num (k := k) hlt
      obtain ⟨rfl, rfl⟩ : b = b1 ∧ o = o1 := by simpa using e1
      obtain ⟨rfl, rfl⟩ : b = b2 ∧ o = o2 := by simpa using e2
      clear e1 e2
      have d1 := (hb.cell (p := ⟨b, o + (k - 1), none⟩) lb).trans c1
      have d2 := (hb.cell (p := ⟨b, o + k, none⟩) lb).trans c2
      have hk1 : ((k : Int) - 1) = ((k - 1 : Nat) : Int) := by omega
      clear c1 c2 ca
      by_cases e : at0 xs k ≤ at0 xs (k - 1)
      · have e' : decide (at0 xs k ≤ at0 xs (k - 1)) = true := decide_eq_true e
        go_wp2_with fail
        go_quiet (fail)
        go_wp2
        go_ret2
        exact ⟨rfl, below_drewN hb _⟩
      · have e' : decide (at0 xs k ≤ at0 xs (k - 1)) = false := decide_eq_false e
        go_wp2_with fail
        go_quiet (fail)
        go_wp2
        go_roundg (gk - 1)
        case measure => have := HK.out; omega
        case rel =>
          refine ⟨k + 1, by have := HK.out; omega, by go_num, by omega, fun j hj => ?_, below_drewN hb _⟩
          by_cases ej : j + 1 = k
          · subst ej; simp only [Nat.add_sub_cancel] at e; omega
          · exact HO.out j (by omega)
    · exact absurd (HNO.out fun j hj => HO.out j (by have := HK.out; omega)) (fun h => h)

theorem MI : Try.prog.underlying 91 = some (.map 3 3) := Try.underlying91
set_option maxRecDepth 100000 in
set_option maxHeartbeats 1000000 in
theorem readOk (p : Int) (A : Option Addr) (n c : Nat) (xs : List Int) (w : World) (OK : Value → Value → Prop) (hs : Sl w A n c (xs.map (Value.int .i64))) (H : Cls p xs) :
    Calls Try.prog 52 #[.int .i64 p, .slice A n c] w fun e w' => ∃ s B, e = .returned (.tuple #[.pointer (some ⟨s, 0, none⟩), .bool true]) ∧ w.heap.size ≤ s ∧ w.heap.size ≤ B ∧ s ≠ B ∧ Sch w' s p A n c xs B ∧ Memo Try.prog 3 w' B OK ∧ Below w.heap.size w w' := by
  have hl := hs.numlen
  have hle := hs.len_le
  have g1 := H.p1; have g2 := H.p5; have g3 := H.n1; have g4 := H.n16
  rw [hl] at g3 g4
  have g5 := (H.rng 0 (by omega)).1
  have g6 := (H.rng (n - 1) (by omega)).2
  have h1' : decide (p < 1) = false := decide_eq_false (by omega)
  have h2' : decide (5 < p) = false := decide_eq_false (by omega)
  have h3' : decide ((n : Int) < 1) = false := decide_eq_false (by omega)
  have h4' : decide (16 < (n : Int)) = false := decide_eq_false (by omega)
  obtain ⟨b, o, rfl, lb, hk0, ca⟩ := hs.num (k := 0) (by omega)
  obtain ⟨b', o', e', _, _, cz⟩ := hs.num (k := n - 1) (by omega)
  obtain ⟨rfl, rfl⟩ : b = b' ∧ o = o' := by simpa using e'
  clear e'
  rw [Nat.add_zero] at ca
  have hn0 : 0 < n := by omega
  have hf : Fits p := ⟨by omega, by omega⟩
  have hsub : ((n : Int) - 1) = ((n - 1 : Nat) : Int) := by omega
  have h5' : decide (at0 xs 0 < 0) = false := decide_eq_false (by omega)
  have h6' : decide (p2 p ≤ at0 xs (n - 1)) = false := decide_eq_false (by omega)
  have HA := hid fun j (hj : j + 1 < n) => H.asc j (by omega)
  clear H hl g5 g6
  go_enter Try.func52, Try.ntmps52
  go_wp2_with fail
  go_quiet (fail)
  go_wp2
  go_loopg [6] n (fun gk i wr => ∃ k : Nat, gk + k = n + 1 ∧ i = .int .i64 k ∧ 1 ≤ k ∧ Below w.heap.size w wr)
  case atStart => exact ⟨1, by omega, rfl, by omega, below_drewN (Below.refl _ _) _⟩
  case round =>
    obtain ⟨k, hk, rfl, hk1, hb⟩ := hrel
    have HK := hid hk; clear hk
    clear h5' h6' hsub cz
    by_cases hlt : k < n
    · obtain ⟨b1, o1, e1, _, _, c1⟩ := hs.num (k := k - 1) (by omega)
      obtain ⟨b2, o2, e2, _, _, c2⟩ := hs.num (k := k) hlt
      obtain ⟨rfl, rfl⟩ : b = b1 ∧ o = o1 := by simpa using e1
      obtain ⟨rfl, rfl⟩ : b = b2 ∧ o = o2 := by simpa using e2
      clear e1 e2
      have d1 := (hb.cell (p := ⟨b, o + (k - 1), none⟩) lb).trans c1
      have d2 := (hb.cell (p := ⟨b, o + k, none⟩) lb).trans c2
      have hkm : ((k : Int) - 1) = ((k - 1 : Nat) : Int) := by omega
      have e := HA.out (k - 1) (by omega)
      rw [Nat.sub_add_cancel hk1] at e
      have e' : decide (at0 xs k ≤ at0 xs (k - 1)) = false := decide_eq_false (by omega)
      clear c1 c2 ca e
      go_wp2_with fail
      go_quiet (fail)
      go_wp2
      go_roundg (gk - 1)
      case measure => have := HK.out; omega
      case rel => exact ⟨k + 1, by have := HK.out; omega, by go_num, by omega, below_drewN hb _⟩
    · have hmm := @run_makeMap Try.prog
      have hm := Memo.made (P := Try.prog) (k := 3) (OK := OK) wr
      have hb1 : Below w.heap.size w (wr.alloc (.map #[] 0)) := hb.alloc hb.size _
      go_wp2
      go_ret2
      have hz := hb.size
      exact ⟨wr.heap.size + 1, wr.heap.size, rfl, by omega, hz, by omega, ⟨Blk.new_at _ _ _ (by simp), ((hs.below hb).alloc _).alloc _⟩, hm.alloc _, hb1.alloc (by simp; omega) _⟩
end Go.Proofs.Ytpebglilphgamaa
