/- Walks of cmp.Compare, cmp.Or, key's comparison, and slices.MinFunc with it. Condition: sets of five points. -/
import Derived.Test.YtpebglilphgamaaSize
import Derived.Test.YtpebglilphgamaaBase
namespace Go.Proofs.Ytpebglilphgamaa
open Go.RowKit

def cmpI (a b : Int) : Int := if a < b then -1 else if b < a then 1 else 0
theorem cmpI_bd (a b : Int) : -1 ≤ cmpI a b ∧ cmpI a b ≤ 1 := by unfold cmpI; split <;> (try split) <;> omega
theorem cmpI_neg {a b : Int} : cmpI a b < 0 ↔ a < b := by unfold cmpI; split <;> (try split) <;> omega
theorem cmpI_zero {a b : Int} : cmpI a b = 0 ↔ a = b := by unfold cmpI; split <;> (try split) <;> omega

set_option maxRecDepth 100000 in
set_option maxHeartbeats 1000000 in
theorem compareS (a b : Int) (w : World) : Calls Try.prog 85 #[.int .i64 a, .int .i64 b] w fun e w' => e = .returned (.int .i64 (cmpI a b)) ∧ w = w' := by
  by_cases h : a < b
  · have hd : decide (a < b) = true := decide_eq_true h
    have hE : cmpI a b = -1 := if_pos h
    rw [hE]
    clear hE h
    go_enter Try.func85, Try.ntmps85
    go_wp2
    go_ret
    exact ⟨rfl, rfl⟩
  · have hd : decide (a < b) = false := decide_eq_false h
    by_cases g : b < a
    · have hg : decide (b < a) = true := decide_eq_true g
      have hE : cmpI a b = 1 := by unfold cmpI; rw [if_neg h, if_pos g]
      rw [hE]
      clear hE h g
      go_enter Try.func85, Try.ntmps85
      go_wp2
      go_ret
      exact ⟨rfl, rfl⟩
    · have hg : decide (b < a) = false := decide_eq_false g
      have hE : cmpI a b = 0 := by unfold cmpI; rw [if_neg h, if_neg g]
      rw [hE]
      clear hE h g
      go_enter Try.func85, Try.ntmps85
      go_wp2
      go_ret
      exact ⟨rfl, rfl⟩

/-- The first that is not zero. -/
def or2 (u v : Int) : Int := if u = 0 then v else u
set_option maxRecDepth 100000 in
set_option maxHeartbeats 1000000 in
theorem orS (A : Option Addr) (u v : Int) (w : World) (hs : Sl w A 2 2 ([u, v].map (Value.int .i64))) :
    Calls Try.prog 84 #[.slice A 2 2] w fun e w' => e = .returned (.int .i64 (or2 u v)) ∧ Below w.heap.size w w' := by
  obtain ⟨b, o, rfl, lb, _, c0⟩ := hs.num (k := 0) (by decide)
  obtain ⟨b', o', e', _, _, c1⟩ := hs.num (k := 1) (by decide)
  obtain ⟨rfl, rfl⟩ : b = b' ∧ o = o' := by simpa using e'
  clear e'
  have e0 : at0 [u, v] 0 = u := rfl
  have e1 : at0 [u, v] 1 = v := rfl
  rw [e0, Nat.add_zero] at c0
  rw [e1] at c1
  have C0 := hid c0; have C1 := hid c1; have LB := hid lb
  clear hs e0 e1 c0 c1
  go_enter Try.func84, Try.ntmps84
  go_wp2
  go_loopg [8] 2 (fun gk i wr => ∃ k : Nat, gk + k = 2 ∧ i = .int .i64 k ∧ (1 ≤ k → u = 0) ∧ (2 ≤ k → v = 0) ∧ Below w.heap.size w wr)
  case atStart => exact ⟨0, rfl, rfl, fun h => absurd h (by omega), fun h => absurd h (by omega), Below.refl _ _⟩
  case round =>
    obtain ⟨k, hk, rfl, h1, h2, hb⟩ := hrel
    have c0 := (hb.cell (p := ⟨b, o, none⟩) LB.out).trans C0.out
    have c1 := (hb.cell (p := ⟨b, o + 1, none⟩) LB.out).trans C1.out
    have hj3 : k = 0 ∨ k = 1 ∨ k = 2 := by omega
    rcases hj3 with rfl | rfl | rfl
    · by_cases hu : u = 0
      · have hu' : (u != 0) = false := by rw [bne_eq_false_iff_eq]; exact hu
        have HU := hid hu
        clear h1 h2 hu
        go_wp2
        go_roundg (gk - 1)
        case measure => omega
        case rel => exact ⟨1, by omega, rfl, fun _ => HU.out, fun h => absurd h (by omega), hb⟩
      · have hu' : (u != 0) = true := by rw [bne_iff_ne]; exact hu
        have hE := hid (show or2 u v = u from if_neg hu)
        clear h1 h2 hu
        go_wp2
        go_ret
        exact ⟨ret_i hE.out.symm, hb⟩
    · have hu := hid (h1 (by omega))
      by_cases hv : v = 0
      · have hu' : (v != 0) = false := by rw [bne_eq_false_iff_eq]; exact hv
        have HV := hid hv
        clear h1 h2 hv
        go_wp2
        go_roundg (gk - 1)
        case measure => omega
        case rel => exact ⟨2, by omega, rfl, fun _ => hu.out, fun _ => HV.out, hb⟩
      · have hu' : (v != 0) = true := by rw [bne_iff_ne]; exact hv
        have hE := hid (show or2 u v = v from if_pos hu.out)
        clear h1 h2 hv
        go_wp2
        go_ret
        exact ⟨ret_i hE.out.symm, hb⟩
    · have hE := hid (show or2 u v = 0 from by rw [or2, if_pos (h1 (by omega))]; exact h2 (by omega))
      clear h1 h2
      go_wp2
      go_ret
      exact ⟨ret_i hE.out.symm, hb⟩

/-- One set of points comes before another one: with fewer points, or as many and the less number. -/
def lexlt (a b : Nat) : Prop := sz a < sz b ∨ (sz a = sz b ∧ a < b)
theorem or2_neg {a b : Nat} : or2 (cmpI (sz a) (sz b)) (cmpI a b) < 0 ↔ lexlt a b := by
  have h1 := cmpI_neg (a := (sz a : Int)) (b := (sz b : Int))
  have h2 := cmpI_zero (a := (sz a : Int)) (b := (sz b : Int))
  have h3 := cmpI_neg (a := (a : Int)) (b := (b : Int))
  unfold or2 lexlt
  split <;> rename_i h
  · have := h2.1 h; rw [h3]; omega
  · have : ¬ (sz a : Int) = sz b := fun e => h (h2.2 e)
    rw [h1]; omega

set_option maxRecDepth 100000 in
set_option maxHeartbeats 1000000 in
theorem keyCmp (a b : Nat) (ha : a < 32) (hb : b < 32) (w : World) :
    Calls Try.prog 83 #[.int .i64 a, .int .i64 b] w fun e w' => e = .returned (.int .i64 (or2 (cmpI (sz a) (sz b)) (cmpI a b))) ∧ Below w.heap.size w w' := by
  have H1 := hid (countS a (by omega) w)
  have H2 := hid (countS b (by omega) w)
  have H3 := hid (compareS (sz a) (sz b) w)
  have H4 := hid (compareS a b w)
  have HO := hid fun (A : Option Addr) (W : World) (h : Sl W A 2 2 ([cmpI (sz a) (sz b), cmpI a b].map (Value.int .i64))) => orS A _ _ W h
  generalize cmpI (sz a) (sz b) = u at *
  generalize cmpI a b = v at *
  clear ha hb
  go_enter Try.func83, Try.ntmps83
  go_wp2_with fail
  refine (H1.out).mono ?_; rintro e w1 ⟨rfl, rfl⟩
  go_wp2_with fail
  refine (H2.out).mono ?_; rintro e w1 ⟨rfl, rfl⟩
  go_wp2_with fail
  refine (H3.out).mono ?_; rintro e w1 ⟨rfl, rfl⟩
  go_wp2_with fail
  refine (H4.out).mono ?_; rintro e w1 ⟨rfl, rfl⟩
  go_wp2_with fail
  refine (HO.out _ _ (Sl.new _ _ _ (by rfl) (by decide))).mono ?_; rintro e w1 ⟨rfl, hb⟩
  go_wp2
  go_ret
  exact ⟨rfl, (((Below.refl _ _).alloc (Nat.le_refl _) _).trans (hb.mono (by simp)))⟩
def natV (k : Nat) : Value := .int .i64 (k : Int)
theorem at0_nat {ks : List Nat} {j : Nat} (h : j < ks.length) : at0 (ks.map fun (k : Nat) => (k : Int)) j = ((ks.getD j 0 : Nat) : Int) := by
  simp [at0, List.getD, h]
/-- The first of those before which none comes. -/
def minOf (ks : List Nat) : Nat → Nat
  | 0 => ks.getD 0 0
  | j+1 => if sz (ks.getD j 0) < sz (minOf ks j) ∨ (sz (ks.getD j 0) = sz (minOf ks j) ∧ ks.getD j 0 < minOf ks j) then ks.getD j 0 else minOf ks j
theorem minOf_mem {ks : List Nat} (h : ks ≠ []) : ∀ j, j ≤ ks.length → minOf ks j ∈ ks := by
  have hd : ∀ j, j < ks.length → ks.getD j 0 ∈ ks := fun j hj => by simp [List.getD, hj]
  intro j
  induction j with
  | zero =>
    intro _
    exact hd 0 (by cases ks with
      | nil => exact absurd rfl h
      | cons _ _ => simp)
  | succ j ih =>
    intro hj
    simp only [minOf]
    split
    · exact hd j (by omega)
    · exact ih (by omega)
theorem minOf_le {ks : List Nat} : ∀ j i, i < j → ¬ lexlt (ks.getD i 0) (minOf ks j) := by
  intro j
  induction j with
  | zero => intro i h; omega
  | succ j ih =>
    intro i hi
    simp only [minOf]
    unfold lexlt at ih ⊢
    split
    · rename_i h
      by_cases e : i = j
      · subst e; omega
      · have := ih i (by omega); omega
    · rename_i h
      by_cases e : i = j
      · subst e; exact h
      · exact ih i (by omega)

set_option maxRecDepth 100000 in
set_option maxHeartbeats 1000000 in
theorem minFunc (A : Option Addr) (n c : Nat) (ks : List Nat) (hk : ∀ k ∈ ks, k < 32) (hne : ks ≠ []) (w : World) (hs : Sl w A n c ((ks.map fun (k : Nat) => (k : Int)).map (Value.int .i64))) :
    Calls Try.prog 82 #[.slice A n c, .func (.func 83) #[] #[]] w fun e w' => e = .returned (.int .i64 (minOf ks n)) ∧ Below w.heap.size w w' := by
  have hm := hs.len_le
  have hl : ks.length = n := by simpa using hs.len
  have hn0 : 0 < n := by
    rw [← hl]
    cases ks with
    | nil => exact absurd rfl hne
    | cons _ _ => simp
  have h1' : decide ((n : Int) < 1) = false := decide_eq_false (by omega)
  have h2' : decide (n < 1) = false := decide_eq_false (by omega)
  obtain ⟨b, o, rfl, lb, _, c0⟩ := hs.num hn0
  rw [at0_nat (by omega), Nat.add_zero] at c0
  have HM := hid fun j (hj : j ≤ n) => hk _ (minOf_mem hne j (by omega))
  have HD := hid fun j (hj : j < n) => show ks.getD j 0 < 32 from hk _ (by simp [List.getD, hl, hj])
  have HC := hid fun (a b : Nat) (ha : a < 32) (hb : b < 32) W => keyCmp a b ha hb W
  have HL := hid hl
  have HS := hid hs
  have LB := hid lb
  have e0 : minOf ks 1 = ks.getD 0 0 := by simp [minOf]
  have E0 := hid e0
  clear hk hne hl hs e0 lb
  go_enter Try.func82, Try.ntmps82
  go_wp2
  go_loopg [5, 6] n (fun gk m i wr => ∃ j : Nat, gk + j = n + 1 ∧ (1 ≤ j ∧ j ≤ n) ∧ i = .int .i64 j ∧ m = .int .i64 (minOf ks j) ∧ Below w.heap.size w wr)
  case atStart => exact ⟨1, by omega, ⟨by omega, by omega⟩, rfl, by rw [E0.out]; simp, Below.refl _ _⟩
  case round =>
    obtain ⟨j, hj, hj1, rfl, rfl, hb⟩ := hrel
    have HJ := hid hj; clear hj
    by_cases hlt : j < n
    · obtain ⟨b1, o1, e1, lb1, hkl, ca⟩ := HS.out.num hlt
      obtain ⟨rfl, rfl⟩ : b = b1 ∧ o = o1 := by simpa using e1
      clear e1
      rw [at0_nat (by have := HL.out; omega)] at ca
      have cc := (hb.cell (p := ⟨b, o + j, none⟩) LB.out).trans ca
      have hN := HD.out j hlt
      have hO := HM.out j (by omega)
      have hK := hid (HC.out _ _ hN hO wr)
      have hlx := or2_neg (a := ks.getD j 0) (b := minOf ks j)
      have hst : minOf ks (j + 1) = if sz (ks.getD j 0) < sz (minOf ks j) ∨ (sz (ks.getD j 0) = sz (minOf ks j) ∧ ks.getD j 0 < minOf ks j) then ks.getD j 0 else minOf ks j := rfl
      generalize or2 (cmpI (sz (ks.getD j 0)) (sz (minOf ks j))) (cmpI (ks.getD j 0) (minOf ks j)) = r at *
      clear ca hkl lb1
      by_cases hr : r < 0
      · have hr' : decide (r < 0) = true := decide_eq_true hr
        have hE := hid (hst.trans (if_pos (hlx.1 hr)))
        clear hst hlx hr
        generalize ks.getD j 0 = kj at *
        go_wp2_with fail
        refine (hK.out).mono ?_; rintro e w1 ⟨rfl, b1⟩
        have hb1 := below_call hb b1 hb.size
        have cd := (hb1.cell (p := ⟨b, o + j, none⟩) LB.out).trans ((hb.cell (p := ⟨b, o + j, none⟩) LB.out).symm.trans cc)
        clear b1
        go_wp2
        go_roundg (gk - 1)
        case measure => have := HJ.out; omega
        case rel => exact ⟨j + 1, by have := HJ.out; omega, ⟨by omega, by omega⟩, by go_num, by rw [hE.out], hb1⟩
      · have hr' : decide (r < 0) = false := decide_eq_false hr
        have hE := hid (hst.trans (if_neg fun h => hr (hlx.2 h)))
        clear hst hlx hr
        generalize ks.getD j 0 = kj at *
        go_wp2_with fail
        refine (hK.out).mono ?_; rintro e w1 ⟨rfl, b1⟩
        have hb1 := below_call hb b1 hb.size
        clear b1
        go_wp2
        go_roundg (gk - 1)
        case measure => have := HJ.out; omega
        case rel => exact ⟨j + 1, by have := HJ.out; omega, ⟨by omega, by omega⟩, by go_num, by rw [hE.out], hb1⟩
    · obtain rfl : j = n := by have := HJ.out; omega
      go_wp2
      go_ret
      exact ⟨rfl, hb⟩
end Go.Proofs.Ytpebglilphgamaa
