/- Walks of Wins and Ask. Condition: the slice reads as numbers. -/
import Derived.Test.YtdclmhmdkhpekaaAskQ
namespace Go.Proofs.Ytdclmhmdkhpekaa
open Go.RowKit Go.Maps

theorem plays24 {xs : List Int} (h : stateOk 24 xs = true) : Plays xs := ⟨Nn.of_state h, by have := (stateOk_iff.1 h).2.2.2; omega⟩
theorem made_memo (w : World) : Memo Try.prog 112 (w.alloc (.map #[] 0)) w.heap.size OKw := Memo.made w
theorem box_iv {w w0 : World} {A : Option Addr} {n c : Nat} {xs : List Int} (hs : Sl w A n c (xs.map (Value.int .i64))) (hw : w0 = (w.alloc (.map #[] 0)).alloc (.cells #[.map (some w.heap.size)] 83)) : Iv w0 (w.heap.size + 1) w.heap.size A n c xs := by
  subst hw
  exact ⟨Blk.new_at _ _ _ (by simp), (made_memo w).alloc _, (hs.alloc _).alloc _⟩
theorem box_below {w w0 : World} (hw : w0 = (w.alloc (.map #[] 0)).alloc (.cells #[.map (some w.heap.size)] 83)) : Below w.heap.size w w0 := by
  subst hw
  exact ((Below.refl _ _).alloc (Nat.le_refl _) _).alloc (by simp) _

set_option maxRecDepth 100000 in
set_option maxHeartbeats 1000000 in
theorem winsPub (A : Option Addr) (n c : Nat) (xs : List Int) (q : Nat) (hq : q ≤ 12) (w : World) (hs : Sl w A n c (xs.map (Value.int .i64))) (h : stateOk 24 xs = true) :
    Calls Try.prog 39 #[.slice A n c, .int .i64 q] w fun e w' => e = .returned (.tuple #[.bool (winS q xs), .int .i64 0]) ∧ Below w.heap.size w w' := by
  have HV := hid (progValid A n c xs 24 (by omega) w hs)
  rw [h] at HV
  have g1 : decide ((q : Int) < 0) = false := decide_eq_false (by omega)
  have g2 : decide (12 < (q : Int)) = false := decide_eq_false (by omega)
  have g3 : decide (12 < q) = false := decide_eq_false (by omega)
  have hmm := @run_makeMap Try.prog
  have HW := hid ((winAll q (by omega)).1)
  have HS := hid hs; have HP := hid (plays24 h)
  clear hs h
  go_enter Try.func39, Try.ntmps39
  go_wp2_with fail
  refine HV.out.mono ?_; rintro e w1 ⟨rfl, rfl⟩
  go_wp2_with fail
  refine at_callw fun W0 hW0 => ?_
  refine (HW.out _ _ A n c xs W0 HP.out (box_iv HS.out hW0)).mono ?_; rintro e w2 ⟨rfl, g2, m2⟩
  have HB := hid ((box_below hW0).grown g2 (box_below hW0).size fun k hk => by cases hk; exact Nat.le_refl _)
  clear hW0 g2 m2
  go_wp2
  go_ret2
  exact ⟨rfl, HB.out⟩

set_option maxRecDepth 100000 in
set_option maxHeartbeats 1000000 in
theorem winsBad (A : Option Addr) (n c : Nat) (xs : List Int) (q : Int) (w : World) (hs : Sl w A n c (xs.map (Value.int .i64))) (h : ¬ (stateOk 24 xs = true ∧ 0 ≤ q ∧ q ≤ 12)) :
    Calls Try.prog 39 #[.slice A n c, .int .i64 q] w fun e w' => e = .returned (.tuple #[.bool false, .int .i64 2]) ∧ w = w' := by
  have HV := hid (progValid A n c xs 24 (by omega) w hs)
  clear hs
  cases hv : stateOk 24 xs with
  | false =>
    rw [hv] at HV
    clear h hv
    go_enter Try.func39, Try.ntmps39
    go_wp2_with fail
    refine HV.out.mono ?_; rintro e w1 ⟨rfl, rfl⟩
    go_wp2
    go_ret2
    exact ⟨rfl, rfl⟩
  | true =>
    rw [hv] at HV h
    by_cases h1 : q < 0
    · have g1 : decide (q < 0) = true := decide_eq_true h1
      clear h hv h1
      go_enter Try.func39, Try.ntmps39
      go_wp2_with fail
      refine HV.out.mono ?_; rintro e w1 ⟨rfl, rfl⟩
      go_wp2
      go_ret2
      exact ⟨rfl, rfl⟩
    · have g1 : decide (q < 0) = false := decide_eq_false h1
      have g2 : decide (12 < q) = true := decide_eq_true (by
        rcases Int.lt_or_le 12 q with g | g
        · exact g
        · exact absurd ⟨rfl, by omega, g⟩ h)
      clear h hv h1
      go_enter Try.func39, Try.ntmps39
      go_wp2_with fail
      refine HV.out.mono ?_; rintro e w1 ⟨rfl, rfl⟩
      go_wp2
      go_ret2
      exact ⟨rfl, rfl⟩

set_option maxRecDepth 100000 in
set_option maxHeartbeats 1000000 in
theorem askBad (A : Option Addr) (n c : Nat) (xs : List Int) (q : Int) (w : World) (hs : Sl w A n c (xs.map (Value.int .i64))) (h : ¬ (stateOk 24 xs = true ∧ 0 ≤ q ∧ q ≤ 12)) :
    Calls Try.prog 48 #[.slice A n c, .int .i64 q] w fun e w' => e = .returned (.tuple #[.slice none 0 0, .int .i64 2]) ∧ w = w' := by
  have HV := hid (progValid A n c xs 24 (by omega) w hs)
  clear hs
  cases hv : stateOk 24 xs with
  | false =>
    rw [hv] at HV
    clear h hv
    go_enter Try.func48, Try.ntmps48
    go_wp2_with fail
    refine HV.out.mono ?_; rintro e w1 ⟨rfl, rfl⟩
    go_wp2
    go_ret2
    exact ⟨rfl, rfl⟩
  | true =>
    rw [hv] at HV h
    by_cases h1 : q < 0
    · have g1 : decide (q < 0) = true := decide_eq_true h1
      clear h hv h1
      go_enter Try.func48, Try.ntmps48
      go_wp2_with fail
      refine HV.out.mono ?_; rintro e w1 ⟨rfl, rfl⟩
      go_wp2
      go_ret2
      exact ⟨rfl, rfl⟩
    · have g1 : decide (q < 0) = false := decide_eq_false h1
      have g2 : decide (12 < q) = true := decide_eq_true (by
        rcases Int.lt_or_le 12 q with g | g
        · exact g
        · exact absurd ⟨rfl, by omega, g⟩ h)
      clear h hv h1
      go_enter Try.func48, Try.ntmps48
      go_wp2_with fail
      refine HV.out.mono ?_; rintro e w1 ⟨rfl, rfl⟩
      go_wp2
      go_ret2
      exact ⟨rfl, rfl⟩

/-- What Ask returns: an error's number, and a question. -/
def askE (q : Nat) (xs : List Int) : Int := if total xs ≤ 1 then 5 else if winS q xs = true then 0 else 4
def askR (q : Nat) (xs : List Int) : List Int := if total xs ≤ 1 then [] else if winS q xs = true then (findQ (q - 1) xs).getD [] else []

set_option maxRecDepth 100000 in
set_option maxHeartbeats 2000000 in
theorem askPub (A : Option Addr) (n c : Nat) (xs : List Int) (q : Nat) (hq : q ≤ 12) (w : World) (hs : Sl w A n c (xs.map (Value.int .i64))) (h : stateOk 24 xs = true) :
    Calls Try.prog 48 #[.slice A n c, .int .i64 q] w fun e w' => ∃ A' m c', e = .returned (.tuple #[.slice A' m c', .int .i64 (askE q xs)]) ∧ Sl w' A' m c' ((askR q xs).map (Value.int .i64)) ∧ Below w.heap.size w w' := by
  have hn := hs.numlen
  have HV := hid (progValid A n c xs 24 (by omega) w hs)
  rw [h] at HV
  have g1 : decide ((q : Int) < 0) = false := decide_eq_false (by omega)
  have g2 : decide (12 < (q : Int)) = false := decide_eq_false (by omega)
  have g3 : decide (12 < q) = false := decide_eq_false (by omega)
  have hmm := @run_makeMap Try.prog
  have HP := hid (plays24 h)
  have HSM := hid (progSum A n c xs 1000 (by omega) (by have := HP.out.nn.hi; omega) HP.out.bd w hs)
  have HW := hid ((winAll q (by omega)).1)
  have HS := hid hs
  clear h
  by_cases h1 : total xs ≤ 1
  · have k1 : decide (total xs ≤ 1) = true := decide_eq_true h1
    have hE : askE q xs = 5 := by simp [askE, h1]
    have hR : askR q xs = [] := by simp [askR, h1]
    rw [hE, hR]
    clear hs h1 hE hR hn
    go_enter Try.func48, Try.ntmps48
    go_wp2_with fail
    refine HV.out.mono ?_; rintro e w1 ⟨rfl, rfl⟩
    go_wp2_with fail
    refine HSM.out.mono ?_; rintro e w1 ⟨rfl, rfl⟩
    go_wp2
    go_ret2
    exact ⟨none, 0, 0, rfl, Sl.nil _, Below.refl _ _⟩
  have k1 : decide (total xs ≤ 1) = false := decide_eq_false h1
  cases hw : winS q xs with
  | false =>
    have hE : askE q xs = 4 := by simp [askE, h1, hw]
    have hR : askR q xs = [] := by simp [askR, h1, hw]
    rw [hE, hR]
    have HW2 := hid fun vb M W (hi : Iv W vb M A n c xs) => HW.out vb M A n c xs W HP.out hi
    rw [hw] at HW2
    clear hs h1 hE hR hw hn
    go_enter Try.func48, Try.ntmps48
    go_wp2_with fail
    refine HV.out.mono ?_; rintro e w1 ⟨rfl, rfl⟩
    go_wp2_with fail
    refine HSM.out.mono ?_; rintro e w1 ⟨rfl, rfl⟩
    go_wp2_with fail
    refine at_callw fun W0 hW0 => ?_
    refine (HW2.out _ _ W0 (box_iv HS.out hW0)).mono ?_; rintro e w2 ⟨rfl, g2, m2⟩
    have HB := hid ((box_below hW0).grown g2 (box_below hW0).size fun k hk => by cases hk; exact Nat.le_refl _)
    clear hW0 g2 m2
    go_wp2
    go_ret2
    exact ⟨none, 0, 0, rfl, Sl.nil _, HB.out⟩
  | true =>
    obtain ⟨p, rfl⟩ : ∃ p, q = p + 1 := by
      cases q with
      | zero => exfalso; simp [winS] at hw; exact h1 hw
      | succ p => exact ⟨p, rfl⟩
    have hwt := winS_weight HP.out.nn hw
    have hfq := winS_ask (q := p) h1 hwt
    rw [hw] at hfq
    obtain ⟨r, hr⟩ := Option.isSome_iff_exists.1 hfq.symm
    have hE : askE (p + 1) xs = 0 := by simp [askE, h1, hw]
    have hR : askR (p + 1) xs = r := by simp [askR, h1, hw, hr]
    rw [hE, hR]
    have HW2 := hid fun vb M W (hi : Iv W vb M A n c xs) => HW.out vb M A n c xs W HP.out hi
    rw [hw] at HW2
    have HA2 := hid fun vb M W (hi : Iv W vb M A n c xs) => (winAll p (by omega)).2 vb M A n c xs W HP.out hi
    rw [hr] at HA2
    simp only [Option.isSome_some] at HA2
    clear hs h1 hE hR hw hn hwt hfq hr
    go_enter Try.func48, Try.ntmps48
    go_wp2_with fail
    refine HV.out.mono ?_; rintro e w1 ⟨rfl, rfl⟩
    go_wp2_with fail
    refine HSM.out.mono ?_; rintro e w1 ⟨rfl, rfl⟩
    go_wp2_with fail
    refine at_callw fun W0 hW0 => ?_
    have hiv := box_iv HS.out hW0
    refine (HW2.out _ _ W0 hiv).mono ?_; rintro e w2 ⟨rfl, g2, m2⟩
    have HB := hid ((box_below hW0).grown g2 (box_below hW0).size fun k hk => by cases hk; exact Nat.le_refl _)
    have HI2 := hid (hiv.grown g2 m2)
    clear hW0 g2 m2 hiv
    go_wp2_with fail
    refine (HA2.out _ _ _ HI2.out).mono ?_; rintro e w3 ⟨A3, m3, c3, rfl, g3', mm3, ho⟩
    have HO3 := hid (ho r rfl)
    have HB3 := hid (HB.out.grown g3' HB.out.size fun k hk => by cases hk; exact Nat.le_refl _)
    clear g3' mm3 ho
    go_wp2
    go_ret2
    exact ⟨A3, m3, c3, rfl, Sl.of_own HO3.out, HB3.out⟩
end Go.Proofs.Ytdclmhmdkhpekaa
