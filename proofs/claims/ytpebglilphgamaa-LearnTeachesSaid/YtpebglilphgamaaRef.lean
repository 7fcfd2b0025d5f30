/- Walks of the reference's Class and Split. Conditions: slices read as lists of numbers. -/
import Derived.Test.YtpebglilphgamaaBase
namespace Go.Proofs.Ytpebglilphgamaa
open Go.RowKit

attribute [local go_sem ↓] shl_p2 shr_v and_shr

set_option maxRecDepth 100000 in
set_option maxHeartbeats 1000000 in
theorem refClassOk (p : Int) (A : Option Addr) (n c : Nat) (xs : List Int) (w : World) (hs : Sl w A n c (xs.map (Value.int .i64))) (H : Cls p xs) :
    Calls Try.prog 19 #[.int .i64 p, .slice A n c] w fun e w' => e = .returned (.bool true) ∧ w = w' := by
  have hl := hs.numlen
  have g1 := H.p1; have g2 := H.p5; have g3 := H.n1; have g4 := H.n16
  rw [hl] at g3 g4
  have h1' : decide (p < 1) = false := decide_eq_false (by omega)
  have h2' : decide (5 < p) = false := decide_eq_false (by omega)
  have h3' : decide ((n : Int) < 1) = false := decide_eq_false (by omega)
  have h4' : decide (16 < (n : Int)) = false := decide_eq_false (by omega)
  have hf : Fits p := ⟨by omega, by omega⟩
  have HA := hid fun j (hj : j + 1 < n) => H.asc j (by omega)
  have HG := hid fun j (hj : j < n) => H.rng j (by omega)
  clear H hl
  go_enter Try.func19, Try.ntmps19
  go_wp2
  go_loopg [25] n (fun gk i wr => ∃ k : Nat, gk + k = n ∧ i = .int .i64 k ∧ w = wr)
  case atStart => exact ⟨0, by omega, rfl, rfl⟩
  case round =>
    obtain ⟨k, hk, rfl, rfl⟩ := hrel
    have HK := hid hk; clear hk
    by_cases hlt : k < n
    · obtain ⟨b, o, rfl, lb, _, c1⟩ := hs.num hlt
      have r := HG.out k hlt
      have r1 : decide (at0 xs k < 0) = false := decide_eq_false (by omega)
      have r2 : decide (p2 p ≤ at0 xs k) = false := decide_eq_false (by omega)
      by_cases h0 : 0 < k
      · obtain ⟨b1, o1, e1, _, _, c2⟩ := hs.num (k := k - 1) (by omega)
        obtain ⟨rfl, rfl⟩ : b = b1 ∧ o = o1 := by simpa using e1
        clear e1
        have hkm : ((k : Int) - 1) = ((k - 1 : Nat) : Int) := by omega
        have e := HA.out (k - 1) (by omega)
        rw [Nat.sub_add_cancel h0] at e
        have e' : decide (at0 xs k ≤ at0 xs (k - 1)) = false := decide_eq_false (by omega)
        have d0 : decide (0 < (k : Int)) = true := decide_eq_true (by omega)
        clear e r
        go_wp2
        go_roundg (gk - 1)
        case measure => have := HK.out; omega
        case rel => exact ⟨k + 1, by have := HK.out; omega, by go_num, rfl⟩
      · have d0 : decide (0 < (k : Int)) = false := decide_eq_false (by omega)
        clear r
        go_wp2
        go_roundg (gk - 1)
        case measure => have := HK.out; omega
        case rel => exact ⟨k + 1, by have := HK.out; omega, by go_num, rfl⟩
    · go_wp2
      go_ret
      exact ⟨rfl, rfl⟩

set_option maxRecDepth 100000 in
set_option maxHeartbeats 1000000 in
theorem refClassBad (p : Int) (A : Option Addr) (n c : Nat) (xs : List Int) (w : World) (hs : Sl w A n c (xs.map (Value.int .i64))) (hno : ¬ Cls p xs) :
    Calls Try.prog 19 #[.int .i64 p, .slice A n c] w fun e w' => e = .returned (.bool false) ∧ w = w' := by
  have hl := hs.numlen
  have hle := hs.len_le
  by_cases h1 : p < 1
  · have h1' : decide (p < 1) = true := decide_eq_true h1
    clear hno hl
    go_enter Try.func19, Try.ntmps19
    go_wp2
    go_ret
    exact ⟨rfl, rfl⟩
  have h1' : decide (p < 1) = false := decide_eq_false h1
  by_cases h2 : 5 < p
  · have h2' : decide (5 < p) = true := decide_eq_true h2
    clear hno hl
    go_enter Try.func19, Try.ntmps19
    go_wp2
    go_ret
    exact ⟨rfl, rfl⟩
  have h2' : decide (5 < p) = false := decide_eq_false h2
  by_cases h3 : n < 1
  · have h3' : decide ((n : Int) < 1) = true := decide_eq_true (by omega)
    clear hno hl
    go_enter Try.func19, Try.ntmps19
    go_wp2
    go_ret
    exact ⟨rfl, rfl⟩
  have h3' : decide ((n : Int) < 1) = false := decide_eq_false (by omega)
  by_cases h4 : 16 < n
  · have h4' : decide (16 < (n : Int)) = true := decide_eq_true (by omega)
    clear hno hl
    go_enter Try.func19, Try.ntmps19
    go_wp2
    go_ret
    exact ⟨rfl, rfl⟩
  have h4' : decide (16 < (n : Int)) = false := decide_eq_false (by omega)
  have hf : Fits p := ⟨by omega, by omega⟩
  have HNO := hid fun (h6 : ∀ j, j < n → 0 ≤ at0 xs j ∧ at0 xs j < p2 p) (h7 : ∀ j, j + 1 < n → at0 xs j < at0 xs (j + 1)) => hno ⟨by omega, by omega, by omega, by omega, by rw [hl]; exact h6, by rw [hl]; exact h7⟩
  clear hno hl
  have hn16 : n ≤ 16 := by omega
  go_enter Try.func19, Try.ntmps19
  go_wp2
  go_loopg [25] n (fun gk i wr => ∃ k : Nat, gk + k = n ∧ i = .int .i64 k ∧ w = wr ∧ (∀ j, j < k → 0 ≤ at0 xs j ∧ at0 xs j < p2 p) ∧ (∀ j, j + 1 < k → at0 xs j < at0 xs (j + 1)))
  case atStart => exact ⟨0, by omega, rfl, rfl, fun j h => absurd h (by omega), fun j h => absurd h (by omega)⟩
  case round =>
    obtain ⟨k, hk, rfl, rfl, hr, ha⟩ := hrel
    have HK := hid hk; have HR := hid hr; have HA := hid ha; clear hk hr ha
    by_cases hlt : k < n
    · obtain ⟨b, o, rfl, lb, _, c1⟩ := hs.num hlt
      by_cases r1 : at0 xs k < 0
      · have r1' : decide (at0 xs k < 0) = true := decide_eq_true r1
        go_wp2
        go_ret
        exact ⟨rfl, rfl⟩
      have r1' : decide (at0 xs k < 0) = false := decide_eq_false r1
      by_cases r2 : p2 p ≤ at0 xs k
      · have r2' : decide (p2 p ≤ at0 xs k) = true := decide_eq_true r2
        go_wp2
        go_ret
        exact ⟨rfl, rfl⟩
      have r2' : decide (p2 p ≤ at0 xs k) = false := decide_eq_false r2
      have HR' := hid (show ∀ j, j < k + 1 → 0 ≤ at0 xs j ∧ at0 xs j < p2 p from fun j hj => by
        by_cases ej : j = k
        · subst ej; omega
        · exact HR.out j (by omega))
      clear r1 r2
      by_cases h0 : 0 < k
      · obtain ⟨b1, o1, e1, _, _, c2⟩ := hs.num (k := k - 1) (by omega)
        obtain ⟨rfl, rfl⟩ : b = b1 ∧ o = o1 := by simpa using e1
        clear e1
        have hkm : ((k : Int) - 1) = ((k - 1 : Nat) : Int) := by omega
        have d0 : decide (0 < (k : Int)) = true := decide_eq_true (by omega)
        by_cases e : at0 xs k ≤ at0 xs (k - 1)
        · have e' : decide (at0 xs k ≤ at0 xs (k - 1)) = true := decide_eq_true e
          go_wp2
          go_ret
          exact ⟨rfl, rfl⟩
        · have e' : decide (at0 xs k ≤ at0 xs (k - 1)) = false := decide_eq_false e
          go_wp2
          go_roundg (gk - 1)
          case measure => have := HK.out; omega
          case rel =>
            refine ⟨k + 1, by have := HK.out; omega, by go_num, rfl, HR'.out, fun j hj => ?_⟩
            by_cases ej : j + 1 = k
            · subst ej; simp only [Nat.add_sub_cancel] at e; omega
            · exact HA.out j (by omega)
      · have d0 : decide (0 < (k : Int)) = false := decide_eq_false (by omega)
        go_wp2
        go_roundg (gk - 1)
        case measure => have := HK.out; omega
        case rel => exact ⟨k + 1, by have := HK.out; omega, by go_num, rfl, HR'.out, fun j hj => absurd hj (by omega)⟩
    · exact absurd (HNO.out (fun j hj => HR.out j (by have := HK.out; omega)) fun j hj => HA.out j (by have := HK.out; omega)) (fun h => h)
set_option maxRecDepth 100000 in
set_option maxHeartbeats 1000000 in
/-- Split returns the elements with a value at a point. -/
theorem refSplit (A : Option Addr) (n c : Nat) (xs : List Int) (x : Int) (y : Bool) (hx : Fits x) (hn : n ≤ 1000) (w : World) (hs : Sl w A n c (xs.map (Value.int .i64))) :
    Calls Try.prog 55 #[.slice A n c, .int .i64 x, .int .i64 (if y then 1 else 0)] w fun e w' => ∃ A' m c', e = .returned (.slice A' m c') ∧ w'.ownsRow w.heap.size 3 1 (.slice A' m c') m ((split xs x y).map (Value.int .i64)) ∧ Below w.heap.size w w' := by
  have hl := hs.numlen
  have HT := hid fun k (hk : k < n) => show split (xs.take (k + 1)) x y = split (xs.take k) x y ++ (if bitB (at0 xs k) x == y then [at0 xs k] else []) from by
    unfold split
    have hk' : k < xs.length := by omega
    rw [List.take_succ_eq_append_getElem hk', List.filter_append]
    congr 1
    have e : at0 xs k = xs[k] := by simp [at0, List.getD, hk']
    rw [e]
    by_cases h : (bitB xs[k] x == y) = true <;> simp [h]
  have HE := hid (show split (xs.take n) x y = split xs x y by rw [List.take_of_length_le (by omega)])
  have HN := hid fun k => show (split (xs.take k) x y).length ≤ k from by
    have h1 := List.length_filter_le (fun c => bitB c x == y) (xs.take k)
    have h2 := List.length_take_le k xs
    unfold split; omega
  have HL := hid hl
  obtain ⟨yv, hyv⟩ : ∃ v : Int, v = (if y then 1 else 0) := ⟨_, rfl⟩
  rw [← hyv]
  have HY := hid hyv
  clear hl hyv
  go_enter Try.func55, Try.ntmps55
  go_wp2
  go_loopg [7, 12] n (fun gk o i wr => ∃ k : Nat, gk + k = n ∧ i = .int .i64 k ∧ (∃ A' m c', o = .slice A' m c' ∧ wr.ownsRow w.heap.size 3 1 (.slice A' m c') m ((split (xs.take k) x y).map (Value.int .i64))) ∧ Below w.heap.size w wr)
  case atStart => exact ⟨0, by omega, rfl, ⟨none, 0, 0, rfl, by simpa [split] using World.ownsRow_nil _ _ _ _⟩, Below.refl _ _⟩
  case round =>
    obtain ⟨k, hk, rfl, ⟨A', m, c', rfl, ho⟩, hb⟩ := hrel
    have HK := hid hk; clear hk
    have hz := hid hb.size
    have hm := hid (show (split (xs.take k) x y).length = m by simpa using ho.1)
    have HO := hid ho
    by_cases hlt : k < n
    · obtain ⟨b, o, rfl, lb, _, c1⟩ := hs.num hlt
      have c1' := (hb.cell (p := ⟨b, o + k, none⟩) lb).trans c1
      have hk1000 : k < 1000 := by omega
      have hm2 : m ≤ 1000 := by have := HN.out k; have := hm.out; omega
      have hT := hid (HT.out k hlt)
      clear c1 ho
      by_cases hv : (bitB (at0 xs k) x == y) = true
      · have ht : (bitV (at0 xs k) x == yv) = true := by
          have h1 := HY.out; have h2 := bitV_if (at0 xs k) x
          have h3 : bitB (at0 xs k) x = y := by simpa using hv
          rw [beq_iff_eq, h1, h2, h3]
        have hT2 := hid (show split (xs.take (k + 1)) x y = split (xs.take k) x y ++ [at0 xs k] by rw [hT.out, if_pos hv])
        clear hv
        go_wp2_with (at_builtin; refine push1 TI wr #[.int .i64 (at0 xs k)] _ m _ _ HO.out _ _ rfl rfl rfl rfl rfl (by simp [Value.oneCell']) (by omega) (by omega) hz.out ?_; intro v1 w1 hown1 hgr; have hb1 : Below w.heap.size w w1 := below_push hb HO.out hgr hz.out (Nat.le_refl _))
        obtain ⟨A1, c1, rfl⟩ := own_form hown1
        clear hgr
        go_wp2
        go_roundg (gk - 1)
        case measure => have := HK.out; omega
        case rel => exact ⟨k + 1, by have := HK.out; omega, by go_num, ⟨A1, m + 1, c1, rfl, by rw [hT2.out, List.map_append]; simpa using hown1⟩, hb1⟩
      · have ht : (bitV (at0 xs k) x == yv) = false := by
          have h1 := HY.out; have h2 := bitV_if (at0 xs k) x
          have h3 : ¬ bitB (at0 xs k) x = y := by simpa using hv
          rw [beq_eq_false_iff_ne, h1, h2]
          intro h; apply h3
          cases bitB (at0 xs k) x <;> cases y <;> simp_all
        have hT2 := hid (show split (xs.take (k + 1)) x y = split (xs.take k) x y by rw [hT.out, if_neg hv, List.append_nil])
        clear hv
        go_wp2
        go_roundg (gk - 1)
        case measure => have := HK.out; omega
        case rel => exact ⟨k + 1, by have := HK.out; omega, by go_num, ⟨A', m, c', rfl, by rw [hT2.out]; exact HO.out⟩, hb⟩
    · obtain rfl : k = n := by have := HK.out; omega
      go_wp2
      go_ret
      exact ⟨A', m, c', rfl, by rw [← HE.out]; exact HO.out, hb⟩
end Go.Proofs.Ytpebglilphgamaa
