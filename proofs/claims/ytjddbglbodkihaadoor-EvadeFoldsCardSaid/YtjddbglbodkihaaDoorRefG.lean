/- Walk of the reference's Family. Conditions: the slice reads as numbers. -/
import Derived.Test.YtjddbglbodkihaaDoorRefF
namespace Go.Proofs.YtjddbglbodkihaaDoor
open Go.RowKit
attribute [local go_sem ↓] shl_p2 shl_u or_u shr_u and_shrF shr_v and_shr andNot_v

theorem asc_of_adj {xs : List Int} (h : ∀ j, j + 1 < xs.length → at0 xs j < at0 xs (j + 1)) : xs.Pairwise (· < ·) := by
  rw [List.pairwise_iff_getElem]
  have key : ∀ d i, i + d + 1 < xs.length → at0 xs i < at0 xs (i + d + 1) := by
    intro d
    induction d with
    | zero => intro i hi; exact h i hi
    | succ d ih =>
      intro i hi
      have h1 := ih i (by omega)
      have h2 := h (i + d + 1) (by omega)
      rw [show i + (d + 1) + 1 = i + d + 1 + 1 by omega]
      omega
  intro i j hi hj hij
  have := key (j - i - 1) i (by omega)
  rw [show i + (j - i - 1) + 1 = j by omega] at this
  rwa [at0_get (List.getElem?_eq_getElem hi), at0_get (List.getElem?_eq_getElem hj)] at this
theorem adj_of_asc {xs : List Int} (h : xs.Pairwise (· < ·)) {j : Nat} (hj : j + 1 < xs.length) : at0 xs j < at0 xs (j + 1) := by
  rw [List.pairwise_iff_getElem] at h
  have := h j (j + 1) (by omega) hj (by omega)
  rwa [at0_get (List.getElem?_eq_getElem (show j < xs.length by omega)), at0_get (List.getElem?_eq_getElem hj)]

set_option maxRecDepth 100000 in
set_option maxHeartbeats 2000000 in
theorem familyYes (n : Nat) (A : Option Addr) (m c : Nat) (xs : List Int) (w : World) (hs : Sl w A m c (xs.map (Value.int .i64))) (H : Fam n xs) :
    Calls Tryd.prog 17 #[.int .i64 n, .slice A m c] w fun e w' => e = .returned (.bool true) ∧ Below w.heap.size w w' := by
  have HP := SetsP.of_fam H
  have hl := hs.numlen
  have hle := hs.len_le
  have hn : n ≤ 6 := by have := H.n6; omega
  have hN := two6 hn
  have h24 := hid fun W (hW : Below w.heap.size w W) => setsYes n A m c xs W (hs.below hW) HP
  have h62 := hid fun W (hW : Below w.heap.size w W) => tableF n A m c xs W (hs.below hW) hn HP.bdn
  have HB := hid fun k (hk : k < m) => HP.bdn (at0 xs k) (at0_mem (by omega))
  have HA := hid fun j (hj : j + 1 < m) => adj_of_asc H.asc (j := j) (by omega)
  have HD := hid fun (s x : Nat) (hx : x < n) (hb : (s : Int) ∈ xs) => H.rm hx ((H.mem s).2 hb)
  have HM := hid fun k (hk : k < m) => at0_mem (xs := xs) (j := k) (by omega)
  have HRL := hid rm_le
  have HS := hid hs
  obtain ⟨N, hNe⟩ : ∃ N, 2 ^ n = N := ⟨_, rfl⟩
  rw [hNe] at h62 HB hN
  clear H HP hl hs hNe
  go_enter Tryd.func17, Tryd.ntmps17
  go_wp2_with fail
  refine (h24.out _ (Below.refl _ _)).mono ?_; rintro e w1 ⟨rfl, rfl⟩
  go_wp2_with fail
  refine (h62.out _ (Below.refl _ _)).mono ?_; rintro e w2 ⟨rfl, hT, hb2⟩
  have HT := hid hT; have HB2 := hid hb2
  clear hT hb2
  go_wp2
  go_loopg [18] m (fun gk i wr => ∃ k : Nat, gk + k = m ∧ i = .int .i64 k ∧ wr = w2)
  case atStart => exact ⟨0, by omega, rfl, rfl⟩
  case round =>
    obtain ⟨k, hk, rfl, rfl⟩ := hrel
    have HK := hid hk; clear hk
    obtain ⟨G, hG⟩ : ∃ G, G = gk - 1 := ⟨_, rfl⟩
    have HG := hid hG
    clear hG
    by_cases hlt : k < m
    · obtain ⟨b, o, rfl, lb, _, c1⟩ := (HS.out.below HB2.out).num hlt
      have hxb := HB.out k hlt
      have hmem := HM.out k hlt
      obtain ⟨s, hse⟩ := Int.eq_ofNat_of_zero_le hxb.1
      have hsN : s < N := by omega
      rw [hse] at hmem
      have HMM := hid hmem
      have inner : ∀ P : Prop, (P → P) := fun P h => h
      by_cases h0 : 0 < k
      · obtain ⟨b1, o1, e1, _, _, c2⟩ := (HS.out.below HB2.out).num (k := k - 1) (by omega)
        obtain ⟨rfl, rfl⟩ : b = b1 ∧ o = o1 := by simpa using e1
        clear e1
        have hkm : ((k : Int) - 1) = ((k - 1 : Nat) : Int) := by omega
        have e := HA.out (k - 1) (by omega)
        rw [Nat.sub_add_cancel h0, hse] at e
        rw [hse] at c1
        generalize at0 xs (k - 1) = pv at *
        have e' : decide ((s : Int) ≤ pv) = false := decide_eq_false (by omega)
        have d0 : decide (0 < (k : Int)) = true := decide_eq_true (by omega)
        have d0n : decide (0 < k) = true := decide_eq_true h0
        clear e hxb hse hmem inner
        go_wp2
        go_loopg [35] n (fun gj y wr2 => ∃ j : Nat, gj + j = n ∧ y = .int .i64 j ∧ wr2 = wr)
        case atStart => exact ⟨0, by omega, rfl, rfl⟩
        case round =>
          obtain ⟨j, hj, rfl, rfl⟩ := hrel
          have HJ := hid hj; clear hj
          by_cases hjl : j < n
          · have FJ : Fits (j : Int) := ⟨by omega, by omega⟩
            have AN : AnF s (j : Int) := ⟨by omega, by omega, by omega⟩
            have hjn : (j : Int).toNat = j := Int.toNat_natCast j
            have hrl := HRL.out s j
            have hri : rm s j < N := by omega
            have cc := HT.out.cell (rm s j)
            rw [barr_get hri, HD.out s j hjl HMM.out] at cc
            clear hrl
            go_wp2
            go_roundg (gk - 1)
            case measure => have := HJ.out; omega
            case rel => exact ⟨j + 1, by have := HJ.out; omega, by go_num, rfl⟩
          · go_wp2
            go_roundg G
            case measure => have := HK.out; have := HG.out; omega
            case rel => exact ⟨k + 1, by have := HK.out; have := HG.out; omega, by go_num, rfl⟩
      · have d0 : decide (0 < (k : Int)) = false := decide_eq_false (by omega)
        have d0n : decide (0 < k) = false := decide_eq_false h0
        rw [hse] at c1
        clear hxb hse hmem inner
        go_wp2
        go_loopg [35] n (fun gj y wr2 => ∃ j : Nat, gj + j = n ∧ y = .int .i64 j ∧ wr2 = wr)
        case atStart => exact ⟨0, by omega, rfl, rfl⟩
        case round =>
          obtain ⟨j, hj, rfl, rfl⟩ := hrel
          have HJ := hid hj; clear hj
          by_cases hjl : j < n
          · have FJ : Fits (j : Int) := ⟨by omega, by omega⟩
            have AN : AnF s (j : Int) := ⟨by omega, by omega, by omega⟩
            have hjn : (j : Int).toNat = j := Int.toNat_natCast j
            have hrl := HRL.out s j
            have hri : rm s j < N := by omega
            have cc := HT.out.cell (rm s j)
            rw [barr_get hri, HD.out s j hjl HMM.out] at cc
            clear hrl
            go_wp2
            go_roundg (gk - 1)
            case measure => have := HJ.out; omega
            case rel => exact ⟨j + 1, by have := HJ.out; omega, by go_num, rfl⟩
          · go_wp2
            go_roundg G
            case measure => have := HK.out; have := HG.out; omega
            case rel => exact ⟨k + 1, by have := HK.out; have := HG.out; omega, by go_num, rfl⟩
    · go_wp2
      go_ret
      exact ⟨rfl, HB2.out⟩
set_option maxRecDepth 100000 in
set_option maxHeartbeats 2000000 in
theorem familyNo (n : Int) (A : Option Addr) (m c : Nat) (xs : List Int) (w : World) (hs : Sl w A m c (xs.map (Value.int .i64))) (H : ¬ Fam n xs) :
    Calls Tryd.prog 17 #[.int .i64 n, .slice A m c] w fun e w' => e = .returned (.bool false) ∧ Below w.heap.size w w' := by
  by_cases HP : SetsP n xs
  case neg =>
    have h24 := hid fun W (hW : Below w.heap.size w W) => setsNo n A m c xs W (hs.below hW) HP
    clear H HP hs
    go_enter Tryd.func17, Tryd.ntmps17
    go_wp2_with fail
    refine (h24.out _ (Below.refl _ _)).mono ?_; rintro e w1 ⟨rfl, rfl⟩
    go_wp2
    go_ret
    exact ⟨rfl, Below.refl _ _⟩
  have h1 := HP.n1; have h6 := HP.n6
  obtain ⟨n, rfl⟩ := Int.eq_ofNat_of_zero_le (show 0 ≤ n by omega)
  have hl := hs.numlen
  have hle := hs.len_le
  have hn : n ≤ 6 := by omega
  have hN := two6 hn
  have h24 := hid fun W (hW : Below w.heap.size w W) => setsYes n A m c xs W (hs.below hW) HP
  have h62 := hid fun W (hW : Below w.heap.size w W) => tableF n A m c xs W (hs.below hW) hn HP.bdn
  have HB := hid fun k (hk : k < m) => HP.bdn (at0 xs k) (at0_mem (by omega))
  have HNO := hid fun (h : ∀ j, j < m → (0 < j → at0 xs (j - 1) < at0 xs j) ∧ ∀ x, x < n → (setF xs).testBit (rm (at0 xs j).toNat x) = true) => H ⟨HP.n1, HP.n6, HP.bd, asc_of_adj fun j hj => (h (j + 1) (by omega)).1 (by omega), fun s hs x hx => by
    obtain ⟨j, hj⟩ := List.getElem?_of_mem hs
    have hlt := (List.getElem?_eq_some_iff.1 hj).1
    have := (h j (by omega)).2 x (by omega)
    rw [at0_get hj] at this
    exact (setF_mem (fun x hx => (HP.bd x hx).1) _).1 this⟩
  have HRL := hid rm_le
  have HS := hid hs
  obtain ⟨N, hNe⟩ : ∃ N, 2 ^ n = N := ⟨_, rfl⟩
  rw [hNe] at h62 HB hN
  clear H HP hl hs hNe h1 h6
  go_enter Tryd.func17, Tryd.ntmps17
  go_wp2_with fail
  refine (h24.out _ (Below.refl _ _)).mono ?_; rintro e w1 ⟨rfl, rfl⟩
  go_wp2_with fail
  refine (h62.out _ (Below.refl _ _)).mono ?_; rintro e w2 ⟨rfl, hT, hb2⟩
  have HT := hid hT; have HB2 := hid hb2
  clear hT hb2
  go_wp2
  go_loopg [18] m (fun gk i wr => ∃ k : Nat, gk + k = m ∧ i = .int .i64 k ∧ wr = w2 ∧ Hid (∀ j, j < k → (0 < j → at0 xs (j - 1) < at0 xs j) ∧ ∀ x, x < n → (setF xs).testBit (rm (at0 xs j).toNat x) = true))
  case atStart => exact ⟨0, by omega, rfl, rfl, hid fun j h => absurd h (by omega)⟩
  case round =>
    obtain ⟨k, hk, rfl, rfl, HA⟩ := hrel
    have HK := hid hk; clear hk
    obtain ⟨G, hG⟩ : ∃ G, G = gk - 1 := ⟨_, rfl⟩
    have HG := hid hG
    clear hG
    by_cases hlt : k < m
    · obtain ⟨b, o, rfl, lb, _, c1⟩ := (HS.out.below HB2.out).num hlt
      have hxb := HB.out k hlt
      obtain ⟨s, hse⟩ := Int.eq_ofNat_of_zero_le hxb.1
      have hsN : s < N := by omega
      have HSE := hid hse
      by_cases h0 : 0 < k
      · obtain ⟨b1, o1, e1, _, _, c2⟩ := (HS.out.below HB2.out).num (k := k - 1) (by omega)
        obtain ⟨rfl, rfl⟩ : b = b1 ∧ o = o1 := by simpa using e1
        clear e1
        have hkm : ((k : Int) - 1) = ((k - 1 : Nat) : Int) := by omega
        rw [hse] at c1
        have d0 : decide (0 < (k : Int)) = true := decide_eq_true (by omega)
        have d0n : decide (0 < k) = true := decide_eq_true h0
        by_cases e : (s : Int) ≤ at0 xs (k - 1)
        · have e' : decide ((s : Int) ≤ at0 xs (k - 1)) = true := decide_eq_true e
          generalize at0 xs (k - 1) = pv at c2 e'
          clear e hxb hse
          go_wp2
          go_ret
          exact ⟨rfl, HB2.out⟩
        have e' : decide ((s : Int) ≤ at0 xs (k - 1)) = false := decide_eq_false e
        have HE := hid (show at0 xs (k - 1) < at0 xs k by omega)
        generalize at0 xs (k - 1) = pv at c2 e'
        clear e hxb hse
        go_wp2
        go_loopg [35] n (fun gj y wr2 => ∃ j : Nat, gj + j = n ∧ y = .int .i64 j ∧ wr2 = wr ∧ Hid (∀ x, x < j → (setF xs).testBit (rm s x) = true))
        case atStart => exact ⟨0, by omega, rfl, rfl, hid fun x h => absurd h (by omega)⟩
        case round =>
          obtain ⟨j, hj, rfl, rfl, HI⟩ := hrel
          have HJ := hid hj; clear hj
          by_cases hjl : j < n
          · have FJ : Fits (j : Int) := ⟨by omega, by omega⟩
            have AN : AnF s (j : Int) := ⟨by omega, by omega, by omega⟩
            have hjn : (j : Int).toNat = j := Int.toNat_natCast j
            have hrl := HRL.out s j
            have hri : rm s j < N := by omega
            have cc := HT.out.cell (rm s j)
            rw [barr_get hri] at cc
            cases hbt : (setF xs).testBit (rm s j)
            · rw [hbt] at cc
              clear hrl hbt
              go_wp2
              go_ret
              exact ⟨rfl, HB2.out⟩
            · rw [hbt] at cc
              have HI' : Hid (∀ x, x < j + 1 → (setF xs).testBit (rm s x) = true) := hid fun x hx => by
                by_cases ex : x = j
                · subst ex; exact hbt
                · exact HI.out x (by omega)
              clear hrl hbt
              go_wp2
              go_roundg (gk - 1)
              case measure => have := HJ.out; omega
              case rel => exact ⟨j + 1, by have := HJ.out; omega, by go_num, rfl, HI'⟩
          · have HA' : Hid (∀ j, j < k + 1 → (0 < j → at0 xs (j - 1) < at0 xs j) ∧ ∀ x, x < n → (setF xs).testBit (rm (at0 xs j).toNat x) = true) := hid fun y hy => by
              by_cases ey : y = k
              · subst ey; exact ⟨fun _ => HE.out, fun x hx => by rw [HSE.out, Int.toNat_natCast]; exact HI.out x (by omega)⟩
              · exact HA.out y (by omega)
            go_wp2
            go_roundg G
            case measure => have := HK.out; have := HG.out; omega
            case rel => exact ⟨k + 1, by have := HK.out; have := HG.out; omega, by go_num, rfl, HA'⟩
      · have d0 : decide (0 < (k : Int)) = false := decide_eq_false (by omega)
        have d0n : decide (0 < k) = false := decide_eq_false h0
        rw [hse] at c1
        clear hxb hse
        go_wp2
        go_loopg [35] n (fun gj y wr2 => ∃ j : Nat, gj + j = n ∧ y = .int .i64 j ∧ wr2 = wr ∧ Hid (∀ x, x < j → (setF xs).testBit (rm s x) = true))
        case atStart => exact ⟨0, by omega, rfl, rfl, hid fun x h => absurd h (by omega)⟩
        case round =>
          obtain ⟨j, hj, rfl, rfl, HI⟩ := hrel
          have HJ := hid hj; clear hj
          by_cases hjl : j < n
          · have FJ : Fits (j : Int) := ⟨by omega, by omega⟩
            have AN : AnF s (j : Int) := ⟨by omega, by omega, by omega⟩
            have hjn : (j : Int).toNat = j := Int.toNat_natCast j
            have hrl := HRL.out s j
            have hri : rm s j < N := by omega
            have cc := HT.out.cell (rm s j)
            rw [barr_get hri] at cc
            cases hbt : (setF xs).testBit (rm s j)
            · rw [hbt] at cc
              clear hrl hbt
              go_wp2
              go_ret
              exact ⟨rfl, HB2.out⟩
            · rw [hbt] at cc
              have HI' : Hid (∀ x, x < j + 1 → (setF xs).testBit (rm s x) = true) := hid fun x hx => by
                by_cases ex : x = j
                · subst ex; exact hbt
                · exact HI.out x (by omega)
              clear hrl hbt
              go_wp2
              go_roundg (gk - 1)
              case measure => have := HJ.out; omega
              case rel => exact ⟨j + 1, by have := HJ.out; omega, by go_num, rfl, HI'⟩
          · have HA' : Hid (∀ j, j < k + 1 → (0 < j → at0 xs (j - 1) < at0 xs j) ∧ ∀ x, x < n → (setF xs).testBit (rm (at0 xs j).toNat x) = true) := hid fun y hy => by
              by_cases ey : y = k
              · subst ey; exact ⟨fun h => absurd h h0, fun x hx => by rw [HSE.out, Int.toNat_natCast]; exact HI.out x (by omega)⟩
              · exact HA.out y (by omega)
            go_wp2
            go_roundg G
            case measure => have := HK.out; have := HG.out; omega
            case rel => exact ⟨k + 1, by have := HK.out; have := HG.out; omega, by go_num, rfl, HA'⟩
    · exact absurd (fun j hj => HA.out j (by omega)) HNO.out
end Go.Proofs.YtjddbglbodkihaaDoor
