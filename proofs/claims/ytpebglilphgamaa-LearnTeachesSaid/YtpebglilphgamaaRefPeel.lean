/- Walk of the reference's Peel. Condition: fewer than six points, concepts within these. -/
import Derived.Test.YtpebglilphgamaaPeel
namespace Go.Proofs.Ytpebglilphgamaa
open Go.RowKit

theorem nextL_take (p k : Nat) (ys : List Int) (j : Nat) (hj : j < ys.length) : (ys.take (j + 1)).filter (fun c => decide (k < sz (keyL p ys c))) = (ys.take j).filter (fun c => decide (k < sz (keyL p ys c))) ++ (if k < sz (keyL p ys (at0 ys j)) then [at0 ys j] else []) := by
  rw [List.take_succ_eq_append_getElem hj, List.filter_append]
  congr 1
  have e : at0 ys j = ys[j] := by simp [at0, List.getD, hj]
  rw [e]
  by_cases h : k < sz (keyL p ys ys[j]) <;> simp [h]
def nextTo (p k : Nat) (ys : List Int) (j : Nat) : List Int := (ys.take j).filter fun c => decide (k < sz (keyL p ys c))

set_option maxRecDepth 100000 in
set_option maxHeartbeats 4000000 in
theorem refPeel (p : Nat) (A : Option Addr) (n c : Nat) (xs : List Int) (hp : p < 6) (hi : InP p xs) (hn : n ≤ 1000) (w : World) (hs : Sl w A n c (xs.map (Value.int .i64))) :
    Calls Try.prog 46 #[.int .i64 p, .slice A n c] w fun e w' => e = .returned (.int .i64 (peelL p xs)) ∧ Below w.heap.size w w' := by
  obtain ⟨q1, q2, q3⟩ := peelL_spec hp hi
  have HQ := hid fun k (hp : peelsL p k xs = true) (hno : ∀ j, j < k → peelsL p j xs = false) => show k = peelL p xs from by
    rcases Nat.lt_trichotomy k (peelL p xs) with g | g | g
    · rw [q3 k g] at hp; cases hp
    · exact g
    · rw [hno _ g] at q1; cases q1
  have HQ2 := hid fun k (hno : peelsL p k xs = false) (hk : ∀ j, j < k → peelsL p j xs = false) => show k < peelL p xs from by
    rcases Nat.lt_or_ge k (peelL p xs) with g | g
    · exact g
    · exfalso
      rcases Nat.eq_or_lt_of_le g with e | e
      · rw [e, hno] at q1; cases q1
      · rw [hk _ e] at q1; cases q1
  have hq60 : peelL p xs ≤ 60 := by omega
  have HQB := hid hq60
  have hl := hs.numlen
  have HL := hid hl
  have HK := hid fun (A' : Option Addr) (n' c' : Nat) (ys : List Int) (hy : ys.Sublist xs) (j : Nat) (hj : j < n') (hl' : ys.length = n') W (hW : Sl W A' n' c' (ys.map (Value.int .i64))) =>
    refKey p A' n' c' ys hp (hi.sub hy) (by have := hy.length_le; omega) (at0 ys j) (hi _ (hy.subset (at0_mem' (by omega)))) W hW
  have HC := hid fun (ys : List Int) (hy : ys.Sublist xs) (j : Nat) (hj : j < ys.length) W => refSize (keyL p ys (at0 ys j)) (le32 hp (keyL_lt hp (hi.sub hy) (hi _ (hy.subset (at0_mem' hj))))) W
  have HZ := hid fun (ys : List Int) (hy : ys.Sublist xs) (j : Nat) (hj : j < ys.length) => show sz (keyL p ys (at0 ys j)) ≤ 16 from by have := sz_key_le hp (hi.sub hy) (hi _ (hy.subset (at0_mem' hj))); omega
  have HS := hid hs
  have HN := hid hn
  clear hi hs q1 q2 q3 hq60 hl hp hn
  go_enter Try.func46, Try.ntmps46
  go_wp2
  go_loopg [5] (peelL p xs) (fun gk o wr => ∃ k : Nat, gk = peelL p xs - k ∧ k ≤ peelL p xs ∧ o = .int .i64 k ∧ (∀ j, j < k → peelsL p j xs = false) ∧ Below w.heap.size w wr)
  case atStart => exact ⟨0, rfl, Nat.zero_le _, rfl, fun j h => absurd h (by omega), Below.refl _ _⟩
  case round =>
    obtain ⟨k, hk, hkp, rfl, hno, hb⟩ := hrel
    have HKK := hid hk; have HKP := hid hkp; have HNO := hid hno; have HB := hid hb
    have h60 : k ≤ 60 := by have := HQB.out; omega
    clear hk hkp hno hb
    go_wp2
    go_loopg [6, 7] (xs.length + 1) (fun gk o a wr => ∃ (ys : List Int) (b : Bool) (A' : Option Addr) (n' c' : Nat), gk = ys.length + (if b then 1 else 0) ∧ o = .slice A' n' c' ∧ a = .bool b ∧ ys.Sublist xs ∧ Sl wr A' n' c' (ys.map (Value.int .i64)) ∧ (b = true → peelsL p k xs = peelsL p k ys) ∧ (b = false → ys ≠ [] ∧ peelsL p k xs = false) ∧ Below w.heap.size w wr)
    case atStart => exact ⟨xs, true, A, n, c, rfl, rfl, rfl, List.Sublist.refl _, HS.out.below HB.out, fun _ => rfl, fun h => absurd h (by decide), HB.out⟩
    case round =>
      obtain ⟨ys, b, A', n', c', hgk, rfl, rfl, hsub, hsl, hbt, hbf, hb⟩ := hrel
      have HGK := hid hgk; have HSUB := hid hsub; have HSL := hid hsl; have HBT := hid hbt; have HBF := hid hbf; have HBB := hid hb
      have hyl := hsl.numlen
      have hyn : n' ≤ 1000 := by have := hsub.length_le; have := HL.out; have := HN.out; omega
      clear hgk hsub hsl hbt hbf hb
      cases b with
      | false =>
        obtain ⟨h1, h2⟩ := HBF.out rfl
        have hn0 : n' ≠ 0 := fun e => h1 (List.eq_nil_of_length_eq_zero (by omega))
        have d1 : ((n' : Int) == 0) = false := by rw [beq_eq_false_iff_ne]; omega
        have d2 : (n' == 0) = false := by rw [beq_eq_false_iff_ne]; omega
        have hE := hid (HQ2.out k h2 HNO.out)
        have HV := hid h2
        clear h1 h2 hn0
        go_wp2
        go_roundg (peelL p xs - (k + 1))
        case measure => have := HKK.out; have := hE.out; omega
        case rel =>
          refine ⟨k + 1, rfl, hE.out, by go_num, fun j hj => ?_, HBB.out⟩
          by_cases e : j = k
          · subst e; exact HV.out
          · exact HNO.out j (by omega)
      | true =>
        have HBT2 := hid (HBT.out rfl)
        have HGK2 := hid (show gk = ys.length + 1 from HGK.out)
        by_cases hn0 : n' = 0
        · have d1 : decide (0 < (n' : Int)) = false := decide_eq_false (by omega)
          have d2 : decide (0 < n') = false := decide_eq_false (by omega)
          have d3 : ((n' : Int) == 0) = true := by rw [beq_iff_eq]; omega
          have d4 : (n' == 0) = true := by rw [beq_iff_eq]; omega
          have hE := hid (HQ.out k (by rw [HBT2.out, List.eq_nil_of_length_eq_zero (show ys.length = 0 by omega)]; rfl) HNO.out)
          clear hn0
          go_wp2
          go_ret
          exact ⟨by rw [hE.out]; rfl, HBB.out⟩
        have d1 : decide (0 < (n' : Int)) = true := decide_eq_true (by omega)
        have d2 : decide (0 < n') = true := decide_eq_true (by omega)
        have HNN := hid hn0
        have hz := hid HBB.out.size
        have HYL := hid hyl
        clear hn0
        go_wp2
        clear d1 d2
        have HWR := hid (Below.refl wr.heap.size wr)
        obtain ⟨W0, hW0⟩ : ∃ W0, W0 = wr := ⟨_, rfl⟩
        rw [← hW0] at HWR HBB HSL hz
        go_loopg [8, 22] n' (fun gk o q wr => ∃ j : Nat, gk + j = n' ∧ q = .int .i64 j ∧ (∃ A1 m1 c1, o = .slice A1 m1 c1 ∧ wr.ownsRow W0.heap.size 3 1 (.slice A1 m1 c1) m1 ((nextTo p k ys j).map (Value.int .i64))) ∧ Below W0.heap.size W0 wr)
        case atStart => exact ⟨0, by omega, rfl, ⟨none, 0, 0, rfl, by simpa [nextTo] using World.ownsRow_nil _ _ _ _⟩, by rw [hW0]; exact Below.refl _ _⟩
        case round =>
          clear hW0
          obtain ⟨j, hj, rfl, ⟨A1, m1, c1, rfl, ho⟩, hb1⟩ := hrel
          have HJ := hid hj; have HO := hid ho; have HB1 := hid hb1
          have hm1 : m1 ≤ 1000 := by
            have h1 : (nextTo p k ys j).length = m1 := by simpa using ho.1
            have h2 := List.length_filter_le (fun c => decide (k < sz (keyL p ys c))) (ys.take j)
            have h3 := List.length_take_le j ys
            have h4 : (nextTo p k ys j).length ≤ (ys.take j).length := h2
            have := HJ.out
            omega
          have hz1 := hid hb1.size
          have hbw := hid (below_call HBB.out hb1 HBB.out.size)
          clear hj ho hb1
          by_cases hlt : j < n'
          · obtain ⟨b, o, rfl, lb, hkl, ca⟩ := HSL.out.num hlt
            have cc := (HB1.out.cell (p := ⟨b, o + j, none⟩) lb).trans ca
            have hK := hid (HK.out _ n' c' ys HSUB.out j hlt HYL.out wr (HSL.out.below HB1.out))
            have hC := hid fun W => HC.out ys HSUB.out j hkl W
            have hzb := HZ.out ys HSUB.out j hkl
            have hT := hid (show nextTo p k ys (j + 1) = nextTo p k ys j ++ (if k < sz (keyL p ys (at0 ys j)) then [at0 ys j] else []) from nextL_take p k ys j hkl)
            generalize sz (keyL p ys (at0 ys j)) = z at *
            clear ca hkl
            by_cases hv : k < z
            · have e1 : decide ((k : Int) < (z : Int)) = true := decide_eq_true (by omega)
              have e2 : decide (k < z) = true := decide_eq_true hv
              have hT2 := hid (show nextTo p k ys (j + 1) = nextTo p k ys j ++ [at0 ys j] by rw [hT.out, if_pos hv])
              clear hv hT
              go_wp2_with fail
              refine (hK.out).mono ?_; rintro e w1 ⟨rfl, rfl⟩
              go_wp2_with fail
              refine (hC.out _).mono ?_; rintro e w1 ⟨rfl, rfl⟩
              go_wp2_with (at_builtin; refine push1 TI wr #[.int .i64 (at0 ys j)] _ m1 _ _ HO.out _ _ rfl rfl rfl rfl rfl (by simp [Value.oneCell']) (by omega) (by omega) hz1.out ?_; intro v1 w2 hown1 hgr; have hb2 : Below W0.heap.size W0 w2 := below_push HB1.out HO.out hgr HB1.out.size (Nat.le_refl _))
              obtain ⟨A2, c2, rfl⟩ := own_form hown1
              clear hgr
              go_wp2
              go_roundg (n' - j - 1)
              case measure => have := HJ.out; omega
              case rel => exact ⟨j + 1, by omega, by go_num, ⟨A2, m1 + 1, c2, rfl, by rw [hT2.out, List.map_append]; simpa using hown1⟩, hb2⟩
            · have e1 : decide ((k : Int) < (z : Int)) = false := decide_eq_false (by omega)
              have e2 : decide (k < z) = false := decide_eq_false hv
              have hT2 := hid (show nextTo p k ys (j + 1) = nextTo p k ys j by rw [hT.out, if_neg hv, List.append_nil])
              clear hv hT
              go_wp2_with fail
              refine (hK.out).mono ?_; rintro e w1 ⟨rfl, rfl⟩
              go_wp2_with fail
              refine (hC.out _).mono ?_; rintro e w1 ⟨rfl, rfl⟩
              go_wp2
              go_roundg (n' - j - 1)
              case measure => have := HJ.out; omega
              case rel => exact ⟨j + 1, by omega, by go_num, ⟨A1, m1, c1, rfl, by rw [hT2.out]; exact HO.out⟩, HB1.out⟩
          · obtain rfl : j = n' := by have := HJ.out; omega
            have hNX : nextTo p k ys j = nextL p k ys := by unfold nextTo nextL; rw [List.take_of_length_le (by have := HYL.out; omega)]
            have hsl2 := Sl.of_own HO.out
            rw [hNX] at hsl2
            have hnl := hsl2.numlen
            have hle := (nextL_sub p k ys).length_le
            have hyne : ys ≠ [] := fun e => HNN.out (by have := HYL.out; rw [e] at this; exact this.symm)
            have hpq := peelsL_eq (p := p) (k := k) hyne
            have hS2 := hid hsl2
            have hNS := hid ((nextL_sub p k ys).trans HSUB.out)
            by_cases he : m1 < j
            · have e1 : decide ((m1 : Int) < (j : Int)) = true := decide_eq_true (by omega)
              have e2 : decide (m1 < j) = true := decide_eq_true he
              have hP := hid (show peelsL p k xs = peelsL p k (nextL p k ys) by rw [HBT2.out, hpq, if_neg (by have := HYL.out; omega)])
              have hLen := hid (show (nextL p k ys).length + 1 ≤ ys.length by have := HYL.out; omega)
              clear he hpq hyne hle hnl hNX hsl2
              go_wp2
              go_roundg ((nextL p k ys).length + 1)
              case measure => have := hLen.out; have := HGK2.out; omega
              case rel => exact ⟨nextL p k ys, true, A1, m1, c1, rfl, rfl, rfl, hNS.out, hS2.out, fun _ => hP.out, fun h => absurd h (by decide), hbw.out⟩
            · have e1 : decide ((m1 : Int) < (j : Int)) = false := decide_eq_false (by omega)
              have e2 : decide (m1 < j) = false := decide_eq_false he
              have hP := hid (show peelsL p k xs = false by rw [HBT2.out, hpq, if_pos (by have := HYL.out; omega)])
              have hLen := hid (show (nextL p k ys).length = ys.length by have := HYL.out; omega)
              have hNE := hid (show nextL p k ys ≠ [] from fun e => by have := HYL.out; have := HNN.out; rw [e] at hnl; simp at hnl; omega)
              clear he hpq hyne hle hnl hNX hsl2
              go_wp2
              go_roundg ((nextL p k ys).length)
              case measure => have := hLen.out; have := HGK2.out; omega
              case rel => exact ⟨nextL p k ys, false, A1, m1, c1, rfl, rfl, rfl, hNS.out, hS2.out, fun h => absurd h (by decide), fun _ => ⟨hNE.out, hP.out⟩, hbw.out⟩
end Go.Proofs.Ytpebglilphgamaa
