/- Walks of the reference's folds, point, away, Folds and FoldsAway. Condition: families of at most six elements. -/
import Derived.Test.YtjddbglbodkihaaDoorFoldM
import Derived.Test.YtjddbglbodkihaaDoorRefP
import Derived.Test.YtjddbglbodkihaaDoorSumW
import Derived.Test.YtjddbglbodkihaaDoorSe
import Derived.Test.YtjddbglbodkihaaDoorExW
import Derived.Test.YtjddbglbodkihaaDoorFoldsW
import Derived.BigRegion
/- Walks of the reference's folds and point. Condition: a table of at most 64 places. -/
namespace Go.Proofs.YtjddbglbodkihaaDoor
open Go.RowKit
attribute [local go_sem ↓] shl_p2 shl_u or_u shr_u and_shrF shr_v and_shr and_nn or_i shl_v or_nn andNot_nn

theorem fr_of {F S T N : Nat} (hF : ∀ v, F.testBit v = true → v < N) (h0 : 0 < S) (hS : F.testBit S = true) (hT : F.testBit T = true) (hs : S &&& T = S) (hz : sz T = sz S + 1) (ho : ∀ v, v < N → (F.testBit v && !decide (v = S) && !decide (v = T) && (S &&& v == S)) = false) : FR F S T where
  pos := h0
  inS := hS
  inT := hT
  ne := by intro e; subst e; omega
  sub := hs
  sz1 := hz
  only := fun v hv hn hsv => by
    have := ho v (hF v hv)
    rw [hv, decide_eq_false hn, hsv] at this
    simpa using this
theorem fr_no {F S T v : Nat} (h : (F.testBit v && !decide (v = S) && !decide (v = T) && (S &&& v == S)) = true) : ¬ FR F S T := by
  intro k
  obtain ⟨h, h4⟩ := andE h
  obtain ⟨h, h3⟩ := andE h
  obtain ⟨h1, h2⟩ := andE h
  have := k.only v h1 (by simpa using h2) (by simpa using h4)
  subst this
  simp at h3
/-- What folds says. -/
def FRI (F : Nat) (s t : Int) : Prop := ∃ S T : Nat, s = S ∧ t = T ∧ FR F S T
set_option maxRecDepth 100000 in
set_option maxHeartbeats 2000000 in
theorem refFoldsOff (N tb : Nat) (s t : Int) (w : World) (h : ¬ (1 ≤ s ∧ s < N ∧ 0 ≤ t ∧ t < N)) :
    Calls Tryd.prog 87 #[.slice (some ⟨tb, 0, none⟩) N N, .int .i64 s, .int .i64 t] w fun e w' => e = .returned (.bool false) ∧ w = w' := by
  by_cases h1 : s < 1
  · have g1 : decide (s < 1) = true := decide_eq_true h1
    clear h
    go_enter Tryd.func87, Tryd.ntmps87
    go_wp2
    go_ret
    exact ⟨rfl, rfl⟩
  · have g1 : decide (s < 1) = false := decide_eq_false h1
    by_cases h2 : (N : Int) ≤ s
    · have g2 : decide ((N : Int) ≤ s) = true := decide_eq_true h2
      clear h
      go_enter Tryd.func87, Tryd.ntmps87
      go_wp2
      go_ret
      exact ⟨rfl, rfl⟩
    · have g2 : decide ((N : Int) ≤ s) = false := decide_eq_false h2
      by_cases h3 : t < 0
      · have g3 : decide (t < 0) = true := decide_eq_true h3
        clear h
        go_enter Tryd.func87, Tryd.ntmps87
        go_wp2
        go_ret
        exact ⟨rfl, rfl⟩
      · have g3 : decide (t < 0) = false := decide_eq_false h3
        have g4 : decide ((N : Int) ≤ t) = true := decide_eq_true (by omega)
        clear h
        go_enter Tryd.func87, Tryd.ntmps87
        go_wp2
        go_ret
        exact ⟨rfl, rfl⟩
set_option maxRecDepth 100000 in
set_option maxHeartbeats 4000000 in
theorem refFoldsIn (F N tb S T : Nat) (w : World) (hN : N ≤ 64) (hF : ∀ v, F.testBit v = true → v < N) (h1 : 1 ≤ S) (h2 : S < N) (h3 : T < N) (hB : Blk w tb 4 (barr N F.testBit)) :
    Calls Tryd.prog 87 #[.slice (some ⟨tb, 0, none⟩) N N, .int .i64 S, .int .i64 T] w fun e w' => (∃ b, e = .returned (.bool b) ∧ (b = true ↔ FR F S T)) ∧ w = w' := by
  have g1 : decide ((S : Int) < 1) = false := decide_eq_false (by omega)
  have g1' : decide (S < 1) = false := decide_eq_false (by omega)
  have g2 : decide ((N : Int) ≤ S) = false := decide_eq_false (by omega)
  have g2' : decide (N ≤ S) = false := decide_eq_false (by omega)
  have g3 : decide ((T : Int) < 0) = false := decide_eq_false (by omega)
  have g4 : decide ((N : Int) ≤ T) = false := decide_eq_false (by omega)
  have g4' : decide (N ≤ T) = false := decide_eq_false (by omega)
  have cS := hB.cell S
  have cT := hB.cell T
  rw [barr_get h2] at cS
  rw [barr_get h3] at cT
  have HS0 : Hid (S = 0 → False) := hid (by omega)
  cases hS : F.testBit S
  · have HR := hid (show ¬ FR F S T from fun k => by rw [k.inS] at hS; cases hS)
    rw [hS] at cS
    clear hB hF cT
    go_enter Tryd.func87, Tryd.ntmps87
    go_wp2
    go_ret
    exact ⟨⟨false, rfl, by simp [HR.out]⟩, rfl⟩
  · rw [hS] at cS
    cases hT : F.testBit T
    · have HR := hid (show ¬ FR F S T from fun k => by rw [k.inT] at hT; cases hT)
      rw [hT] at cT
      clear hB hF
      go_enter Tryd.func87, Tryd.ntmps87
      go_wp2
      go_ret
      exact ⟨⟨false, rfl, by simp [HR.out]⟩, rfl⟩
    · rw [hT] at cT
      have A1 : AndF S T := ⟨by omega, by omega⟩
      have hab := anB (show S < 64 by omega) (show T < 64 by omega)
      cases hq : (S &&& T == S)
      · have HR := hid (show ¬ FR F S T from fun k => by rw [k.sub] at hq; simp at hq)
        rw [hq] at hab
        have hab2 : (((anN S T : Nat) : Int) != 0) = true := by rw [bne, hab]; rfl
        clear hB hF hq hab
        go_enter Tryd.func87, Tryd.ntmps87
        go_wp2
        go_ret
        exact ⟨⟨false, rfl, by simp [HR.out]⟩, rfl⟩
      · rw [hq] at hab
        have hsub : S &&& T = S := by simpa using hq
        have hab2 : (((anN S T : Nat) : Int) != 0) = false := by rw [bne, hab]; rfl
        have HZ1 := hid fun W => refSize T (by omega) W
        have HZ2 := hid fun W => refSize S (by omega) W
        have b1 := sz_le6 S
        have b2 := sz_le6 T
        by_cases hz : sz T = sz S + 1
        · have gz : (((sz T : Nat) : Int) != ((sz S : Nat) : Int) + 1) = false := by rw [bne_eq_false_iff_eq]; omega
          have HYS := hid fun (ho : ∀ v, v < N → (F.testBit v && !decide (v = S) && !decide (v = T) && (S &&& v == S)) = false) => fr_of (T := T) hF (by omega) hS hT hsub hz ho
          have HB := hid hB
          clear hB hF hq hab hsub hz hS hT
          generalize sz T = zT at *
          generalize sz S = zS at *
          go_enter Tryd.func87, Tryd.ntmps87
          go_wp2_with fail
          refine (HZ1.out _).mono ?_; rintro e w' ⟨rfl, rfl⟩
          go_wp2_with fail
          refine (HZ2.out _).mono ?_; rintro e w' ⟨rfl, rfl⟩
          go_wp2
          go_loopg [57] N (fun gk i wr => ∃ d : Nat, gk + d = N ∧ i = .int .i64 d ∧ Hid (∀ v, v < d → (F.testBit v && !decide (v = S) && !decide (v = T) && (S &&& v == S)) = false) ∧ w = wr)
          case atStart => exact ⟨0, by omega, rfl, hid fun v hv => absurd hv (by omega), rfl⟩
          case round =>
            obtain ⟨d, hd, rfl, HV, hw⟩ := hrel
            subst hw
            have HD := hid hd
            by_cases hlt : d < N
            · have HLT := hid hlt
              have cd := HB.out.cell d
              rw [barr_get hlt] at cd
              have hnext := hid fun (h : (F.testBit d && !decide (d = S) && !decide (d = T) && (S &&& d == S)) = false) => (show ∀ v, v < d + 1 → (F.testBit v && !decide (v = S) && !decide (v = T) && (S &&& v == S)) = false from fun v hv => by
                by_cases e : v = d
                · subst e; exact h
                · exact HV.out v (by omega))
              have hno := hid fun (h : (F.testBit d && !decide (d = S) && !decide (d = T) && (S &&& d == S)) = true) => fr_no h
              clear hd
              cases hp : F.testBit d
              · rw [hp] at cd
                have HN := hid (hnext.out (by rw [hp]; rfl))
                clear hp
                go_wp2
                go_roundg (gk - 1)
                case measure => have := HD.out; have := HLT.out; omega
                case rel => exact ⟨d + 1, by have := HD.out; have := HLT.out; omega, by go_num, HN, rfl⟩
              · rw [hp] at cd
                by_cases e1 : d = S
                · have HN := hid (hnext.out (by rw [decide_eq_true e1]; simp))
                  have k1 : ((d : Int) != (S : Int)) = false := by rw [bne_eq_false_iff_eq]; omega
                  have k2 : (d != S) = false := by rw [bne_eq_false_iff_eq]; omega
                  clear hp e1
                  go_wp2
                  go_roundg (gk - 1)
                  case measure => have := HD.out; have := HLT.out; omega
                  case rel => exact ⟨d + 1, by have := HD.out; have := HLT.out; omega, by go_num, HN, rfl⟩
                · have k1 : ((d : Int) != (S : Int)) = true := by rw [bne_iff_ne]; omega
                  have k2 : (d != S) = true := by rw [bne_iff_ne]; omega
                  by_cases e2 : d = T
                  · have HN := hid (hnext.out (by rw [decide_eq_true e2]; simp))
                    have k3 : ((d : Int) != (T : Int)) = false := by rw [bne_eq_false_iff_eq]; omega
                    have k4 : (d != T) = false := by rw [bne_eq_false_iff_eq]; omega
                    clear hp e1 e2
                    go_wp2
                    go_roundg (gk - 1)
                    case measure => have := HD.out; have := HLT.out; omega
                    case rel => exact ⟨d + 1, by have := HD.out; have := HLT.out; omega, by go_num, HN, rfl⟩
                  · have k3 : ((d : Int) != (T : Int)) = true := by rw [bne_iff_ne]; omega
                    have k4 : (d != T) = true := by rw [bne_iff_ne]; omega
                    have A2 : AndF S d := ⟨by omega, by omega⟩
                    have hab3 := anB (show S < 64 by omega) (show d < 64 by omega)
                    cases hq : (S &&& d == S)
                    · have HN := hid (hnext.out (by rw [hq]; simp))
                      rw [hq] at hab3
                      clear hp e1 e2 hq
                      go_wp2
                      go_roundg (gk - 1)
                      case measure => have := HD.out; have := HLT.out; omega
                      case rel => exact ⟨d + 1, by have := HD.out; have := HLT.out; omega, by go_num, HN, rfl⟩
                    · have HN := hid (hno.out (by rw [hp, decide_eq_false e1, decide_eq_false e2, hq]; rfl))
                      rw [hq] at hab3
                      clear hp e1 e2 hq
                      go_wp2
                      go_ret
                      exact ⟨⟨false, rfl, by simp [HN.out]⟩, rfl⟩
            · obtain rfl : d = N := by have := HD.out; omega
              have HY := hid (HYS.out HV.out)
              clear hd hlt
              go_wp2
              go_ret
              exact ⟨⟨true, rfl, by simp [HY.out]⟩, rfl⟩
        · have gz : (((sz T : Nat) : Int) != ((sz S : Nat) : Int) + 1) = true := by rw [bne_iff_ne]; omega
          have HR := hid (show ¬ FR F S T from fun k => hz k.sz1)
          clear hB hF hq hab hsub hz hS hT
          generalize sz T = zT at *
          generalize sz S = zS at *
          go_enter Tryd.func87, Tryd.ntmps87
          go_wp2_with fail
          refine (HZ1.out _).mono ?_; rintro e w' ⟨rfl, rfl⟩
          go_wp2_with fail
          refine (HZ2.out _).mono ?_; rintro e w' ⟨rfl, rfl⟩
          go_wp2
          go_ret
          exact ⟨⟨false, rfl, by simp [HR.out]⟩, rfl⟩
theorem refFolds (n F tb : Nat) (s t : Int) (w : World) (hn : n ≤ 6) (hF : F < 2 ^ (2 ^ n)) (hB : Blk w tb 4 (barr (2 ^ n) F.testBit)) :
    Calls Tryd.prog 87 #[.slice (some ⟨tb, 0, none⟩) (2 ^ n : Nat) (2 ^ n : Nat), .int .i64 s, .int .i64 t] w fun e w' => (∃ b, e = .returned (.bool b) ∧ (b = true ↔ FRI F s t)) ∧ w = w' := by
  by_cases h : 1 ≤ s ∧ s < (2 ^ n : Nat) ∧ 0 ≤ t ∧ t < (2 ^ n : Nat)
  · obtain ⟨S, rfl⟩ := Int.eq_ofNat_of_zero_le (show 0 ≤ s by omega)
    obtain ⟨T, rfl⟩ := Int.eq_ofNat_of_zero_le (show 0 ≤ t by omega)
    refine (refFoldsIn F (2 ^ n) tb S T w (two64 hn) (fun v hv => bit_lt hF hv) (by omega) (by omega) (by omega) hB).mono ?_
    rintro e w' ⟨⟨b, he, hb⟩, hw⟩
    refine ⟨⟨b, he, hb.trans ⟨fun k => ⟨S, T, rfl, rfl, k⟩, ?_⟩⟩, hw⟩
    rintro ⟨S', T', e1, e2, k⟩
    have e1 : S = S' := by omega
    have e2 : T = T' := by omega
    subst e1 e2
    exact k
  · refine (refFoldsOff (2 ^ n) tb s t w h).mono ?_
    rintro e w' ⟨he, hw⟩
    refine ⟨⟨false, he, ?_⟩, hw⟩
    simp only [Bool.false_eq_true, false_iff]
    rintro ⟨S, T, rfl, rfl, k⟩
    apply h
    have a := bit_lt hF k.inS
    have b := bit_lt hF k.inT
    have := k.pos
    omega

def oneB (F d : Nat) : Bool := (famL d F.testBit).any fun x => sz x.toNat == 1
theorem oneB_succ (F d : Nat) : oneB F (d + 1) = (oneB F d || (F.testBit d && (sz d == 1))) := by
  unfold oneB
  rw [famL_succ, List.any_append]
  cases F.testBit d <;> simp
theorem cnt_succ (F d : Nat) : (famL (d + 1) F.testBit).length = (famL d F.testBit).length + (F.testBit d).toNat := by
  rw [famL_succ, List.length_append]
  cases F.testBit d <;> simp
theorem point_iff {n F : Nat} (hn : n ≤ 6) (hF : F < 2 ^ (2 ^ n)) (hs : FS F) : ((famL (2 ^ n) F.testBit).length = 2 ∧ oneB F (2 ^ n) = true) ↔ Point F.testBit := by
  have e64 : famL 64 F.testBit = famL (2 ^ n) F.testBit := famL_wide (two64 hn) fun i hi => bit_lt hF hi
  unfold oneB
  rw [← e64]
  constructor
  · rintro ⟨hl, hany⟩
    obtain ⟨a, b, hab⟩ : ∃ a b, famL 64 F.testBit = [a, b] := by
      match h : famL 64 F.testBit with
      | [a, b] => exact ⟨a, b, rfl⟩
      | [] => rw [h] at hl; simp at hl
      | [_] => rw [h] at hl; simp at hl
      | _ :: _ :: _ :: _ => rw [h] at hl; simp at hl
    refine point_list hs hab ?_
    have hasc := famL_asc 64 F.testBit
    rw [hab] at hasc hany
    have hlt : a < b := by simpa using hasc
    have hbm : b ∈ famL 64 F.testBit := by rw [hab]; simp
    have ham : a ∈ famL 64 F.testBit := by rw [hab]; simp
    obtain ⟨a0, _, _⟩ := mem_famL.1 ham
    obtain ⟨b0, b64, hb⟩ := mem_famL.1 hbm
    have h0 : F.testBit 0 = true := shut_part hs.shut 64 0 b.toNat (fun y hy _ _ => by omega) (fun y hy => by simp at hy) (by omega) hb
    have h0m : (0 : Int) ∈ famL 64 F.testBit := mem_famL.2 ⟨by omega, by omega, h0⟩
    rw [hab] at h0m
    have ha0 : a = 0 := by
      simp at h0m
      omega
    subst ha0
    simp at hany
    rcases hany with k | k
    · rw [sz_0] at k; omega
    · exact k
  · intro h
    obtain ⟨v, hv, hl⟩ := h.list
    rw [hl]
    refine ⟨rfl, ?_⟩
    have : ∀ v : Fin 6, sz (1 <<< v.val) = 1 := by decide +kernel
    have hz := this ⟨v, hv⟩
    simp only [List.any_cons, List.any_nil, Bool.or_false, Int.toNat_natCast]
    rw [hz]; simp
set_option maxRecDepth 100000 in
set_option maxHeartbeats 2000000 in
theorem refPoint (n F tb : Nat) (w : World) (hn : n ≤ 6) (hF : F < 2 ^ (2 ^ n)) (hs : FS F) (hB : Blk w tb 4 (barr (2 ^ n) F.testBit)) :
    Calls Tryd.prog 88 #[.slice (some ⟨tb, 0, none⟩) (2 ^ n : Nat) (2 ^ n : Nat)] w fun e w' => (∃ b, e = .returned (.bool b) ∧ (b = true ↔ Point F.testBit)) ∧ w = w' := by
  have HP := hid (point_iff hn hF hs)
  have hN := two64 hn
  have HB := hid hB
  have HCB := hid fun d => famL_len d F.testBit
  have HC0 : Hid ((famL 0 F.testBit).length = 0) := hid rfl
  have HO0 : Hid (oneB F 0 = false) := hid rfl
  have HCS := hid fun d => cnt_succ F d
  have HOS := hid fun d => oneB_succ F d
  clear hn hF hs hB
  generalize 2 ^ n = N at *
  go_enter Tryd.func88, Tryd.ntmps88
  go_wp2
  go_loopg [3, 4, 9] N (fun gk c o i wr => ∃ d : Nat, gk + d = N ∧ i = .int .i64 d ∧ c = .int .i64 ((famL d F.testBit).length : Nat) ∧ o = .bool (oneB F d) ∧ w = wr)
  case atStart => exact ⟨0, by omega, rfl, by rw [HC0.out]; rfl, by rw [HO0.out], rfl⟩
  case round =>
    obtain ⟨d, hd, rfl, rfl, rfl, hw⟩ := hrel
    subst hw
    have HD := hid hd
    by_cases hlt : d < N
    · have HLT := hid hlt
      have cd := HB.out.cell d
      rw [barr_get hlt] at cd
      have hcb := HCB.out d
      have hcs := HCS.out d
      have hos := HOS.out d
      generalize (famL d F.testBit).length = c at *
      generalize oneB F d = ob at *
      clear hd
      cases hp : F.testBit d
      · rw [hp] at cd hcs hos
        have HN1 := hid hcs
        have HN2 := hid hos
        clear hp hcs hos
        go_wp2
        go_roundg (gk - 1)
        case measure => have := HD.out; have := HLT.out; omega
        case rel => exact ⟨d + 1, by have := HD.out; have := HLT.out; omega, by go_num, by rw [HN1.out]; rfl, by rw [HN2.out]; simp, rfl⟩
      · rw [hp] at cd hcs hos
        have HN1 := hid hcs
        clear hp hcs
        cases ob
        · have HZ := hid fun W => refSize d (by omega) W
          have b1 := sz_le6 d
          have HN2 := hid hos
          clear hos
          generalize sz d = zd at *
          go_wp2_with fail
          refine (HZ.out _).mono ?_; rintro e w' ⟨rfl, rfl⟩
          go_wp2
          go_roundg (gk - 1)
          case measure => have := HD.out; have := HLT.out; omega
          case rel => exact ⟨d + 1, by have := HD.out; have := HLT.out; omega, by go_num, by rw [HN1.out]; go_num, by rw [HN2.out]; simp; rw [Bool.eq_iff_iff, beq_iff_eq, beq_iff_eq]; omega, rfl⟩
        · have HN2 := hid hos
          clear hos
          go_wp2
          go_roundg (gk - 1)
          case measure => have := HD.out; have := HLT.out; omega
          case rel => exact ⟨d + 1, by have := HD.out; have := HLT.out; omega, by go_num, by rw [HN1.out]; go_num, by rw [HN2.out]; simp, rfl⟩
    · obtain rfl : d = N := by have := HD.out; omega
      clear hd hlt
      have hcb := HCB.out d
      have hpp := HP.out
      have HPP := hid hpp
      clear hpp
      generalize (famL d F.testBit).length = c at *
      generalize oneB F d = ob at *
      by_cases h2 : c = 2
      · subst h2
        cases ob
        · go_wp2
          go_ret
          exact ⟨.inl ⟨rfl, by rw [← HPP.out]; simp⟩, rfl⟩
        · go_wp2
          go_ret
          exact ⟨.inr ⟨rfl, by rw [← HPP.out]; simp⟩, rfl⟩
      · have k1 : ((c : Int) == 2) = false := by rw [beq_eq_false_iff_ne]; omega
        have k2 : (c == 2) = false := by rw [beq_eq_false_iff_ne]; omega
        have H2 := hid h2
        clear h2
        go_wp2
        go_ret
        exact ⟨⟨false, rfl, by rw [← HPP.out]; simp [H2.out]⟩, rfl⟩
end Go.Proofs.YtjddbglbodkihaaDoor

/- Walk of the reference's away: whether a family folds away, in any way. Condition: at most six elements. -/
namespace Go.Proofs.YtjddbglbodkihaaDoor
open Go.RowKit
attribute [local go_sem ↓] shl_p2 shl_u or_u or_i

def NF (F : Nat) : Prop := ¬ FA F
set_option maxRecDepth 100000 in
set_option maxHeartbeats 4000000 in
theorem awayR (n mb tb : Nat) (hn : n ≤ 6) : ∀ (F : Nat), F < 2 ^ (2 ^ n) → FS F → ∀ (g1 g2 : Nat) (w : World), TabF NF w mb g1 g2 → Blk w tb 4 (barr (2 ^ n) F.testBit) → tb ≠ g2 →
    Calls Tryd.prog 89 #[.pointer (some ⟨mb, 0, none⟩), .slice (some ⟨tb, 0, none⟩) (2 ^ n : Nat) (2 ^ n : Nat)] w fun e w' => (∃ b, e = .returned (.bool b) ∧ (b = true ↔ FA F)) ∧ ∃ G1 G2, TabF NF w' mb G1 G2 ∧ Step w w' mb g1 g2 G1 G2 := by
  intro F
  induction F using Nat.strongRecOn with
  | _ F ih =>
  intro hF hs g1 g2 w hT hB h2
  have IH := hid ih
  have HPO := hid fun W hb => refPoint n F tb W hn hF hs hb
  have HFO := hid fun s t W hb => refFolds n F tb s t W hn hF hb
  have hN := two64 hn
  have HF2 := hid hF
  have HS := hid hs
  have HTT := hid hT
  have HBB := hid hB
  have HG2 := hid h2
  have HMA := hid (mkw_all hF)
  have HM0 : Hid (mkN 0 F.testBit = 0) := hid rfl
  have HMS := hid fun d (h : F.testBit d = true) => mkw_or h
  have HMN := hid fun d (h : F.testBit d = false) => mkw_no h
  have HML := hid fun d => mkN_lt F.testBit d
  have HBL := hid fun v (hv : F.testBit v = true) => bit_lt hF hv
  clear ih hF hs hT hB h2
  generalize 2 ^ n = N at *
  go_enter Tryd.func89, Tryd.ntmps89
  go_wp2_with fail
  refine (HPO.out _ HBB.out).mono ?_; rintro e w1 ⟨⟨b, rfl, hb⟩, rfl⟩
  cases b
  · have HNP := hid (show ¬ Point F.testBit from fun k => by have := hb.2 k; cases this)
    clear hb
    go_wp2
    go_loopg [5, 16] N (fun gk x i wr => ∃ d : Nat, gk + d = N ∧ i = .int .i64 d ∧ x = .int .u64 (mkN d F.testBit : Nat) ∧ w = wr)
    case atStart => exact ⟨0, by omega, rfl, by rw [HM0.out]; rfl, rfl⟩
    case round =>
      obtain ⟨d, hd, rfl, rfl, hw⟩ := hrel
      subst hw
      have HD := hid hd
      by_cases hlt : d < N
      · have HLT := hid hlt
        have cd := HBB.out.cell d
        rw [barr_get hlt] at cd
        clear hd
        cases hp : F.testBit d
        · rw [hp] at cd
          have HN1 := hid (HMN.out d hp)
          clear hp
          go_wp2
          go_roundg (gk - 1)
          case measure => have := HD.out; have := HLT.out; omega
          case rel => exact ⟨d + 1, by have := HD.out; have := HLT.out; omega, by go_num, by rw [HN1.out], rfl⟩
        · rw [hp] at cd
          have HN1 := hid (HMS.out d hp)
          have FF : FitF (d : Int) := ⟨by omega, by omega⟩
          have OO : OrF (mkN d F.testBit) (d : Int) := ⟨by
            have h1 := HML.out d
            have h2 := Nat.pow_le_pow_right (show 0 < 2 by decide) (show d ≤ 64 by omega)
            omega, by omega, by omega⟩
          clear hp
          generalize mkN d F.testBit = x at *
          go_wp2
          go_roundg (gk - 1)
          case measure => have := HD.out; have := HLT.out; omega
          case rel => exact ⟨d + 1, by have := HD.out; have := HLT.out; omega, by go_num, by rw [← HN1.out], rfl⟩
      · obtain rfl : d = N := by have := HD.out; omega
        clear hd hlt
        rw [HMA.out]
        obtain ⟨NN, ks, us, L, hTS⟩ := HTT.out
        obtain ⟨s, hsN, hsu, hpl⟩ := placeD NF mb g1 g2 NN ks us L F hTS.good hTS.half (by have := hTS.nbd; omega)
        have HPL := hid hpl
        have HTS := hid hTS
        have c1 := hTS.bm.cell 1
        simp only [List.getElem?_toArray, List.getElem?_cons_zero, List.getElem?_cons_succ] at c1
        have cs := hTS.bu.cell s
        rw [barr_get hsN] at cs
        clear hTS hpl
        cases hu : us s
        · rw [hu] at cs
          clear hsu hu
          go_wp2_with fail
          go_quiet ((first | (go_at_call 101; with_reducible exact quietEq (HPL.out _ (HTS.out.drewN _)))))
          have HT1 := hid (HTT.out.drewN nq)
          have HST1 := hid ((Step.refl w mb g1 g2).drewN nq)
          have HB1 := hid (HBB.out.drewN nq)
          have htm : tb ≠ mb := blk_neU HBB.out HTS.out.bm (by decide)
          have ht1 : tb ≠ g1 := blk_neU HBB.out HTS.out.bk (by decide)
          have HNE := hid (And.intro htm (And.intro ht1 HG2.out))
          clear c1 cs htm ht1 HPL HTS hsN
          generalize w.drewN nq = W1 at *
          go_wp2
          go_loopg [38] d (fun gk i wr => ∃ S : Nat, gk + S = d ∧ i = .int .i64 S ∧ Hid (∀ s, s < S → ∀ x, x < 6 → FR F s (ad s x) → ¬ FA (remF F s (ad s x))) ∧ Hid (∃ G1 G2, TabF NF wr mb G1 G2 ∧ Step W1 wr mb g1 g2 G1 G2))
          case atStart => exact ⟨0, by omega, rfl, hid fun s h => absurd h (by omega), hid ⟨g1, g2, HT1.out, Step.refl _ _ _ _⟩⟩
          case round =>
            obtain ⟨S, hS, rfl, HNO, HEX⟩ := hrel
            have HSD := hid hS
            by_cases hlt : S < d
            · have HLT := hid hlt
              have hS64 : S < 64 := by omega
              clear hS
              go_wp2
              go_loopg [41] 6 (fun gj i wr => ∃ I : Nat, gj + I = 6 ∧ i = .int .i64 I ∧ Hid (∀ x, x < I → FR F S (ad S x) → ¬ FA (remF F S (ad S x))) ∧ Hid (∃ G1 G2, TabF NF wr mb G1 G2 ∧ Step W1 wr mb g1 g2 G1 G2))
              case atStart => exact ⟨0, by omega, rfl, hid fun x h => absurd h (by omega), HEX⟩
              case round =>
                clear HEX
                obtain ⟨I, hI, rfl, HNI, HEX⟩ := hrel
                have HID := hid hI
                by_cases hlt2 : I < 6
                · have HLT2 := hid hlt2
                  have FI : Fits (I : Int) := ⟨by omega, by omega⟩
                  have OO : OrI S (I : Int) := ⟨by omega, by omega, by omega⟩
                  have HNX := hid fun (h : FR F S (ad S I) → ¬ FA (remF F S (ad S I))) => (show ∀ x, x < I + 1 → FR F S (ad S x) → ¬ FA (remF F S (ad S x)) from fun x hx => by
                    by_cases e : x = I
                    · subst e; exact h
                    · exact HNI.out x (by omega))
                  have hU64 : ad S I < 64 := ad_lt hS64 hlt2
                  clear hI
                  cases hq : S.testBit I
                  · have hne := ad_ne hq
                    have k1 : (((ad S I : Nat) : Int) == (S : Int)) = false := by rw [beq_eq_false_iff_ne]; omega
                    have k2 : (ad S I == S) = false := by rw [beq_eq_false_iff_ne]; exact hne
                    obtain ⟨G1, G2, hTF, hSt⟩ := HEX.out
                    obtain ⟨hbw, hn1, hn2⟩ := hSt.blk HB1.out HNE.out.1 HNE.out.2.1 HNE.out.2.2
                    have HCF := hid (HFO.out S (ad S I) wr hbw)
                    have HTF := hid hTF; have HSt := hid hSt; have HBW := hid hbw; have HN12 := hid (And.intro hn1 hn2)
                    have HNE2 := hid hne
                    have k3 : decide (ad S I = S) = false := decide_eq_false hne
                    clear hq hTF hSt hbw hn1 hn2
                    go_wp2_with fail
                    refine (HCF.out).mono ?_; rintro e w' ⟨⟨b, rfl, hb⟩, rfl⟩
                    cases b
                    · have HN2 := hid (HNX.out fun k => absurd (hb.2 ⟨S, ad S I, rfl, rfl, k⟩) (by simp))
                      clear hb
                      go_wp2
                      go_roundg (gk - 1)
                      case measure => have := HID.out; have := HLT2.out; omega
                      case rel => exact ⟨I + 1, by have := HID.out; have := HLT2.out; omega, by go_num, HN2, HEX⟩
                    · have hfr : FR F S (ad S I) := by
                        obtain ⟨S', T', e1, e2, k⟩ := hb.1 rfl
                        have e1 : S = S' := by omega
                        have e2 : ad S I = T' := by omega
                        subst e1
                        rw [e2]; exact k
                      have HFR := hid hfr
                      have hUd : ad S I < d := HBL.out _ hfr.inT
                      clear hb hfr
                      have cS := HBW.out.cell S
                      rw [barr_get hlt, HFR.out.inS] at cS
                      have fS := HBW.out.free S
                      have B1 := hid (show Blk (wr.setCell ⟨tb, S, none⟩ (.bool false)) tb 4 (barr d (updK F.testBit S false)) by rw [← barr_updU]; exact HBW.out.set S _)
                      have cU := B1.out.cell (ad S I)
                      rw [barr_get hUd] at cU
                      have fU := B1.out.free (ad S I)
                      have B2 := hid (show Blk ((wr.setCell ⟨tb, S, none⟩ (.bool false)).setCell ⟨tb, ad S I, none⟩ (.bool false)) tb 4 (barr d (remF F S (ad S I)).testBit) by rw [← barr_rem HS.out, ← barr_updU]; exact B1.out.set _ _)
                      have HT2 := hid ((HTF.out.far (p := ⟨tb, S, none⟩) HNE.out.1 HN12.out.1 HN12.out.2 (.bool false)).far (p := ⟨tb, ad S I, none⟩) HNE.out.1 HN12.out.1 HN12.out.2 (.bool false))
                      have HST2 := hid ((HSt.out.toT (tb := tb)).setCell S (.bool false) |>.setCell (ad S I) (.bool false))
                      have HRC := hid (IH.out (remF F S (ad S I)) (rem_less2 HS.out HFR.out) (lt_of_bits fun u hu => bit_lt HF2.out (rem_sub HS.out u hu)) (HFR.out.fs HS.out) G1 G2 _ HT2.out B2.out HN12.out.2)
                      clear k1 k2 k3
                      go_wp2_with fail
                      refine (HRC.out).mono ?_; rintro e w4 ⟨⟨b, rfl, hb⟩, G1', G2', hT4, hS4⟩
                      obtain ⟨b4, hn1, hn2⟩ := hS4.blk B2.out HNE.out.1 HN12.out.1 HN12.out.2
                      have HST4 := hid (HST2.out.trans hS4)
                      have HB4 := hid b4
                      have HT4 := hid hT4
                      have HN34 := hid (And.intro hn1 hn2)
                      have HBF := hid hb
                      clear cS fS cU fU hT4 hS4 b4 hn1 hn2 hb
                      have cS := HB4.out.cell S
                      rw [barr_get hlt] at cS
                      have fS := HB4.out.free S
                      have B5 := hid (show Blk (w4.setCell ⟨tb, S, none⟩ (.bool true)) tb 4 (barr d (updK (remF F S (ad S I)).testBit S true)) by rw [← barr_updU]; exact HB4.out.set S _)
                      have cU := B5.out.cell (ad S I)
                      rw [barr_get hUd] at cU
                      have fU := B5.out.free (ad S I)
                      have B6 := hid (show Blk ((w4.setCell ⟨tb, S, none⟩ (.bool true)).setCell ⟨tb, ad S I, none⟩ (.bool true)) tb 4 (barr d F.testBit) by rw [← barr_back HS.out HFR.out, ← barr_updU]; exact B5.out.set _ _)
                      have HT6 := hid ((HT4.out.far (p := ⟨tb, S, none⟩) HNE.out.1 HN34.out.1 HN34.out.2 (.bool true)).far (p := ⟨tb, ad S I, none⟩) HNE.out.1 HN34.out.1 HN34.out.2 (.bool true))
                      have HS6 := hid (((HST4.out.setCell S (.bool true)).setCell (ad S I) (.bool true)).back HB1.out B6.out)
                      cases b
                      · have HN2 := hid (HNX.out fun _ k => absurd (HBF.out.2 k) (by simp))
                        go_wp2
                        go_roundg (gk - 1)
                        case measure => have := HID.out; have := HLT2.out; omega
                        case rel => exact ⟨I + 1, by have := HID.out; have := HLT2.out; omega, by go_num, HN2, hid ⟨G1', G2', HT6.out, HS6.out⟩⟩
                      · go_wp2
                        go_ret
                        exact ⟨⟨true, rfl, by simp; exact FA.step HFR.out (HBF.out.1 trivial)⟩, G1', G2', HT6.out, HST1.out.trans HS6.out⟩
                  · have hne : ad S I = S := ad_self hq
                    have k1 : (((ad S I : Nat) : Int) == (S : Int)) = true := by rw [beq_iff_eq]; omega
                    have k2 : (ad S I == S) = true := by rw [beq_iff_eq]; exact hne
                    have HN2 := hid (HNX.out fun k => absurd hne k.ne)
                    have k3 : decide (ad S I = S) = true := decide_eq_true hne
                    clear hq
                    go_wp2
                    go_roundg (gk - 1)
                    case measure => have := HID.out; have := HLT2.out; omega
                    case rel => exact ⟨I + 1, by have := HID.out; have := HLT2.out; omega, by go_num, HN2, HEX⟩
                · obtain rfl : I = 6 := by have := HID.out; omega
                  clear hI
                  go_wp2
                  go_roundg (d - S - 1)
                  case measure => have := HSD.out; have := HLT.out; omega
                  case rel =>
                    refine ⟨S + 1, by have := HSD.out; have := HLT.out; omega, by go_num, hid fun s hs x hx => ?_, HEX⟩
                    by_cases e : s = S
                    · subst e; exact HNI.out x hx
                    · exact HNO.out s (by omega) x hx
            · obtain rfl : S = d := by have := HSD.out; omega
              clear hS hlt
              have HNFA := hid (show NF F from fun hfa => by
                rcases hfa.inv with k | ⟨s, t, hr, k⟩
                · exact HNP.out k
                · obtain ⟨x, hx, e⟩ := hr.form HS.out
                  subst e
                  exact HNO.out s (HBL.out s hr.inS) x hx hr k)
              obtain ⟨G1, G2, hTF, hSt⟩ := HEX.out
              have HPT := hid (putR NF mb G1 G2 F ⟨HS.out, HNFA.out⟩ wr hTF)
              have HSt := hid hSt
              clear hTF hSt
              go_wp2_with fail
              refine (HPT.out).mono ?_; rintro e w9 ⟨rfl, G1', G2', ht, hst⟩
              have HT9 := hid ht
              have HS9 := hid (HST1.out.trans (HSt.out.trans hst))
              clear ht hst
              go_wp2
              go_ret
              exact ⟨⟨false, rfl, by simp; exact HNFA.out⟩, G1', G2', HT9.out, HS9.out⟩
        · rw [hu] at cs
          have HNF := hid (HTS.out.tru F (hsu hu)).2
          clear hsu hu
          go_wp2_with fail
          go_quiet ((first | (go_at_call 101; with_reducible exact quietEq (HPL.out _ (HTS.out.drewN _)))))
          go_wp2
          go_ret
          exact ⟨⟨false, rfl, by simp; exact HNF.out⟩, g1, g2, HTT.out.drewN _, (Step.refl _ _ _ _).drewN _⟩
  · have HP := hid (hb.1 rfl)
    clear hb
    go_wp2
    go_ret
    exact ⟨⟨true, rfl, by simp [FA.point HP.out]⟩, g1, g2, HTT.out, Step.refl _ _ _ _⟩
end Go.Proofs.YtjddbglbodkihaaDoor

/- Walks of the reference's Folds and FoldsAway. Condition: a family. -/
namespace Go.Proofs.YtjddbglbodkihaaDoor
open Go.RowKit
attribute [local go_sem ↓] shl_p2 shl_u or_u or_i

set_option maxRecDepth 100000 in
set_option maxHeartbeats 4000000 in
theorem refFoldsL (n : Nat) (A : Option Addr) (m c : Nat) (xs : List Int) (X : Option Addr) (k kc : Nat) (qs : List (Int × Int)) (w : World) (hs : Sl w A m c (xs.map (Value.int .i64))) (hq : Sl2 w X k kc qs) (H : Fam n xs) :
    Calls Tryd.prog 52 #[.int .i64 n, .slice A m c, .slice X k kc] w fun e w' => (∃ b, e = .returned (.bool b) ∧ (b = true ↔ ∃ G, FRun (setF xs) qs G ∧ Point G.testBit)) ∧ Below w.heap.size w w' := by
  have hf := fs_of H
  have hn6 := H.n6n
  have hN := two64 hn6
  have HTA := hid (tableF n A m c xs w hs hn6 fun x hx => by have := H.nlt hx; omega)
  have HFO := hid fun G ps (h : FRun (setF xs) ps G) tb s t W hb => refFolds n G tb s t W hn6 (h.lt hf H.lt) hb
  have HPO := hid fun G ps (h : FRun (setF xs) ps G) tb W hb => refPoint n G tb W hn6 (h.lt hf H.lt) (h.fs hf) hb
  have HFS := hid fun G ps (h : FRun (setF xs) ps G) => h.fs hf
  have HGL := hid fun G ps (h : FRun (setF xs) ps G) u (hu : G.testBit u = true) => bit_lt (h.lt hf H.lt) hu
  have HQL := hid hq.len
  have hkm := hq.len_le
  have HQ := hid fun W (hb : Below w.heap.size w W) => hq.below hb
  generalize setF xs = F0 at *
  clear hs H hf hq hn6
  generalize 2 ^ n = N at *
  go_enter Tryd.func52, Tryd.ntmps52
  go_wp2_with fail
  refine (HTA.out).mono ?_; rintro e w1 ⟨rfl, hblk, b1⟩
  have HK1 := hid hblk
  have HB1 := hid b1
  clear hblk b1
  go_wp2
  go_loopg [15] k (fun gk i wr => ∃ (d : Nat) (G : Nat), gk + d = k ∧ i = .int .i64 d ∧ FRun F0 (qs.take d) G ∧ Hid (Blk wr w.heap.size 4 (barr N G.testBit)) ∧ Hid (Below w.heap.size w wr))
  case atStart => exact ⟨0, F0, by omega, rfl, .nil, HK1, HB1⟩
  case round =>
    obtain ⟨d, G, hd, rfl, hfr, HK, HB⟩ := hrel
    have HD := hid hd
    by_cases hlt : d < k
    · have HLT := hid hlt
      obtain ⟨b, o, u, rfl, lb, hu, q0, q1⟩ := (HQ.out wr HB.out).at hlt
      have HU := hid hu
      obtain ⟨s, t⟩ := u
      have HB2 := hid (HB.out.alloc HB.out.size (.cells #[.int .i64 s, .int .i64 t] 66))
      have HK2 := hid (HK.out.alloc (.cells #[.int .i64 s, .int .i64 t] 66))
      have HP2 := hid (Blk.new wr 66 #[.int .i64 s, .int .i64 t])
      have f0 := HP2.out.cell 0; have f1 := HP2.out.cell 1
      simp only [List.getElem?_toArray, List.getElem?_cons_zero, List.getElem?_cons_succ] at f0 f1
      have q1' : wr.cell? ⟨b, o + d * 2 + 1, none⟩ = some (.int .i64 t) := by rw [Nat.add_assoc]; exact q1
      have HFA := hid fun hn => FRun.fail (p := (s, t)) HU.out hfr hn
      have HFL := hid (HFO.out G _ hfr _ s t _ HK2.out)
      have HFRR := hid hfr
      clear hd lb hu q1 hfr
      go_wp2_with fail
      refine (HFL.out).mono ?_; rintro e w5 ⟨⟨b5, rfl, hfo⟩, rfl⟩
      cases b5
      · have HRES := hid (show false = true ↔ ∃ G, FRun F0 qs G ∧ Point G.testBit from ⟨fun h => (by cases h), fun ⟨G', h1, _⟩ => absurd h1 (HFA.out (fun sn tn he hr => by
          simp at he
          exact absurd (hfo.2 ⟨sn, tn, he.1, he.2, hr⟩) (by simp)) G')⟩)
        clear hfo f0 f1
        go_wp2
        go_ret
        exact ⟨⟨false, rfl, HRES.out⟩, HB2.out⟩
      · obtain ⟨sn, tn, hsx, htx, hfrr⟩ := hfo.1 rfl
        subst hsx htx
        have HX := hid (show qs.take (d + 1) = qs.take d ++ [((sn : Int), (tn : Int))] from by rw [List.take_add_one, HU.out]; rfl)
        have hsn : sn < N := HGL.out G _ HFRR.out sn hfrr.inS
        have htn : tn < N := HGL.out G _ HFRR.out tn hfrr.inT
        have HFR2 := hid (FRun.snoc HFRR.out hfrr)
        rw [← HX.out] at HFR2
        have c0 := HK2.out.cell sn
        rw [barr_get hsn] at c0
        have z0 := HK2.out.free sn
        have B1 := hid (show Blk ((wr.alloc (.cells #[.int .i64 sn, .int .i64 tn] 66)).setCell ⟨w.heap.size, sn, none⟩ (.bool false)) w.heap.size 4 (barr N (updK G.testBit sn false)) by rw [← barr_updU]; exact HK2.out.set sn _)
        have c1 := B1.out.cell tn
        rw [barr_get htn] at c1
        have z1 := B1.out.free tn
        have B2 := hid (show Blk (((wr.alloc (.cells #[.int .i64 sn, .int .i64 tn] 66)).setCell ⟨w.heap.size, sn, none⟩ (.bool false)).setCell ⟨w.heap.size, tn, none⟩ (.bool false)) w.heap.size 4 (barr N (remF G sn tn).testBit) by rw [← barr_rem (HFS.out G _ HFRR.out), ← barr_updU]; exact B1.out.set tn _)
        have HBS := hid ((HB2.out.setCell (p := ⟨w.heap.size, sn, none⟩) (by simp) (.bool false)).setCell (p := ⟨w.heap.size, tn, none⟩) (by simp) (.bool false))
        have HP3 := hid (HP2.out.far (p := ⟨w.heap.size, sn, none⟩) (by have := HB.out.size; have := HK.out.lt; simp; omega) (.bool false))
        have f2 := HP3.out.cell 1
        simp only [List.getElem?_toArray, List.getElem?_cons_zero, List.getElem?_cons_succ] at f2
        clear hfo
        go_wp2_with fail
        go_region
        have HKS := hid B2.out.drew
        have HBS2 := hid HBS.out.drew
        generalize (((wr.alloc (.cells #[.int .i64 sn, .int .i64 tn] 66)).setCell ⟨w.heap.size, sn, none⟩ (.bool false)).setCell ⟨w.heap.size, tn, none⟩ (.bool false)).drew = w7 at *
        clear f0 f1 f2 c0 c1 z0 z1
        go_wp2
        go_roundg (gk - 1)
        case measure => have := HD.out; have := HLT.out; omega
        case rel => exact ⟨d + 1, remF G sn tn, by have := HD.out; have := HLT.out; omega, by go_num, HFR2.out, HKS, HBS2⟩
    · obtain rfl : d = k := by have := HD.out; omega
      have e : qs.take d = qs := List.take_of_length_le (by have := HQL.out; omega)
      rw [e] at hfr
      have HFRR := hid hfr
      have HPT := hid (HPO.out G qs hfr _ wr HK.out)
      clear hd hlt e hfr
      go_wp2_with fail
      refine (HPT.out).mono ?_; rintro e wz ⟨⟨bz, rfl, hbz⟩, rfl⟩
      have HRES := hid (show bz = true ↔ ∃ G, FRun F0 qs G ∧ Point G.testBit from ⟨fun h => ⟨G, HFRR.out, hbz.1 h⟩, fun ⟨G', h1, h2⟩ => hbz.2 (by rw [HFRR.out.det _ h1]; exact h2)⟩)
      clear hbz
      go_wp2
      go_ret
      exact ⟨⟨bz, rfl, HRES.out⟩, HB.out⟩
theorem TabF.keep {OK : Nat → Prop} {w w' : World} {mb g1 g2 : Nat} (h : TabF OK w mb g1 g2) (hb : Below w.heap.size w w') : TabF OK w' mb g1 g2 := by
  obtain ⟨N, ks, us, L, h⟩ := h
  exact ⟨N, ks, us, L, h.keep hb⟩
set_option maxRecDepth 100000 in
set_option maxHeartbeats 4000000 in
theorem refAway (n : Nat) (A : Option Addr) (m c : Nat) (xs : List Int) (w : World) (hs : Sl w A m c (xs.map (Value.int .i64))) (H : Fam n xs) :
    Calls Tryd.prog 53 #[.int .i64 n, .slice A m c] w fun e w' => (∃ b, e = .returned (.bool b) ∧ (b = true ↔ FA (setF xs))) ∧ Below w.heap.size w w' := by
  have hf := fs_of H
  have hn6 := H.n6n
  have HTA := hid fun W (hb : Below w.heap.size w W) => tableF n A m c xs W (hs.below hb) hn6 fun x hx => by have := H.nlt hx; omega
  have HAW := hid fun mb tb => awayR n mb tb hn6 (setF xs) H.lt hf
  have m1 : ∀ W : World, (Instr.makeSlice 104 (.int .i64 1024) (.int .i64 1024)).run Tryd.prog W = .ok (.slice (some ⟨W.heap.size, 0, none⟩) 1024 1024) (W.alloc (.cells (arrU 1024 fun _ => 0) 70)) := make104 1024 (by omega)
  have m2 : ∀ W : World, (Instr.makeSlice 77 (.int .i64 1024) (.int .i64 1024)).run Tryd.prog W = .ok (.slice (some ⟨W.heap.size, 0, none⟩) 1024 1024) (W.alloc (.cells (barr 1024 fun _ => false) 4)) := make77U 1024 (by omega)
  have HFRE : Hid (∀ (W : World) (mb g1 g2 : Nat), Blk W mb 106 #[.slice (some ⟨g1, 0, none⟩) 1024 1024, .slice (some ⟨g2, 0, none⟩) 1024 1024, .int .i64 0] → Blk W g1 70 (arrU 1024 fun _ => 0) → Blk W g2 4 (barr 1024 fun _ => false) → TabF NF W mb g1 g2) := hid fun W mb g1 g2 h1 h2 h3 => ⟨1024, fun _ => 0, fun _ => false, [], h1, h2, h3, ⟨10, by omega, by omega, rfl⟩, by simp, GoodK.fresh _ _, fun _ h => by simp at h⟩
  generalize setF xs = F0 at *
  clear hs H hf hn6
  generalize 2 ^ n = N at *
  go_enter Tryd.func53, Tryd.ntmps53
  go_wp2_with fail
  go_region
  · have HB0 := hid ((((Below.refl w.heap.size w).alloc (Nat.le_refl _) (.cells (arrU 1024 fun _ => 0) 70)).alloc (by simp) (.cells (barr 1024 fun _ => false) 4)).alloc (by simp; omega) (.cells #[.slice (some ⟨w.heap.size, 0, none⟩) 1024 1024, .slice (some ⟨w.heap.size + 1, 0, none⟩) 1024 1024, .int .i64 0] 106)).drew
    have HT0 := hid (HFRE.out ((((w.alloc (.cells (arrU 1024 fun _ => 0) 70)).alloc (.cells (barr 1024 fun _ => false) 4)).alloc (.cells #[.slice (some ⟨w.heap.size, 0, none⟩) 1024 1024, .slice (some ⟨w.heap.size + 1, 0, none⟩) 1024 1024, .int .i64 0] 106)).drew) (w.heap.size + 1 + 1) (w.heap.size) (w.heap.size + 1) (Blk.new_at _ 106 _ (by simp)).drew (((Blk.new w 70 _).alloc _).alloc _).drew ((Blk.new_at _ 4 _ (by simp)).alloc _).drew)
    have HZ0 := hid (show w.heap.size + 1 + 1 + 1 = ((((w.alloc (.cells (arrU 1024 fun _ => 0) 70)).alloc (.cells (barr 1024 fun _ => false) 4)).alloc (.cells #[.slice (some ⟨w.heap.size, 0, none⟩) 1024 1024, .slice (some ⟨w.heap.size + 1, 0, none⟩) 1024 1024, .int .i64 0] 106)).drew).heap.size by simp)
    generalize (((w.alloc (.cells (arrU 1024 fun _ => 0) 70)).alloc (.cells (barr 1024 fun _ => false) 4)).alloc (.cells #[.slice (some ⟨w.heap.size, 0, none⟩) 1024 1024, .slice (some ⟨w.heap.size + 1, 0, none⟩) 1024 1024, .int .i64 0] 106)).drew = W0 at *
    clear m1 m2
    go_wp2_with fail
    refine (HTA.out _ HB0.out).mono ?_; rintro e w1 ⟨rfl, hblk, b1⟩
    have HT1 := hid (HT0.out.keep b1)
    have HB1 := hid (below_call HB0.out b1 HB0.out.size)
    have HC := hid (HAW.out _ _ _ _ _ HT1.out hblk (by have := HZ0.out; omega))
    clear hblk b1
    go_wp2_with fail
    refine (HC.out).mono ?_; rintro e w2 ⟨⟨b, rfl, hb⟩, G1, G2, ht, hst⟩
    have HB2 := hid (Step.below HB1.out hst HB1.out.size (by omega) (by omega) (by omega))
    have HBB := hid hb
    clear hb ht hst
    go_wp2
    go_ret
    exact ⟨⟨b, rfl, HBB.out⟩, HB2.out⟩
  · have HB0 := hid ((((Below.refl w.heap.size w).alloc (Nat.le_refl _) (.cells (barr 1024 fun _ => false) 4)).alloc (by simp) (.cells (arrU 1024 fun _ => 0) 70)).alloc (by simp; omega) (.cells #[.slice (some ⟨w.heap.size + 1, 0, none⟩) 1024 1024, .slice (some ⟨w.heap.size, 0, none⟩) 1024 1024, .int .i64 0] 106)).drew
    have HT0 := hid (HFRE.out ((((w.alloc (.cells (barr 1024 fun _ => false) 4)).alloc (.cells (arrU 1024 fun _ => 0) 70)).alloc (.cells #[.slice (some ⟨w.heap.size + 1, 0, none⟩) 1024 1024, .slice (some ⟨w.heap.size, 0, none⟩) 1024 1024, .int .i64 0] 106)).drew) (w.heap.size + 1 + 1) (w.heap.size + 1) (w.heap.size) (Blk.new_at _ 106 _ (by simp)).drew ((Blk.new_at _ 70 _ (by simp)).alloc _).drew (((Blk.new w 4 _).alloc _).alloc _).drew)
    have HZ0 := hid (show w.heap.size + 1 + 1 + 1 = ((((w.alloc (.cells (barr 1024 fun _ => false) 4)).alloc (.cells (arrU 1024 fun _ => 0) 70)).alloc (.cells #[.slice (some ⟨w.heap.size + 1, 0, none⟩) 1024 1024, .slice (some ⟨w.heap.size, 0, none⟩) 1024 1024, .int .i64 0] 106)).drew).heap.size by simp)
    generalize (((w.alloc (.cells (barr 1024 fun _ => false) 4)).alloc (.cells (arrU 1024 fun _ => 0) 70)).alloc (.cells #[.slice (some ⟨w.heap.size + 1, 0, none⟩) 1024 1024, .slice (some ⟨w.heap.size, 0, none⟩) 1024 1024, .int .i64 0] 106)).drew = W0 at *
    clear m1 m2
    go_wp2_with fail
    refine (HTA.out _ HB0.out).mono ?_; rintro e w1 ⟨rfl, hblk, b1⟩
    have HT1 := hid (HT0.out.keep b1)
    have HB1 := hid (below_call HB0.out b1 HB0.out.size)
    have HC := hid (HAW.out _ _ _ _ _ HT1.out hblk (by have := HZ0.out; omega))
    clear hblk b1
    go_wp2_with fail
    refine (HC.out).mono ?_; rintro e w2 ⟨⟨b, rfl, hb⟩, G1, G2, ht, hst⟩
    have HB2 := hid (Step.below HB1.out hst HB1.out.size (by omega) (by omega) (by omega))
    have HBB := hid hb
    clear hb ht hst
    go_wp2
    go_ret
    exact ⟨⟨b, rfl, HBB.out⟩, HB2.out⟩
end Go.Proofs.YtjddbglbodkihaaDoor
