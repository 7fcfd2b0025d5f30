/- Walk of the law's copies: three or five new ones, and as many of the reference. No condition. -/
import Derived.Test.YtkjinamjdjijcaaGreatDoorRefC
namespace Go.Proofs.YtkjinamjdjijcaaGreatDoor
open Go.RowKit Go.Maps

/-- Slices of N new copies, and of N of the reference, all of them from block B on. -/
def CopAre (w : World) (B N : Nat) (a r : Value) : Prop := ∃ (L : List (Nat × Nat)) (M : List Nat),
  w.ownsRow B 33 1 a N (ptrs (L.map (·.1))) ∧ w.ownsRow B 63 1 r N (ptrs M) ∧ NewC w B L ∧ (∀ b ∈ M, NewR w b ∧ B ≤ b) ∧ M.Nodup
theorem ptrs_snoc (l : List Nat) (b : Nat) : ptrs (l ++ [b]) = ptrs l ++ [.pointer (some ⟨b, 0, none⟩)] := by simp [ptrs]
theorem CopAre.form {w : World} {B N : Nat} {a r : Value} (h : CopAre w B N a r) : ∃ A c R d, a = .slice A N c ∧ r = .slice R N d := by
  obtain ⟨L, M, h1, h2, _⟩ := h
  obtain ⟨A, c, e1⟩ := own_form h1
  obtain ⟨R, d, e2⟩ := own_form h2
  exact ⟨A, c, R, d, e1, e2⟩
set_option maxRecDepth 100000 in
set_option maxHeartbeats 4000000 in
theorem copies3 (w : World) :
    Calls Tryz.prog 5 #[.bool false] w fun x w' => ∃ a r, x = .returned (.tuple #[a, r]) ∧ CopAre w' w.heap.size 3 a r ∧ Below w.heap.size w w' := by
  have HNC := hid fun W => newCopyF W
  have HNR := hid fun W => refNewF W
  go_enter Tryz.func5, Tryz.ntmps5
  go_wp2
  go_loopg [4, 5, 7] 5 (fun gk a r i wr => ∃ d : Nat, gk + d = 5 ∧ i = .int .i64 d ∧ Hid (CopAre wr w.heap.size (min d 3) a r) ∧ Hid (Below w.heap.size w wr))
  case atStart => exact ⟨0, by omega, rfl, hid ⟨[], [], by simpa [ptrs] using World.ownsRow_nil _ _ _ _, by simpa [ptrs] using World.ownsRow_nil _ _ _ _, NewC.nil _ _, fun b h => by simp at h, List.nodup_nil⟩, hid (Below.refl _ _)⟩
  case round =>
    obtain ⟨d, hd, rfl, HC, HB⟩ := hrel
    have HD := hid hd
    by_cases hlt : d < 5
    · have HLT := hid hlt
      by_cases h3 : d < 3
      · have g1 : decide (d < 3) = true := decide_eq_true h3
        have g2 : decide ((d : Int) < 3) = true := decide_eq_true (by omega)
        have hlim : min d 3 = d := by omega
        have hlim2 : min (d + 1) 3 = d + 1 := by omega
        obtain ⟨A, ca, R, cr, hva, hvr⟩ := HC.out.form
        obtain ⟨L, M, hA, hR, hL, hM, hMn⟩ := HC.out
        first | rw [hlim] at hva hvr | skip
        subst hva hvr
        first | rw [hlim] at hA hR | skip
        have HLQ := hid hlim2
        have HA := hid hA; have HR := hid hR; have HL := hid hL; have HM := hid (And.intro hM hMn)
        have hdb : d < 5 := HLT.out
        clear hd h3 hlt hA hR hL hM hMn hlim hlim2 HC
        go_wp2_with fail
        refine (HNC.out _).mono ?_; rintro x w2 ⟨cb, mb, rfl, hcp, b2, k1, k2⟩
        have HA2 := hid (own_below HA.out b2)
        have HR2 := hid (own_below HR.out b2)
        have HL2 := hid ((HL.out.keep b2).snoc hcp HB.out.size k1 k2 (fun p hp => (HL.out.cpm p hp).1.lt))
        have HM2 := hid (show (∀ b ∈ M, NewR w2 b ∧ w.heap.size ≤ b) from fun b hb => ⟨(HM.out.1 b hb).1.keep b2, (HM.out.1 b hb).2⟩)
        have HB2 := hid (below_call HB.out b2 HB.out.size)
        have HMS := hid (show ∀ b ∈ M, b < wr.heap.size from fun b hb => (HM.out.1 b hb).1.lt)
        have hz2 := HB2.out.size
        have HS2 := hid b2.size
        clear hcp b2 k1 k2
        go_wp2_with (at_builtin; refine push1P TC w2 #[.pointer (some ⟨cb, 0, none⟩)] w.heap.size _ _ _ HA2.out _ _ w2.heap.size rfl rfl rfl rfl rfl rfl (by simp [Value.oneCell']) (by omega) (by omega) hz2 ?_; intro v1 w3 hown1 hgr)
        have HA3 := hid hown1
        have HR3 := hid (World.ownsRow.kept (HR2.out.alloc (.cells #[.pointer (some ⟨cb, 0, none⟩)] 33)) hgr (own_apart2 HR2.out HA2.out (by decide)))
        have HL3 := hid ((HL2.out.keep ((Below.refl _ _).alloc (Nat.le_refl _) (.cells #[.pointer (some ⟨cb, 0, none⟩)] 33))).grown (HA2.out.alloc _) hgr (by decide))
        have HM3 := hid (show (∀ b ∈ M, NewR w3 b ∧ w.heap.size ≤ b) from fun b hb => ⟨((HM2.out b hb).1.alloc (.cells #[.pointer (some ⟨cb, 0, none⟩)] 33)).grown hgr (own_ne_blk HA2.out (HM2.out b hb).1 (by decide)), (HM2.out b hb).2⟩)
        have HB3 := hid (below_push HB2.out HA2.out hgr hz2 (Nat.le_refl _))
        have HS3 := hid (show w2.heap.size ≤ w3.heap.size from by have := hgr.size; simp at this; omega)
        obtain ⟨A3, c3, rfl⟩ := own_form hown1
        clear hown1 hgr hz2
        go_wp2_with fail
        refine (HNR.out _).mono ?_; rintro x w4 ⟨rb, rfl, hrb, b4, k4⟩
        have HA4 := hid (own_below HA3.out b4)
        have HR4 := hid (own_below HR3.out b4)
        have HL4 := hid (HL3.out.keep b4)
        have HM4 := hid (show (∀ b ∈ M ++ [rb], NewR w4 b ∧ w.heap.size ≤ b) from fun b hb => by
          rcases List.mem_append.1 hb with hb | hb
          · exact ⟨(HM3.out b hb).1.keep b4, (HM3.out b hb).2⟩
          · simp at hb
            subst hb
            exact ⟨hrb, by have := HB3.out.size; omega⟩)
        have HMN := hid (show (M ++ [rb]).Nodup from by
          rw [List.nodup_append]
          refine ⟨HM.out.2, by simp, fun a ha b hb => ?_⟩
          have h1 := HMS.out a ha
          have h2 := HS2.out
          have h3 := HS3.out
          simp at hb
          omega)
        have HB4 := hid (below_call HB3.out b4 HB3.out.size)
        have hz4 := HB4.out.size
        clear hrb b4 k4
        go_wp2_with (at_builtin; refine push1P TR w4 #[.pointer (some ⟨rb, 0, none⟩)] w.heap.size _ _ _ HR4.out _ _ w4.heap.size rfl rfl rfl rfl rfl rfl (by simp [Value.oneCell']) (by omega) (by omega) hz4 ?_; intro v5 w5 hown5 hgr)
        have HR5 := hid hown5
        have HA5 := hid (World.ownsRow.kept (HA4.out.alloc (.cells #[.pointer (some ⟨rb, 0, none⟩)] 63)) hgr (own_apart2 HA4.out HR4.out (by decide)))
        have HL5 := hid ((HL4.out.keep ((Below.refl _ _).alloc (Nat.le_refl _) (.cells #[.pointer (some ⟨rb, 0, none⟩)] 63))).grown (HR4.out.alloc _) hgr (by decide))
        have HM5 := hid (show (∀ b ∈ M ++ [rb], NewR w5 b ∧ w.heap.size ≤ b) from fun b hb => ⟨((HM4.out b hb).1.alloc (.cells #[.pointer (some ⟨rb, 0, none⟩)] 63)).grown hgr (own_ne_blk HR4.out (HM4.out b hb).1 (by decide)), (HM4.out b hb).2⟩)
        have HB5 := hid (below_push HB4.out HR4.out hgr hz4 (Nat.le_refl _))
        obtain ⟨R5, c5, rfl⟩ := own_form hown5
        clear hown5 hgr hz4
        go_wp2
        go_roundg (gk - 1)
        case measure => have := HD.out; have := HLT.out; omega
        case rel =>
          refine ⟨d + 1, by have := HD.out; have := HLT.out; omega, by go_num, hid ?_, HB5⟩
          first | rw [HLQ.out] | skip
          refine ⟨L ++ [(cb, mb)], M ++ [rb], ?_, ?_, HL5.out, HM5.out, HMN.out⟩
          · rw [List.map_append]
            exact (by rw [List.map_cons, List.map_nil, ptrs_snoc]; exact HA5.out)
          · rw [ptrs_snoc]; exact HR5.out
      · have g1 : decide (d < 3) = false := decide_eq_false h3
        have g2 : decide ((d : Int) < 3) = false := decide_eq_false (by omega)
        have HC2 := hid (show CopAre wr w.heap.size (min (d + 1) 3) u4 u5 by
          have := HC.out
          rwa [show min (d + 1) 3 = min d 3 by omega])
        have hdb : d < 5 := HLT.out
        clear hd h3
        go_wp2
        go_roundg (gk - 1)
        case measure => have := HD.out; have := HLT.out; omega
        case rel => exact ⟨d + 1, by have := HD.out; have := HLT.out; omega, by go_num, HC2, HB⟩
    · obtain rfl : d = 5 := by have := HD.out; omega
      have HC2 := hid (show CopAre wr w.heap.size 3 u4 u5 from HC.out)
      clear hd hlt
      go_wp2
      go_ret2
      exact ⟨u4, u5, rfl, HC2.out, HB.out⟩
set_option maxRecDepth 100000 in
set_option maxHeartbeats 4000000 in
theorem copies5 (w : World) :
    Calls Tryz.prog 5 #[.bool true] w fun x w' => ∃ a r, x = .returned (.tuple #[a, r]) ∧ CopAre w' w.heap.size 5 a r ∧ Below w.heap.size w w' := by
  have HNC := hid fun W => newCopyF W
  have HNR := hid fun W => refNewF W
  go_enter Tryz.func5, Tryz.ntmps5
  go_wp2
  go_loopg [4, 5, 7] 5 (fun gk a r i wr => ∃ d : Nat, gk + d = 5 ∧ i = .int .i64 d ∧ Hid (CopAre wr w.heap.size d a r) ∧ Hid (Below w.heap.size w wr))
  case atStart => exact ⟨0, by omega, rfl, hid ⟨[], [], by simpa [ptrs] using World.ownsRow_nil _ _ _ _, by simpa [ptrs] using World.ownsRow_nil _ _ _ _, NewC.nil _ _, fun b h => by simp at h, List.nodup_nil⟩, hid (Below.refl _ _)⟩
  case round =>
    obtain ⟨d, hd, rfl, HC, HB⟩ := hrel
    have HD := hid hd
    by_cases hlt : d < 5
    · have HLT := hid hlt
      by_cases h3 : d < 3
      · have g1 : decide (d < 3) = true := decide_eq_true h3
        have g2 : decide ((d : Int) < 3) = true := decide_eq_true (by omega)
        have hlim : d + 0 = d := rfl
        have hlim2 : d + 1 = d + 1 := rfl
        obtain ⟨A, ca, R, cr, hva, hvr⟩ := HC.out.form
        obtain ⟨L, M, hA, hR, hL, hM, hMn⟩ := HC.out
        first | rw [hlim] at hva hvr | skip
        subst hva hvr
        first | rw [hlim] at hA hR | skip
        have HLQ := hid hlim2
        have HA := hid hA; have HR := hid hR; have HL := hid hL; have HM := hid (And.intro hM hMn)
        have hdb : d < 5 := HLT.out
        clear hd h3 hlt hA hR hL hM hMn hlim hlim2 HC
        go_wp2_with fail
        refine (HNC.out _).mono ?_; rintro x w2 ⟨cb, mb, rfl, hcp, b2, k1, k2⟩
        have HA2 := hid (own_below HA.out b2)
        have HR2 := hid (own_below HR.out b2)
        have HL2 := hid ((HL.out.keep b2).snoc hcp HB.out.size k1 k2 (fun p hp => (HL.out.cpm p hp).1.lt))
        have HM2 := hid (show (∀ b ∈ M, NewR w2 b ∧ w.heap.size ≤ b) from fun b hb => ⟨(HM.out.1 b hb).1.keep b2, (HM.out.1 b hb).2⟩)
        have HB2 := hid (below_call HB.out b2 HB.out.size)
        have HMS := hid (show ∀ b ∈ M, b < wr.heap.size from fun b hb => (HM.out.1 b hb).1.lt)
        have hz2 := HB2.out.size
        have HS2 := hid b2.size
        clear hcp b2 k1 k2
        go_wp2_with (at_builtin; refine push1P TC w2 #[.pointer (some ⟨cb, 0, none⟩)] w.heap.size _ _ _ HA2.out _ _ w2.heap.size rfl rfl rfl rfl rfl rfl (by simp [Value.oneCell']) (by omega) (by omega) hz2 ?_; intro v1 w3 hown1 hgr)
        have HA3 := hid hown1
        have HR3 := hid (World.ownsRow.kept (HR2.out.alloc (.cells #[.pointer (some ⟨cb, 0, none⟩)] 33)) hgr (own_apart2 HR2.out HA2.out (by decide)))
        have HL3 := hid ((HL2.out.keep ((Below.refl _ _).alloc (Nat.le_refl _) (.cells #[.pointer (some ⟨cb, 0, none⟩)] 33))).grown (HA2.out.alloc _) hgr (by decide))
        have HM3 := hid (show (∀ b ∈ M, NewR w3 b ∧ w.heap.size ≤ b) from fun b hb => ⟨((HM2.out b hb).1.alloc (.cells #[.pointer (some ⟨cb, 0, none⟩)] 33)).grown hgr (own_ne_blk HA2.out (HM2.out b hb).1 (by decide)), (HM2.out b hb).2⟩)
        have HB3 := hid (below_push HB2.out HA2.out hgr hz2 (Nat.le_refl _))
        have HS3 := hid (show w2.heap.size ≤ w3.heap.size from by have := hgr.size; simp at this; omega)
        obtain ⟨A3, c3, rfl⟩ := own_form hown1
        clear hown1 hgr hz2
        go_wp2_with fail
        refine (HNR.out _).mono ?_; rintro x w4 ⟨rb, rfl, hrb, b4, k4⟩
        have HA4 := hid (own_below HA3.out b4)
        have HR4 := hid (own_below HR3.out b4)
        have HL4 := hid (HL3.out.keep b4)
        have HM4 := hid (show (∀ b ∈ M ++ [rb], NewR w4 b ∧ w.heap.size ≤ b) from fun b hb => by
          rcases List.mem_append.1 hb with hb | hb
          · exact ⟨(HM3.out b hb).1.keep b4, (HM3.out b hb).2⟩
          · simp at hb
            subst hb
            exact ⟨hrb, by have := HB3.out.size; omega⟩)
        have HMN := hid (show (M ++ [rb]).Nodup from by
          rw [List.nodup_append]
          refine ⟨HM.out.2, by simp, fun a ha b hb => ?_⟩
          have h1 := HMS.out a ha
          have h2 := HS2.out
          have h3 := HS3.out
          simp at hb
          omega)
        have HB4 := hid (below_call HB3.out b4 HB3.out.size)
        have hz4 := HB4.out.size
        clear hrb b4 k4
        go_wp2_with (at_builtin; refine push1P TR w4 #[.pointer (some ⟨rb, 0, none⟩)] w.heap.size _ _ _ HR4.out _ _ w4.heap.size rfl rfl rfl rfl rfl rfl (by simp [Value.oneCell']) (by omega) (by omega) hz4 ?_; intro v5 w5 hown5 hgr)
        have HR5 := hid hown5
        have HA5 := hid (World.ownsRow.kept (HA4.out.alloc (.cells #[.pointer (some ⟨rb, 0, none⟩)] 63)) hgr (own_apart2 HA4.out HR4.out (by decide)))
        have HL5 := hid ((HL4.out.keep ((Below.refl _ _).alloc (Nat.le_refl _) (.cells #[.pointer (some ⟨rb, 0, none⟩)] 63))).grown (HR4.out.alloc _) hgr (by decide))
        have HM5 := hid (show (∀ b ∈ M ++ [rb], NewR w5 b ∧ w.heap.size ≤ b) from fun b hb => ⟨((HM4.out b hb).1.alloc (.cells #[.pointer (some ⟨rb, 0, none⟩)] 63)).grown hgr (own_ne_blk HR4.out (HM4.out b hb).1 (by decide)), (HM4.out b hb).2⟩)
        have HB5 := hid (below_push HB4.out HR4.out hgr hz4 (Nat.le_refl _))
        obtain ⟨R5, c5, rfl⟩ := own_form hown5
        clear hown5 hgr hz4
        go_wp2
        go_roundg (gk - 1)
        case measure => have := HD.out; have := HLT.out; omega
        case rel =>
          refine ⟨d + 1, by have := HD.out; have := HLT.out; omega, by go_num, hid ?_, HB5⟩
          first | rw [HLQ.out] | skip
          refine ⟨L ++ [(cb, mb)], M ++ [rb], ?_, ?_, HL5.out, HM5.out, HMN.out⟩
          · rw [List.map_append]
            exact (by rw [List.map_cons, List.map_nil, ptrs_snoc]; exact HA5.out)
          · rw [ptrs_snoc]; exact HR5.out
      · have g1 : decide (d < 3) = false := decide_eq_false h3
        have g2 : decide ((d : Int) < 3) = false := decide_eq_false (by omega)
        have hlim : d + 0 = d := rfl
        have hlim2 : d + 1 = d + 1 := rfl
        obtain ⟨A, ca, R, cr, hva, hvr⟩ := HC.out.form
        obtain ⟨L, M, hA, hR, hL, hM, hMn⟩ := HC.out
        first | rw [hlim] at hva hvr | skip
        subst hva hvr
        first | rw [hlim] at hA hR | skip
        have HLQ := hid hlim2
        have HA := hid hA; have HR := hid hR; have HL := hid hL; have HM := hid (And.intro hM hMn)
        have hdb : d < 5 := HLT.out
        clear hd h3 hlt hA hR hL hM hMn hlim hlim2 HC
        go_wp2_with fail
        refine (HNC.out _).mono ?_; rintro x w2 ⟨cb, mb, rfl, hcp, b2, k1, k2⟩
        have HA2 := hid (own_below HA.out b2)
        have HR2 := hid (own_below HR.out b2)
        have HL2 := hid ((HL.out.keep b2).snoc hcp HB.out.size k1 k2 (fun p hp => (HL.out.cpm p hp).1.lt))
        have HM2 := hid (show (∀ b ∈ M, NewR w2 b ∧ w.heap.size ≤ b) from fun b hb => ⟨(HM.out.1 b hb).1.keep b2, (HM.out.1 b hb).2⟩)
        have HB2 := hid (below_call HB.out b2 HB.out.size)
        have HMS := hid (show ∀ b ∈ M, b < wr.heap.size from fun b hb => (HM.out.1 b hb).1.lt)
        have hz2 := HB2.out.size
        have HS2 := hid b2.size
        clear hcp b2 k1 k2
        go_wp2_with (at_builtin; refine push1P TC w2 #[.pointer (some ⟨cb, 0, none⟩)] w.heap.size _ _ _ HA2.out _ _ w2.heap.size rfl rfl rfl rfl rfl rfl (by simp [Value.oneCell']) (by omega) (by omega) hz2 ?_; intro v1 w3 hown1 hgr)
        have HA3 := hid hown1
        have HR3 := hid (World.ownsRow.kept (HR2.out.alloc (.cells #[.pointer (some ⟨cb, 0, none⟩)] 33)) hgr (own_apart2 HR2.out HA2.out (by decide)))
        have HL3 := hid ((HL2.out.keep ((Below.refl _ _).alloc (Nat.le_refl _) (.cells #[.pointer (some ⟨cb, 0, none⟩)] 33))).grown (HA2.out.alloc _) hgr (by decide))
        have HM3 := hid (show (∀ b ∈ M, NewR w3 b ∧ w.heap.size ≤ b) from fun b hb => ⟨((HM2.out b hb).1.alloc (.cells #[.pointer (some ⟨cb, 0, none⟩)] 33)).grown hgr (own_ne_blk HA2.out (HM2.out b hb).1 (by decide)), (HM2.out b hb).2⟩)
        have HB3 := hid (below_push HB2.out HA2.out hgr hz2 (Nat.le_refl _))
        have HS3 := hid (show w2.heap.size ≤ w3.heap.size from by have := hgr.size; simp at this; omega)
        obtain ⟨A3, c3, rfl⟩ := own_form hown1
        clear hown1 hgr hz2
        go_wp2_with fail
        refine (HNR.out _).mono ?_; rintro x w4 ⟨rb, rfl, hrb, b4, k4⟩
        have HA4 := hid (own_below HA3.out b4)
        have HR4 := hid (own_below HR3.out b4)
        have HL4 := hid (HL3.out.keep b4)
        have HM4 := hid (show (∀ b ∈ M ++ [rb], NewR w4 b ∧ w.heap.size ≤ b) from fun b hb => by
          rcases List.mem_append.1 hb with hb | hb
          · exact ⟨(HM3.out b hb).1.keep b4, (HM3.out b hb).2⟩
          · simp at hb
            subst hb
            exact ⟨hrb, by have := HB3.out.size; omega⟩)
        have HMN := hid (show (M ++ [rb]).Nodup from by
          rw [List.nodup_append]
          refine ⟨HM.out.2, by simp, fun a ha b hb => ?_⟩
          have h1 := HMS.out a ha
          have h2 := HS2.out
          have h3 := HS3.out
          simp at hb
          omega)
        have HB4 := hid (below_call HB3.out b4 HB3.out.size)
        have hz4 := HB4.out.size
        clear hrb b4 k4
        go_wp2_with (at_builtin; refine push1P TR w4 #[.pointer (some ⟨rb, 0, none⟩)] w.heap.size _ _ _ HR4.out _ _ w4.heap.size rfl rfl rfl rfl rfl rfl (by simp [Value.oneCell']) (by omega) (by omega) hz4 ?_; intro v5 w5 hown5 hgr)
        have HR5 := hid hown5
        have HA5 := hid (World.ownsRow.kept (HA4.out.alloc (.cells #[.pointer (some ⟨rb, 0, none⟩)] 63)) hgr (own_apart2 HA4.out HR4.out (by decide)))
        have HL5 := hid ((HL4.out.keep ((Below.refl _ _).alloc (Nat.le_refl _) (.cells #[.pointer (some ⟨rb, 0, none⟩)] 63))).grown (HR4.out.alloc _) hgr (by decide))
        have HM5 := hid (show (∀ b ∈ M ++ [rb], NewR w5 b ∧ w.heap.size ≤ b) from fun b hb => ⟨((HM4.out b hb).1.alloc (.cells #[.pointer (some ⟨rb, 0, none⟩)] 63)).grown hgr (own_ne_blk HR4.out (HM4.out b hb).1 (by decide)), (HM4.out b hb).2⟩)
        have HB5 := hid (below_push HB4.out HR4.out hgr hz4 (Nat.le_refl _))
        obtain ⟨R5, c5, rfl⟩ := own_form hown5
        clear hown5 hgr hz4
        go_wp2
        go_roundg (gk - 1)
        case measure => have := HD.out; have := HLT.out; omega
        case rel =>
          refine ⟨d + 1, by have := HD.out; have := HLT.out; omega, by go_num, hid ?_, HB5⟩
          first | rw [HLQ.out] | skip
          refine ⟨L ++ [(cb, mb)], M ++ [rb], ?_, ?_, HL5.out, HM5.out, HMN.out⟩
          · rw [List.map_append]
            exact (by rw [List.map_cons, List.map_nil, ptrs_snoc]; exact HA5.out)
          · rw [ptrs_snoc]; exact HR5.out
    · obtain rfl : d = 5 := by have := HD.out; omega
      have HC2 := hid (show CopAre wr w.heap.size 5 u4 u5 from HC.out)
      clear hd hlt
      go_wp2
      go_ret2
      exact ⟨u4, u5, rfl, HC2.out, HB.out⟩
theorem copiesF (five : Bool) (w : World) :
    Calls Tryz.prog 5 #[.bool five] w fun x w' => ∃ a r, x = .returned (.tuple #[a, r]) ∧ CopAre w' w.heap.size (if five then 5 else 3) a r ∧ Below w.heap.size w w' := by
  cases five
  · exact copies3 w
  · exact copies5 w
end Go.Proofs.YtkjinamjdjijcaaGreatDoor
