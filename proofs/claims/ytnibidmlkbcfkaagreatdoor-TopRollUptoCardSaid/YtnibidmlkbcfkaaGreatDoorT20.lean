/- Walk of the look for a row (bets' equations). Conditions: rows of fractions in memory of the call's own, their numbers twelfths. -/
import Derived.Test.YtnibidmlkbcfkaaGreatDoorT8
import Derived.BigRegion
namespace Go.Proofs.YtnibidmlkbcfkaaGreatDoor
open Go.RowKit Go.Maps
set_option maxRecDepth 100000 in
set_option maxHeartbeats 1000000 in
theorem colF (g n c j b : Nat) (x : Int) (w : World) (hb : Blk w b 3 #[.int .i64 (j : Nat)]) (hj : j < n) (hx : w.cell? ⟨g, j * 2, none⟩ = some (.int .i64 x)) :
 Calls Tryz.prog 255 #[.slice (some ⟨g, 0, none⟩) n c, .pointer (some ⟨b, 0, none⟩)] w fun e w' => e = .returned (.bool (x != 0)) ∧ w = w' := by
 have b0 := hb.cell 0
 simp only [List.getElem?_toArray, List.getElem?_cons_zero] at b0
 clear hb
 go_enter Tryz.func255, Tryz.ntmps255
 go_wp2
 go_ret
 exact ⟨rfl, rfl⟩
/-- What the look for a row says. -/
def pivI (f : Mx) (m j : Nat) : Int := match pivF f m j with
 | none => -1
 | some p => (p : Int) - j
set_option maxRecDepth 100000 in
set_option maxHeartbeats 1000000 in
theorem eqIdx (B h mc m k : Nat) (gs cs : Nat → Nat) (f : Mx) (j b : Nat) (lb : Array Value) (w : World) (hlb : lb = #[.pointer (some ⟨b, 0, none⟩)]) (H : MatR w B h mc m k gs cs f) (hb : Blk w b 3 #[.int .i64 (j : Nat)]) (hj : j < m) (hjk : j ≤ k) (hm : m ≤ 1000) (hbd : ∀ i, i < m → rg (f i j)) :
 Calls Tryz.prog 254 #[.slice (some ⟨h, j, none⟩) (m - j) (mc - j), .func (.func 255) #[] lb] w fun e w' => e = .returned (.int .i64 (pivI f m j)) ∧ w = w' := by
 subst hlb
 have he : ∀ args W, (callFunc 255 args).run Tryz.prog W = .ok (.enter 255 args) W := fun args W => enters Tryz.func255 (by kernel_rfl) rfl args W
 have HF := hid fun i (hi : i < m) => colF (gs i) (k + 1) (cs i) j b (tw (f i j)).1 w hb (by omega) (H.at hi hjk).1
 have HH := hid fun i (hi : i < m) => H.hat hi
 have HB := hid hbd
 clear H hb hbd
 have hmj : ((m - j : Nat) : Int) = (m : Int) - j := by omega
 go_enter Tryz.func254, Tryz.ntmps254
 go_wp2
 go_loopg [8] (m - j) (fun gk i wr => ∃ d : Nat, gk + d = m - j ∧ i = .int .i64 d ∧ Hid (∀ i, j ≤ i → i < j + d → f i j = 0) ∧ w = wr)
 case atStart => exact ⟨0, by omega, rfl, hid fun i h1 h2 => by omega, rfl⟩
 case round =>
  obtain ⟨d, hd, rfl, HN, hw⟩ := hrel
  subst hw
  have HD := hid hd
  by_cases hlt : d < m - j
  · have HLT := hid hlt
    have hc := HH.out (j + d) (by omega)
    have hcl := HF.out (j + d) (by omega)
    have HC := hid hcl
    have HZ := hid (tw_zero (HB.out (j + d) (by omega)))
    clear hcl hd
    by_cases hz : f (j + d) j = 0
    · have hz0 : ((tw (f (j + d) j)).1 != 0) = false := by rw [HZ.out.2 hz]; rfl
      rw [hz0] at HC
      have HX := hid hz
      clear hz hz0
      go_wp2_with (refine (HC.out).mono ?_; rintro e w1 ⟨rfl, rfl⟩)
      go_roundg (gk - 1)
      case measure => have := HD.out; have := HLT.out; omega
      case rel =>
       refine ⟨d + 1, by have := HD.out; have := HLT.out; omega, by go_num, hid fun i h1 h2 => ?_, rfl⟩
       by_cases e : i = j + d
       · subst e; exact HX.out
       · exact HN.out i h1 (by omega)
    · have hz0 : ((tw (f (j + d) j)).1 != 0) = true := by simpa using fun e => hz (HZ.out.1 e)
      rw [hz0] at HC
      have HX := hid hz
      clear hz hz0
      go_wp2_with (refine (HC.out).mono ?_; rintro e w1 ⟨rfl, rfl⟩)
      go_ret
      have hp : pivF f m j = some (j + d) := pivF_of (by omega) (by have := HLT.out; omega) HX.out HN.out
      exact ⟨ret_i (by unfold pivI; rw [hp]; simp only; omega), rfl⟩
  · obtain rfl : d = m - j := by have := HD.out; omega
    have hp : pivF f m j = none := by
     cases hp : pivF f m j with
     | none => rfl
     | some p =>
      obtain ⟨a1, a2, a3, _⟩ := pivF_some hp
      exact absurd (HN.out p a1 (by omega)) a3
    have HP := hid hp
    clear hd hlt hp
    go_wp2
    go_ret
    exact ⟨ret_i (by unfold pivI; rw [HP.out]), rfl⟩
theorem flat_range (h : Nat → Int) (d : Nat) : flat (((List.range (d + 1)).map h).map tw) = flat (((List.range d).map h).map tw) ++ [.int .i64 (tw (h d)).1, .int .i64 (tw (h d)).2] := by
 rw [List.range_succ, List.map_append, List.map_append]
 unfold flat
 rw [List.flatMap_append]
 rfl
/-- What solve hands back. -/
def SolR (B m k : Nat) (f : Mx) (w : World) (e : Ending) (w' : World) : Prop := (match solveF m k f with
 | none => e = .returned (.tuple #[.slice none 0 0, .bool false])
 | some xs => ∃ A c, e = .returned (.tuple #[.slice A k c, .bool true]) ∧ w'.ownsRow w.heap.size 48 2 (.slice A k c) k (flat (xs.map tw))) ∧ Chs (B ≤ ·) w w'
set_option maxRecDepth 100000 in
set_option maxHeartbeats 8000000 in
theorem solveS (B h mc m k : Nat) (gs cs : Nat → Nat) (f : Mx) (w : World) (H : MatR w B h mc m k gs cs f) (hm : 2 ≤ m) (hm2 : m ≤ 10) (hk : 1 ≤ k) (hk3 : k ≤ 3) (hI : EqI m k 0 f) (hB : B ≤ w.heap.size) :
 Calls Tryz.prog 239 #[.slice (some ⟨h, 0, none⟩) m mc, .int .i64 (k : Nat)] w (SolR B m k f w) := by
 have HM := hid H
 have HI := hid hI
 have hmc := (own_cap H.hd).1
 have HB := hid hB
 clear H hI hB
 go_enter Tryz.func239, Tryz.ntmps239
 go_wp2
 go_loopg [4, 6, 19] k (fun gk v4 a i wr => ∃ (j : Nat) (g : Mx) (gs cs : Nat → Nat), gk + j = k ∧ v4 = .slice none 0 0 ∧ a = .int .i64 j ∧ i = .int .i64 j ∧ Hid (MatR wr B h mc m k gs cs g) ∧ Hid (EqI m k j g) ∧ Hid (solveGo m k (k - j) j g = solveGo m k k 0 f) ∧ Hid (j ≤ m ∧ (j < k → j < m)) ∧ Hid (Chs (B ≤ ·) w wr))
 case atStart => exact ⟨0, f, gs, cs, by omega, rfl, rfl, rfl, HM, HI, hid rfl, hid ⟨by omega, fun _ => by omega⟩, hid (Chs.refl _ _)⟩
 case round =>
  clear HM HI
  obtain ⟨j, g, gs, cs, hj, rfl, rfl, rfl, HM, HI, HS, HJM, HC⟩ := hrel
  obtain ⟨gj, rfl⟩ : ∃ x, x = gk := ⟨gk, rfl⟩
  have HJ := hid hj
  by_cases hlt : j < k
  · have HLT := hid hlt
    have hjm := HJM.out.2 hlt
    have HJ2 := hid hjm
    have HBX := hid (Blk.new wr 3 #[.int .i64 (j : Nat)])
    have HB1 := hid ((Below.refl wr.heap.size wr).alloc (Nat.le_refl _) (.cells #[.int .i64 (j : Nat)] 3))
    have HM1 := hid (HM.out.below HB1.out)
    have HRG := hid fun (i c : Nat) (hi : i < m) (hc : c ≤ k) => HI.out.bd (by omega) i c hi hc
    have HIX := hid (eqIdx B h mc m k gs cs g j wr.heap.size _ _ rfl HM1.out HBX.out hjm (by omega) (by omega) (fun i hi => by have := HRG.out i j hi (by omega); unfold rg; omega))
    clear hj
    go_wp2_with fail
    refine (HIX.out).mono ?_; rintro e W1 ⟨rfl, rfl⟩
    have HC1 := hid (HC.out.trans (Chs.of_below (S := (B ≤ ·)) HB1.out))
    have HL1 := hid (show wr.heap.size < (wr.alloc (.cells #[.int .i64 (j : Nat)] 3)).heap.size from HBX.out.lt)
    clear HIX HB1
    generalize wr.alloc (.cells #[.int .i64 (j : Nat)] 3) = W1 at *
    generalize wr.heap.size = b7 at *
    unfold pivI
    cases hp : pivF g m j with
    | none =>
     have HN := hid (show solveF m k f = none from by
      unfold solveF
      rw [← HS.out, show k - j = (k - j - 1) + 1 by have := HLT.out; omega, solveGo, hp])
     clear hp
     go_wp2
     go_ret2
     unfold SolR
     rw [HN.out]
     exact ⟨rfl, HC1.out⟩
    | some p =>
     obtain ⟨a1, a2, a3, a4⟩ := pivF_some hp
     obtain ⟨dp, rfl⟩ : ∃ d, p = j + d := ⟨p - j, by omega⟩
     have HST := hid (HI.out.step hlt hk3 hp)
     have HSN := hid (show solveGo m k (k - j) j g = if j + 1 = m ∧ j + 1 < k then none else solveGo m k (k - (j + 1)) (j + 1) (elimF g j (j + dp)) from by
      rw [show k - j = (k - (j + 1)) + 1 by have := HLT.out; omega, solveGo, hp])
     have hd2 : j + dp < m := a2
     have e1 : IntKind.i64.wrap ((j : Int) + (dp : Int)) = (j : Int) + dp := Go.IntWalk.i64_in _ (by omega)
     have e2 : ((j : Int) + (dp : Int)).toNat = j + dp := by omega
     have e3 : ((j + dp : Nat) : Int) - (j : Int) = (dp : Int) := by omega
     simp only
     rw [e3]
     have c1 := HM1.out.hat hjm
     have c2 := HM1.out.hat hd2
     have f1 := HM1.out.hfree j
     have f2 := HM1.out.hfree (j + dp)
     have d1 : (j : Int) + (dp : Int) < (m : Int) := by omega
     have d0 : (0 : Int) ≤ (j : Int) + (dp : Int) := by omega
     have HNE := hid (show ¬ b7 = h from fun e => blk_ne_own HBX.out HM1.out.hd (by decide) (by rw [e]; rfl))
     have HCO := hid HI.out.c
     clear hp a1 a2 a3 a4 e3 HI
     go_wp2_with fail
     go_cut [0] from 29 to 46 (fun t wx => t = .slice (some ⟨h, 0, none⟩) m mc ∧ Hid (MatR wx B h mc m k (swG gs j (j + dp)) (swG cs j (j + dp)) (swapF g j (j + dp))) ∧ Hid (Blk wx b7 3 #[.int .i64 (j : Nat)]) ∧ Hid (Chs (B ≤ ·) w wx) ∧ Hid (b7 < wx.heap.size))
     case first =>
      refine wp_region_held_drew (S := (fun _ => True)) (by kernel_rfl) (by (try dsimp only); (first | done | exact True.intro)) (fun hHeld => ?_)
      refine tk ?_ 0 (some 29) rfl rfl ?_ ?_; rotate_left; · (intro w hSw; (try dsimp only at hSw); go_simp <;> with_reducible rfl)
      try simp only [Act.put,qA,qB,qC]
      refine tk ?_ 1 (some 30) rfl rfl ?_ ?_; rotate_left; · (intro w hSw; (try dsimp only at hSw); go_simp <;> with_reducible rfl)
      try simp only [Act.put,qA,qB,qC]
      refine tk ?_ 2 (some 31) rfl rfl ?_ ?_; rotate_left; · (intro w hSw; (try dsimp only at hSw); go_simp <;> with_reducible rfl)
      try simp only [Act.put,qA,qB,qC]
      refine tk ?_ 3 (some 32) rfl rfl ?_ ?_; rotate_left; · (intro w hSw; (try dsimp only at hSw); go_simp <;> with_reducible rfl)
      try simp only [Act.put,qA,qB,qC]
      refine tk ?_ 4 (some 33) rfl rfl ?_ ?_; rotate_left; · (intro w hSw; (try dsimp only at hSw); go_simp <;> with_reducible rfl)
      try simp only [Act.put,qA,qB,qC]
      refine tk ?_ 5 (some 34) rfl rfl ?_ ?_; rotate_left; · (intro w hSw; (try dsimp only at hSw); go_simp <;> with_reducible rfl)
      try simp only [Act.put,qA,qB,qC]
      refine tk ?_ 6 (some 35) rfl rfl ?_ ?_; rotate_left; · (intro w hSw; (try dsimp only at hSw); go_simp <;> with_reducible rfl)
      try simp only [Act.put,qA,qB,qC]
      refine tk ?_ 7 (some 36) rfl rfl ?_ ?_; rotate_left; · (intro w hSw; (try dsimp only at hSw); go_simp <;> with_reducible rfl)
      try simp only [Act.put,qA,qB,qC]
      refine tk ?_ 8 (some 37) rfl rfl ?_ ?_; rotate_left; · (intro w hSw; (try dsimp only at hSw); go_simp <;> with_reducible rfl)
      try simp only [Act.put,qA,qB,qC]
      refine tk ?_ 9 (some 38) rfl rfl ?_ ?_; rotate_left; · (intro w hSw; (try dsimp only at hSw); go_simp <;> with_reducible rfl)
      try simp only [Act.put,qA,qB,qC]
      refine tk ?_ 10 (some 39) rfl rfl ?_ ?_; rotate_left; · (intro w hSw; (try dsimp only at hSw); go_simp <;> with_reducible rfl)
      try simp only [Act.put,qA,qB,qC]
      refine tk ?_ 12 (some 41) rfl rfl ?_ ?_; rotate_left; · (intro w hSw; (try dsimp only at hSw); go_simp <;> with_reducible rfl)
      try simp only [Act.put,qA,qB,qC]
      refine tk ?_ 13 (some 42) rfl rfl ?_ ?_; rotate_left; · (intro w hSw; (try dsimp only at hSw); go_simp <;> with_reducible rfl)
      try simp only [Act.put,qA,qB,qC]
      refine tk ?_ 14 (some 43) rfl rfl ?_ ?_; rotate_left; · (intro w hSw; (try dsimp only at hSw); go_simp <;> with_reducible rfl)
      try simp only [Act.put,qA,qB,qC]
      refine wpAnyH_ready (rs := [11, 15]) (by kernel_rfl) (by simp) ?_
      refine AllReadyH.cons rfl (fun K hK => ?_) (AllReadyH.cons rfl (fun K hK => ?_) (AllReadyH.nil))
      · go_simp
        refine hK.out _ _ ?_ (fun hHeld => ?_); · ((try dsimp only); (first | done | exact True.intro))
        clear hK K
        try simp only [Act.put,qA,qB,qC]
        refine st 15 rfl fun K hK => ?_
        go_simp
        refine hK.out _ _ ?_ (fun hHeld => ?_); · ((try dsimp only); (first | done | exact True.intro))
        clear hK K
        try simp only [Act.put,qA,qB,qC]
        refine tk ?_ 16 (some 45) rfl rfl ?_ ?_; rotate_left; · (intro w hSw; (try dsimp only at hSw); go_simp <;> with_reducible rfl)
        try simp only [Act.put,qA,qB,qC]
        refine st 17 rfl fun K hK => ?_
        go_simp
        obtain ⟨u2, s2, f3⟩ := HM1.out.again hjm hd2 (.slice (some ⟨gs (j + dp), 0, none⟩) (k + 1) (cs (j + dp)))
        refine hK.out _ _ ?_ (fun hHeld => ?_); · ((try dsimp only); (first | done | exact True.intro))
        clear hK K
        try simp only [Act.put,qA,qB,qC]
        refine tk ?_ 18 (some 46) rfl rfl ?_ ?_; rotate_left; · (intro w hSw; (try dsimp only at hSw); go_simp <;> with_reducible rfl)
        try simp only [Act.put,qA,qB,qC]
        refine st 19 rfl fun K hK => ?_
        go_simp
        refine hK.out _ _ ?_ (fun hHeld => ?_); · ((try dsimp only); (first | done | exact True.intro))
        clear hK K
        try simp only [Act.put,qA,qB,qC]
        refine wpAnyH_done (by kernel_rfl) ?_ _
        have HM3 := hid (HM1.out.swap hjm hd2).drew
        have HC3 := hid ((HC1.out.trans (HM1.out.swapChs j (j + dp) (.slice (some ⟨gs (j + dp), 0, none⟩) (k + 1) (cs (j + dp))) (.slice (some ⟨gs j, 0, none⟩) (k + 1) (cs j)))).trans (Chs.of_below (S := (B ≤ ·)) (Below.refl _ _).drew))
        have HX3 := hid ((HBX.out.far (p := ⟨h, j, none⟩) HNE.out (.slice (some ⟨gs (j + dp), 0, none⟩) (k + 1) (cs (j + dp)))).far (p := ⟨h, j + dp, none⟩) HNE.out (.slice (some ⟨gs j, 0, none⟩) (k + 1) (cs j))).drew
        go_wp2_with fail
        go_meet
        case rel => exact ⟨rfl, HM3, HX3, HC3, hid (by have := HL1.out; simpa using this)⟩
      · go_simp
        refine hK.out _ _ ?_ (fun hHeld => ?_); · ((try dsimp only); (first | done | exact True.intro))
        clear hK K
        try simp only [Act.put,qA,qB,qC]
        refine st 11 rfl fun K hK => ?_
        go_simp
        refine hK.out _ _ ?_ (fun hHeld => ?_); · ((try dsimp only); (first | done | exact True.intro))
        clear hK K
        try simp only [Act.put,qA,qB,qC]
        refine tk ?_ 16 (some 45) rfl rfl ?_ ?_; rotate_left; · (intro w hSw; (try dsimp only at hSw); go_simp <;> with_reducible rfl)
        try simp only [Act.put,qA,qB,qC]
        refine st 17 rfl fun K hK => ?_
        go_simp
        obtain ⟨u2, s2, f3⟩ := HM1.out.again hjm hd2 (.slice (some ⟨gs (j + dp), 0, none⟩) (k + 1) (cs (j + dp)))
        refine hK.out _ _ ?_ (fun hHeld => ?_); · ((try dsimp only); (first | done | exact True.intro))
        clear hK K
        try simp only [Act.put,qA,qB,qC]
        refine tk ?_ 18 (some 46) rfl rfl ?_ ?_; rotate_left; · (intro w hSw; (try dsimp only at hSw); go_simp <;> with_reducible rfl)
        try simp only [Act.put,qA,qB,qC]
        refine st 19 rfl fun K hK => ?_
        go_simp
        refine hK.out _ _ ?_ (fun hHeld => ?_); · ((try dsimp only); (first | done | exact True.intro))
        clear hK K
        try simp only [Act.put,qA,qB,qC]
        refine wpAnyH_done (by kernel_rfl) ?_ _
        have HM3 := hid (HM1.out.swap hjm hd2).drew
        have HC3 := hid ((HC1.out.trans (HM1.out.swapChs j (j + dp) (.slice (some ⟨gs (j + dp), 0, none⟩) (k + 1) (cs (j + dp))) (.slice (some ⟨gs j, 0, none⟩) (k + 1) (cs j)))).trans (Chs.of_below (S := (B ≤ ·)) (Below.refl _ _).drew))
        have HX3 := hid ((HBX.out.far (p := ⟨h, j, none⟩) HNE.out (.slice (some ⟨gs (j + dp), 0, none⟩) (k + 1) (cs (j + dp)))).far (p := ⟨h, j + dp, none⟩) HNE.out (.slice (some ⟨gs j, 0, none⟩) (k + 1) (cs j))).drew
        go_wp2_with fail
        go_meet
        case rel => exact ⟨rfl, HM3, HX3, HC3, hid (by have := HL1.out; simpa using this)⟩
     case rest =>
      obtain ⟨rfl, HM, HBX, HC, HL⟩ := hcut
      have HR1 := hid (show ∀ i c, i < m → c ≤ k → -48 ≤ swapF g j (j + dp) i c ∧ swapF g j (j + dp) i c ≤ 48 from fun i c hi hc => by
       unfold swapF
       split
       · exact HRG.out _ c hd2 hc
       · split
         · exact HRG.out _ c hjm hc
         · exact HRG.out _ c hi hc)
      have HCF := hid (show ∀ i, i < m → swapF g j (j + dp) i j = 0 ∨ swapF g j (j + dp) i j = 12 ∨ swapF g j (j + dp) i j = -12 from fun i hi => by
       unfold swapF
       split
       · exact HCO.out _ j hd2 HLT.out
       · split
         · exact HCO.out _ j hjm HLT.out
         · exact HCO.out _ j hi HLT.out)
      clear HCO
      have HBY := hid (show swapF g j (j + dp) j j = 12 ∨ swapF g j (j + dp) j j = -12 from by
       have h1 := HST.out.1
       unfold swapF
       rw [if_pos rfl]
       exact h1)
      have HEL := hid (show elimF g j (j + dp) = subF (divF (swapF g j (j + dp)) j) j from rfl)
      clear HM1 HC1 HL1 c1 c2 f1 f2 d0 d1 e1 e2 HNE HRG
      have HB7N := hid (show ∀ i, i < m → swG gs j (j + dp) i ≠ b7 from fun i hi e => blk_ne_own HBX.out (HM.out.row i hi) (by decide) (by rw [← e]; rfl))
      generalize swapF g j (j + dp) = g1 at *
      generalize swG gs j (j + dp) = gs1 at *
      generalize swG cs j (j + dp) = cs1 at *
      have hk1 : (j : Int) < ((k + 1 : Nat) : Int) := by have := HLT.out; omega
      have hk2 : (j : Int) < (k : Int) + 1 := by have := HLT.out; omega
      have j0 : (0 : Int) ≤ (j : Int) := by omega
      have j1 : (j : Int) < (m : Int) := by omega
      have hS := fun (X : World) (h1 : MatR X B h mc m k gs1 cs1 g1) (h2 : Blk X b7 3 #[.int .i64 (j : Nat)]) => show X.cell? ⟨h, j, none⟩ = some (.slice (some ⟨gs1 j, 0, none⟩) (k + 1) (cs1 j)) ∧ X.cell? ⟨gs1 j, j * 2, none⟩ = some (.int .i64 (tw (g1 j j)).1) ∧ X.cell? ⟨gs1 j, j * 2 + 1, none⟩ = some (.int .i64 (tw (g1 j j)).2) ∧ X.cell? ⟨b7, 0, none⟩ = some (.int .i64 (j : Nat)) from
       ⟨h1.hat hjm, (h1.at hjm (show j ≤ k by have := HLT.out; omega)).1, (h1.at hjm (show j ≤ k by have := HLT.out; omega)).2, h2.cell 0⟩
      have HHS := hid hS
      clear hS
      go_wp2_with fail
      go_cut [9] from 47 to 53 (fun t wx => ∃ b9, t = .pointer (some ⟨b9, 0, none⟩) ∧ Hid (MatR wx B h mc m k gs1 cs1 g1) ∧ Hid (Blk wx b7 3 #[.int .i64 (j : Nat)]) ∧ Hid (Chs (B ≤ ·) w wx) ∧ Hid (Blk wx b9 48 #[.int .i64 (tw (g1 j j)).1, .int .i64 (tw (g1 j j)).2]) ∧ Hid (∀ i, i < m → gs1 i ≠ b9))
      case first =>
       refine wp_region_held_drew (S := (fun X => X.cell? ⟨h, j, none⟩ = some (.slice (some ⟨gs1 j, 0, none⟩) (k + 1) (cs1 j)) ∧ X.cell? ⟨gs1 j, j * 2, none⟩ = some (.int .i64 (tw (g1 j j)).1) ∧ X.cell? ⟨gs1 j, j * 2 + 1, none⟩ = some (.int .i64 (tw (g1 j j)).2) ∧ X.cell? ⟨b7, 0, none⟩ = some (.int .i64 (j : Nat)))) (by kernel_rfl) (by (try dsimp only); (first | exact HHS.out _ HM.out.drew HBX.out.drew | exact HHS.out _ HM.out HBX.out | exact HHS.out _ HMa.out HBXa.out | exact HHS.out _ HMb.out HBXb.out)) (fun hHeld => ?_)
       have HM := hid HM.out.drew
       have HBX := hid HBX.out.drew
       have HC := hid (HC.out.trans (Chs.of_below (S := (B ≤ ·)) (Below.refl _ wc).drew))
       generalize wc.drew = X at *
       refine tk ?_ 0 (some 47) rfl rfl ?_ ?_; rotate_left; · (intro w hSw; (try dsimp only at hSw); go_simp <;> with_reducible rfl)
       try simp only [Act.put,qA,qB,qC]
       refine tk ?_ 1 (some 48) rfl rfl ?_ ?_; rotate_left; · (intro w hSw; (try dsimp only at hSw); go_simp <;> with_reducible rfl)
       try simp only [Act.put,qA,qB,qC]
       refine tk ?_ 2 (some 49) rfl rfl ?_ ?_; rotate_left; · (intro w hSw; (try dsimp only at hSw); go_simp <;> with_reducible rfl)
       try simp only [Act.put,qA,qB,qC]
       refine tk ?_ 3 (some 50) rfl rfl ?_ ?_; rotate_left; · (intro w hSw; (try dsimp only at hSw); go_simp <;> with_reducible rfl)
       try simp only [Act.put,qA,qB,qC]
       refine tk ?_ 4 (some 51) rfl rfl ?_ ?_; rotate_left; · (intro w hSw; (try dsimp only at hSw); go_simp <;> with_reducible rfl)
       try simp only [Act.put,qA,qB,qC]
       refine tk ?_ 5 (some 52) rfl rfl ?_ ?_; rotate_left; · (intro w hSw; (try dsimp only at hSw); go_simp <;> with_reducible rfl)
       try simp only [Act.put,qA,qB,qC]
       refine tk ?_ 6 (some 53) rfl rfl ?_ ?_; rotate_left; · (intro w hSw; (try dsimp only at hSw); go_simp <;> with_reducible rfl)
       try simp only [Act.put,qA,qB,qC]
       refine st 7 rfl fun K hK => ?_
       go_simp
       have HMa := hid (HM.out.below ((Below.refl X.heap.size X).alloc (Nat.le_refl _) (.cells #[.int .i64 0, .int .i64 0] 48)))
       have HBXa := hid (HBX.out.keep ((Below.refl X.heap.size X).alloc (Nat.le_refl _) (.cells #[.int .i64 0, .int .i64 0] 48)))
       refine hK.out _ _ ?_ (fun hHeld => ?_); · ((try dsimp only); (first | exact HHS.out _ HM.out.drew HBX.out.drew | exact HHS.out _ HM.out HBX.out | exact HHS.out _ HMa.out HBXa.out | exact HHS.out _ HMb.out HBXb.out))
       clear hK K
       try simp only [Act.put,qA,qB,qC]
       refine st 8 rfl fun K hK => ?_
       go_simp
       have bb := (Below.refl X.heap.size X).alloc (Nat.le_refl _) (.cells #[.int .i64 (tw (g1 j j)).1, .int .i64 (tw (g1 j j)).2] 48)
       have HNG := hid (show ∀ i, i < m → gs1 i ≠ X.heap.size from fun i hi => by have := (HM.out.rlt hi).2; omega)
       have HMb := hid (HM.out.below bb)
       have HBXb := hid (HBX.out.keep bb)
       have HCb := hid (HC.out.trans (Chs.of_below (S := (B ≤ ·)) bb))
       have HB9 := hid (Blk.new X 48 #[.int .i64 (tw (g1 j j)).1, .int .i64 (tw (g1 j j)).2])
       clear bb
       refine hK.out _ _ ?_ (fun hHeld => ?_); · ((try dsimp only); (first | exact HHS.out _ HM.out.drew HBX.out.drew | exact HHS.out _ HM.out HBX.out | exact HHS.out _ HMa.out HBXa.out | exact HHS.out _ HMb.out HBXb.out))
       clear hK K
       try simp only [Act.put,qA,qB,qC]
       refine wpAnyH_done (by kernel_rfl) ?_ _
       go_wp2_with fail
       go_meet
       case rel => exact ⟨X.heap.size, rfl, HMb, HBXb, HCb, HB9, HNG⟩
      case rest =>
       clear HM HBX HC HHS HL
       obtain ⟨b9, rfl, HM, HBX, HC, HB9, HNG⟩ := hcut
       have c1 := HM.out.hat hjm
       go_wp2_with fail
       go_loopg [59] (k + 1) (fun gk c wr => ∃ d : Nat, gk + d = k + 1 ∧ c = .int .i64 d ∧ Hid (MatR wr B h mc m k gs1 cs1 (mixC g1 j d)) ∧ Hid (Blk wr b7 3 #[.int .i64 (j : Nat)]) ∧ Hid (Blk wr b9 48 #[.int .i64 (tw (g1 j j)).1, .int .i64 (tw (g1 j j)).2]) ∧ Hid (Chs (B ≤ ·) w wr))
       case atStart => exact ⟨0, by omega, rfl, hid (by rw [mixC_zero]; exact HM.out), HBX, HB9, HC⟩
       case round =>
        clear HM HBX HB9 HC c1
        obtain ⟨d, hd, rfl, HM, HBX, HB9, HC⟩ := hrel
        have HD := hid hd
        by_cases hld : d < k + 1
        · have HLD := hid hld
          have hdk : d ≤ k := by omega
          have HOV := hid fun W => over_tw (g1 j j) (g1 j d) HBY.out (by have := HR1.out j d hjm hdk; unfold rg; omega) W
          unfold frV at HOV
          have hS := fun (X : World) (h1 : MatR X B h mc m k gs1 cs1 (mixC g1 j d)) (h2 : Blk X b9 48 #[.int .i64 (tw (g1 j j)).1, .int .i64 (tw (g1 j j)).2]) => show X.cell? ⟨h, j, none⟩ = some (.slice (some ⟨gs1 j, 0, none⟩) (k + 1) (cs1 j)) ∧ X.cell? ⟨b9, 0, none⟩ = some (.int .i64 (tw (g1 j j)).1) ∧ X.cell? ⟨b9, 1, none⟩ = some (.int .i64 (tw (g1 j j)).2) from
           ⟨h1.hat hjm, h2.cell 0, h2.cell 1⟩
          have HHS := hid hS
          have hd1 : (d : Int) < ((k + 1 : Nat) : Int) := by omega
          have hd2 : (d : Int) < (k : Int) + 1 := by omega
          clear hd hS
          go_wp2_with fail
          refine wp_region_held_drew (S := (fun X => X.cell? ⟨h, j, none⟩ = some (.slice (some ⟨gs1 j, 0, none⟩) (k + 1) (cs1 j)) ∧ X.cell? ⟨b9, 0, none⟩ = some (.int .i64 (tw (g1 j j)).1) ∧ X.cell? ⟨b9, 1, none⟩ = some (.int .i64 (tw (g1 j j)).2))) (by kernel_rfl) (by (try dsimp only); (first | exact HHS.out _ HM.out HB9.out | exact HHS.out _ HM.out.drew HB9.out.drew | exact HE.out)) (fun hHeld => ?_)
          have HM := hid HM.out.drew
          have HBX := hid HBX.out.drew
          have HB9 := hid HB9.out.drew
          have HC := hid (HC.out.trans (Chs.of_below (S := (B ≤ ·)) (Below.refl _ wr).drew))
          generalize wr.drew = X at *
          refine tk ?_ 0 (some 62) rfl rfl ?_ ?_; rotate_left; · (intro w hSw; (try dsimp only at hSw); go_simp <;> with_reducible rfl)
          try simp only [Act.put,qA,qB,qC]
          refine tk ?_ 1 (some 63) rfl rfl ?_ ?_; rotate_left; · (intro w hSw; (try dsimp only at hSw); go_simp <;> with_reducible rfl)
          try simp only [Act.put,qA,qB,qC]
          refine tk ?_ 2 (some 64) rfl rfl ?_ ?_; rotate_left; · (intro w hSw; (try dsimp only at hSw); go_simp <;> with_reducible rfl)
          try simp only [Act.put,qA,qB,qC]
          refine tk ?_ 3 (some 65) rfl rfl ?_ ?_; rotate_left; · (intro w hSw; (try dsimp only at hSw); go_simp <;> with_reducible rfl)
          try simp only [Act.put,qA,qB,qC]
          refine tk ?_ 4 (some 66) rfl rfl ?_ ?_; rotate_left; · (intro w hSw; (try dsimp only at hSw); go_simp <;> with_reducible rfl)
          try simp only [Act.put,qA,qB,qC]
          refine tk ?_ 5 (some 67) rfl rfl ?_ ?_; rotate_left; · (intro w hSw; (try dsimp only at hSw); go_simp <;> with_reducible rfl)
          try simp only [Act.put,qA,qB,qC]
          refine tk ?_ 6 (some 68) rfl rfl ?_ ?_; rotate_left; · (intro w hSw; (try dsimp only at hSw); go_simp <;> with_reducible rfl)
          try simp only [Act.put,qA,qB,qC]
          refine tk ?_ 7 (some 69) rfl rfl ?_ ?_; rotate_left; · (intro w hSw; (try dsimp only at hSw); go_simp <;> with_reducible rfl)
          try simp only [Act.put,qA,qB,qC]
          refine tk ?_ 8 (some 70) rfl rfl ?_ ?_; rotate_left; · (intro w hSw; (try dsimp only at hSw); go_simp <;> with_reducible rfl)
          try simp only [Act.put,qA,qB,qC]
          refine tk ?_ 9 (some 71) rfl rfl ?_ ?_; rotate_left; · (intro w hSw; (try dsimp only at hSw); go_simp <;> with_reducible rfl)
          try simp only [Act.put,qA,qB,qC]
          refine tk ?_ 10 (some 72) rfl rfl ?_ ?_; rotate_left; · (intro w hSw; (try dsimp only at hSw); go_simp <;> with_reducible rfl)
          try simp only [Act.put,qA,qB,qC]
          refine tk ?_ 12 (some 74) rfl rfl ?_ ?_; rotate_left; · (intro w hSw; (try dsimp only at hSw); go_simp <;> with_reducible rfl)
          try simp only [Act.put,qA,qB,qC]
          refine st 11 rfl fun K hK => ?_
          have k1 := HM.out.at hjm hdk
          rw [mixC_at] at k1
          have k2 := k1.2
          have k1 := k1.1
          go_simp
          clear k1 k2
          refine hK.out _ _ ?_ (fun hHeld => ?_); · ((try dsimp only); (first | exact HHS.out _ HM.out HB9.out | exact HHS.out _ HM.out.drew HB9.out.drew | exact HE.out))
          clear hK K
          try simp only [Act.put,qA,qB,qC]
          refine st 13 rfl fun K hK => ?_
          go_simp
          refine (HOV.out _).mono ?_; rintro e X1 ⟨rfl, bb⟩
          have HM := hid (HM.out.below bb)
          have HBX := hid (HBX.out.keep bb)
          have HB9 := hid (HB9.out.keep bb)
          have HC := hid (HC.out.trans (Chs.of_below (S := (B ≤ ·)) bb))
          clear bb hHeld
          obtain ⟨X, rfl⟩ : ∃ Y, Y = X1 := ⟨X1, rfl⟩
          refine hK.out _ _ ?_ (fun hHeld => ?_); · ((try dsimp only); (first | exact HHS.out _ HM.out HB9.out | exact HHS.out _ HM.out.drew HB9.out.drew | exact HE.out))
          clear hK K
          try simp only [Act.put,qA,qB,qC]
          refine tk ?_ 14 (some 76) rfl rfl ?_ ?_; rotate_left; · (intro w hSw; (try dsimp only at hSw); go_simp <;> with_reducible rfl)
          try simp only [Act.put,qA,qB,qC]
          refine st 15 rfl fun K hK => ?_
          have k1 := HM.out.at hjm hdk
          have k2 := k1.2
          have k1 := k1.1
          have f1 := HM.out.free hjm (d * 2)
          have f2 := HM.out.free hjm (d * 2 + 1)
          go_simp
          have HM2 := hid (HM.out.set hjm hdk (sg (g1 j j) (g1 j d)))
          have HBX2 := hid ((HBX.out.far (p := ⟨gs1 j, d * 2, none⟩) (fun e => HB7N.out j hjm e.symm) (.int .i64 (tw (sg (g1 j j) (g1 j d))).1)).far (p := ⟨gs1 j, d * 2 + 1, none⟩) (fun e => HB7N.out j hjm e.symm) (.int .i64 (tw (sg (g1 j j) (g1 j d))).2))
          have HB92 := hid ((HB9.out.far (p := ⟨gs1 j, d * 2, none⟩) (fun e => HNG.out j hjm e.symm) (.int .i64 (tw (sg (g1 j j) (g1 j d))).1)).far (p := ⟨gs1 j, d * 2 + 1, none⟩) (fun e => HNG.out j hjm e.symm) (.int .i64 (tw (sg (g1 j j) (g1 j d))).2))
          have HC2 := hid (HC.out.trans (HM.out.setChs (c := d) hjm (.int .i64 (tw (sg (g1 j j) (g1 j d))).1) (.int .i64 (tw (sg (g1 j j) (g1 j d))).2)))
          have HE := hid (And.intro (HM2.out.hat hjm) (And.intro (HB92.out.cell 0) (HB92.out.cell 1)))
          clear k1 k2 f1 f2
          refine hK.out _ _ ?_ (fun hHeld => ?_); · ((try dsimp only); (first | exact HHS.out _ HM.out HB9.out | exact HHS.out _ HM.out.drew HB9.out.drew | exact HE.out))
          clear hK K
          try simp only [Act.put,qA,qB,qC]
          refine wpAnyH_done (by kernel_rfl) ?_ _
          go_wp2
          go_roundg (gk - 1)
          case measure => have := HD.out; have := HLD.out; omega
          case rel => exact ⟨d + 1, by have := HD.out; have := HLD.out; omega, by go_num, hid (by rw [← mixC_step]; exact HM2.out), HBX2, HB92, HC2⟩
        · obtain rfl : d = k + 1 := by have := HD.out; omega
          have HM := hid (show MatR wr B h mc m k gs1 cs1 (divF g1 j) from HM.out.congr fun i c _ hc => mixC_full g1 j k hc)
          have HR2 := hid (show ∀ i c, i < m → c ≤ k → -48 ≤ divF g1 j i c ∧ divF g1 j i c ≤ 48 from fun i c hi hc => by
           have h1 := HR1.out i c hi hc
           have h2 := HR1.out j c hjm hc
           unfold divF sg
           split
           · split <;> omega
           · exact h1)
          have HCF2 := hid (show ∀ i, i < m → i ≠ j → divF g1 j i j = 0 ∨ divF g1 j i j = 12 ∨ divF g1 j i j = -12 from fun i hi hne => by
           unfold divF
           rw [if_neg hne]
           exact HCF.out i hi)
          clear hd hld HD HR1 HCF HBY HB9 HNG
          generalize divF g1 j = g2 at *
          go_wp2_with fail
          go_loopg [80] m (fun gk c wr => ∃ i : Nat, gk + i = m ∧ c = .int .i64 i ∧ Hid (MatR wr B h mc m k gs1 cs1 (mixR g2 j i 0)) ∧ Hid (Blk wr b7 3 #[.int .i64 (j : Nat)]) ∧ Hid (Chs (B ≤ ·) w wr))
          case atStart => exact ⟨0, by omega, rfl, hid (by rw [mixR_zero]; exact HM.out), HBX, HC⟩
          case round =>
           clear HM HBX HC
           obtain ⟨i, hi, rfl, HM, HBX, HC⟩ := hrel
           obtain ⟨gi, rfl⟩ : ∃ x, x = gk := ⟨gk, rfl⟩
           have HII := hid hi
           by_cases him : i < m
           · have HIM := hid him
             have i0 : (0 : Int) ≤ (i : Int) := by omega
             have i1 : (i : Int) < (m : Int) := by omega
             have hjk : j ≤ k := by have := HLT.out; omega
             have hS := fun (X : World) (h1 : MatR X B h mc m k gs1 cs1 (mixR g2 j i 0)) (h2 : Blk X b7 3 #[.int .i64 (j : Nat)]) => show X.cell? ⟨h, i, none⟩ = some (.slice (some ⟨gs1 i, 0, none⟩) (k + 1) (cs1 i)) ∧ X.cell? ⟨gs1 i, j * 2, none⟩ = some (.int .i64 (tw (g2 i j)).1) ∧ X.cell? ⟨gs1 i, j * 2 + 1, none⟩ = some (.int .i64 (tw (g2 i j)).2) ∧ X.cell? ⟨b7, 0, none⟩ = some (.int .i64 (j : Nat)) from
              ⟨h1.hat him, by have := (h1.at him hjk).1; rwa [mixR_at'] at this, by have := (h1.at him hjk).2; rwa [mixR_at'] at this, h2.cell 0⟩
             have HHS := hid hS
             clear hi hS
             go_wp2_with fail
             go_cut [12] from 83 to 89 (fun t wx => ∃ b12, t = .pointer (some ⟨b12, 0, none⟩) ∧ Hid (MatR wx B h mc m k gs1 cs1 (mixR g2 j i 0)) ∧ Hid (Blk wx b7 3 #[.int .i64 (j : Nat)]) ∧ Hid (Chs (B ≤ ·) w wx) ∧ Hid (Blk wx b12 48 #[.int .i64 (tw (g2 i j)).1, .int .i64 (tw (g2 i j)).2]) ∧ Hid (∀ i, i < m → gs1 i ≠ b12))
             case first =>
              refine wp_region_held_drew (S := (fun X => X.cell? ⟨h, i, none⟩ = some (.slice (some ⟨gs1 i, 0, none⟩) (k + 1) (cs1 i)) ∧ X.cell? ⟨gs1 i, j * 2, none⟩ = some (.int .i64 (tw (g2 i j)).1) ∧ X.cell? ⟨gs1 i, j * 2 + 1, none⟩ = some (.int .i64 (tw (g2 i j)).2) ∧ X.cell? ⟨b7, 0, none⟩ = some (.int .i64 (j : Nat)))) (by kernel_rfl) (by (try dsimp only); (first | exact HHS.out _ HM.out.drew HBX.out.drew | exact HHS.out _ HM.out HBX.out | exact HHS.out _ HMa.out HBXa.out | exact HHS.out _ HMb.out HBXb.out)) (fun hHeld => ?_)
              have HM := hid HM.out.drew
              have HBX := hid HBX.out.drew
              have HC := hid (HC.out.trans (Chs.of_below (S := (B ≤ ·)) (Below.refl _ wr).drew))
              generalize wr.drew = X at *
              refine tk ?_ 0 (some 83) rfl rfl ?_ ?_; rotate_left; · (intro w hSw; (try dsimp only at hSw); go_simp <;> with_reducible rfl)
              try simp only [Act.put,qA,qB,qC]
              refine tk ?_ 1 (some 84) rfl rfl ?_ ?_; rotate_left; · (intro w hSw; (try dsimp only at hSw); go_simp <;> with_reducible rfl)
              try simp only [Act.put,qA,qB,qC]
              refine tk ?_ 2 (some 85) rfl rfl ?_ ?_; rotate_left; · (intro w hSw; (try dsimp only at hSw); go_simp <;> with_reducible rfl)
              try simp only [Act.put,qA,qB,qC]
              refine tk ?_ 3 (some 86) rfl rfl ?_ ?_; rotate_left; · (intro w hSw; (try dsimp only at hSw); go_simp <;> with_reducible rfl)
              try simp only [Act.put,qA,qB,qC]
              refine tk ?_ 4 (some 87) rfl rfl ?_ ?_; rotate_left; · (intro w hSw; (try dsimp only at hSw); go_simp <;> with_reducible rfl)
              try simp only [Act.put,qA,qB,qC]
              refine tk ?_ 5 (some 88) rfl rfl ?_ ?_; rotate_left; · (intro w hSw; (try dsimp only at hSw); go_simp <;> with_reducible rfl)
              try simp only [Act.put,qA,qB,qC]
              refine tk ?_ 6 (some 89) rfl rfl ?_ ?_; rotate_left; · (intro w hSw; (try dsimp only at hSw); go_simp <;> with_reducible rfl)
              try simp only [Act.put,qA,qB,qC]
              refine st 7 rfl fun K hK => ?_
              go_simp
              have HMa := hid (HM.out.below ((Below.refl X.heap.size X).alloc (Nat.le_refl _) (.cells #[.int .i64 0, .int .i64 0] 48)))
              have HBXa := hid (HBX.out.keep ((Below.refl X.heap.size X).alloc (Nat.le_refl _) (.cells #[.int .i64 0, .int .i64 0] 48)))
              refine hK.out _ _ ?_ (fun hHeld => ?_); · ((try dsimp only); (first | exact HHS.out _ HM.out.drew HBX.out.drew | exact HHS.out _ HM.out HBX.out | exact HHS.out _ HMa.out HBXa.out | exact HHS.out _ HMb.out HBXb.out))
              clear hK K
              try simp only [Act.put,qA,qB,qC]
              refine st 8 rfl fun K hK => ?_
              go_simp
              have bb := (Below.refl X.heap.size X).alloc (Nat.le_refl _) (.cells #[.int .i64 (tw (g2 i j)).1, .int .i64 (tw (g2 i j)).2] 48)
              have HNG := hid (show ∀ i, i < m → gs1 i ≠ X.heap.size from fun i hi => by have := (HM.out.rlt hi).2; omega)
              have HMb := hid (HM.out.below bb)
              have HBXb := hid (HBX.out.keep bb)
              have HCb := hid (HC.out.trans (Chs.of_below (S := (B ≤ ·)) bb))
              have HB12 := hid (Blk.new X 48 #[.int .i64 (tw (g2 i j)).1, .int .i64 (tw (g2 i j)).2])
              clear bb
              refine hK.out _ _ ?_ (fun hHeld => ?_); · ((try dsimp only); (first | exact HHS.out _ HM.out.drew HBX.out.drew | exact HHS.out _ HM.out HBX.out | exact HHS.out _ HMa.out HBXa.out | exact HHS.out _ HMb.out HBXb.out))
              clear hK K
              try simp only [Act.put,qA,qB,qC]
              refine wpAnyH_done (by kernel_rfl) ?_ _
              go_wp2_with fail
              go_meet
              case rel => exact ⟨X.heap.size, rfl, HMb, HBXb, HCb, HB12, HNG⟩
             case rest =>
              clear HM HBX HC HHS
              obtain ⟨b12, rfl, HM, HBX, HC, HB12, HNG⟩ := hcut
              have q0 := HB12.out.cell 0
              simp only [List.getElem?_toArray, List.getElem?_cons_zero] at q0
              by_cases hij : i = j
              · subst hij
                have e0 : ((i : Int) != (i : Int)) = false := by simp
                have e1 : (i != i) = false := by simp
                have HM := hid (show MatR wc B h mc m k gs1 cs1 (mixR g2 i (i + 1) 0) from by rw [← mixR_skip g2 i i (.inl rfl)]; exact HM.out)
                go_wp2
                go_roundg (gi - 1)
                case measure => have := HII.out; have := HIM.out; omega
                case rel => exact ⟨i + 1, by have := HII.out; have := HIM.out; omega, by go_num, HM, HBX, HC⟩
              · have e0 : ((i : Int) != (j : Int)) = true := by simp; omega
                have e1 : (i != j) = true := by simp [hij]
                have HIJ := hid hij
                by_cases hz : g2 i j = 0
                · have z0 : (tw (g2 i j)).1 = 0 := (tw_zero (by have := HR2.out i j him hjk; unfold rg; omega)).2 hz
                  have HM := hid (show MatR wc B h mc m k gs1 cs1 (mixR g2 j (i + 1) 0) from by rw [← mixR_skip g2 j i (.inr hz)]; exact HM.out)
                  rw [z0] at q0
                  clear hz z0 hij
                  go_wp2
                  go_roundg (gi - 1)
                  case measure => have := HII.out; have := HIM.out; omega
                  case rel => exact ⟨i + 1, by have := HII.out; have := HIM.out; omega, by go_num, HM, HBX, HC⟩
                · have z0 : ((tw (g2 i j)).1 != 0) = true := by
                   have := tw_zero (x := g2 i j) (by have := HR2.out i j him hjk; unfold rg; omega)
                   simpa using fun e => hz (this.1 e)
                  have HPM := hid (show g2 i j = 12 ∨ g2 i j = -12 from (HCF2.out i him hij).resolve_left hz)
                  have HZ := hid hz
                  have c1 := HM.out.hat him
                  clear hz hij z0 q0 e0 e1
                  have q0 := HB12.out.cell 0
                  simp only [List.getElem?_toArray, List.getElem?_cons_zero] at q0
                  have z0 : ((tw (g2 i j)).1 != 0) = true := by
                   have := tw_zero (x := g2 i j) (by have := HR2.out i j him hjk; unfold rg; omega)
                   simpa using fun e => HZ.out (this.1 e)
                  have e0 : ((i : Int) != (j : Int)) = true := by simp; have := HIJ.out; omega
                  have e1 : (i != j) = true := by simp; exact HIJ.out
                  go_wp2_with fail
                  clear q0 z0 c1
                  go_loopg [103] (k + 1) (fun gk c wr => ∃ d : Nat, gk + d = k + 1 ∧ c = .int .i64 d ∧ Hid (MatR wr B h mc m k gs1 cs1 (mixR g2 j i d)) ∧ Hid (Blk wr b7 3 #[.int .i64 (j : Nat)]) ∧ Hid (Blk wr b12 48 #[.int .i64 (tw (g2 i j)).1, .int .i64 (tw (g2 i j)).2]) ∧ Hid (Chs (B ≤ ·) w wr))
                  case atStart => exact ⟨0, by omega, rfl, HM, HBX, HB12, HC⟩
                  case round =>
                   clear HM HBX HB12 HC
                   obtain ⟨d, hd, rfl, HM, HBX, HB12, HC⟩ := hrel
                   have HD := hid hd
                   by_cases hld : d < k + 1
                   · have HLD := hid hld
                     have hdk : d ≤ k := by omega
                     have hb1 := HR2.out i d him hdk
                     have hb2 := HR2.out j d hjm hdk
                     have hb3 : -48 ≤ sg (g2 i j) (g2 j d) ∧ sg (g2 i j) (g2 j d) ≤ 48 := by unfold sg; split <;> omega
                     have HTM := hid fun W => times_tw (g2 i j) (g2 j d) HPM.out (by unfold rg; omega) W
                     have HPL := hid fun W => plus_tw (g2 i d) (sg (g2 i j) (g2 j d)) (-1) (by unfold rg; omega) (by unfold rg; omega) (.inr rfl) W
                     have hsf : g2 i d + -1 * sg (g2 i j) (g2 j d) = subF g2 j i d := by
                      unfold subF
                      rw [if_neg HIJ.out, if_neg HZ.out]
                      omega
                     rw [hsf] at HPL
                     unfold frV at HTM HPL
                     have hS := fun (X : World) (F : Mx) (h1 : MatR X B h mc m k gs1 cs1 F) (h2 : Blk X b12 48 #[.int .i64 (tw (g2 i j)).1, .int .i64 (tw (g2 i j)).2]) (h3 : F j d = g2 j d) => show X.cell? ⟨h, i, none⟩ = some (.slice (some ⟨gs1 i, 0, none⟩) (k + 1) (cs1 i)) ∧ X.cell? ⟨h, j, none⟩ = some (.slice (some ⟨gs1 j, 0, none⟩) (k + 1) (cs1 j)) ∧ X.cell? ⟨gs1 j, d * 2, none⟩ = some (.int .i64 (tw (g2 j d)).1) ∧ X.cell? ⟨gs1 j, d * 2 + 1, none⟩ = some (.int .i64 (tw (g2 j d)).2) ∧ X.cell? ⟨b12, 0, none⟩ = some (.int .i64 (tw (g2 i j)).1) ∧ X.cell? ⟨b12, 1, none⟩ = some (.int .i64 (tw (g2 i j)).2) from
                      ⟨h1.hat him, h1.hat hjm, by have := (h1.at hjm hdk).1; rwa [h3] at this, by have := (h1.at hjm hdk).2; rwa [h3] at this, h2.cell 0, h2.cell 1⟩
                     have HHS := hid hS
                     have hd1 : (d : Int) < ((k + 1 : Nat) : Int) := by omega
                     have hd2 : (d : Int) < (k : Int) + 1 := by omega
                     clear hd hS hb1 hb2 hb3 hsf
                     go_wp2_with fail
                     refine wp_region_held_drew (S := (fun X => X.cell? ⟨h, i, none⟩ = some (.slice (some ⟨gs1 i, 0, none⟩) (k + 1) (cs1 i)) ∧ X.cell? ⟨h, j, none⟩ = some (.slice (some ⟨gs1 j, 0, none⟩) (k + 1) (cs1 j)) ∧ X.cell? ⟨gs1 j, d * 2, none⟩ = some (.int .i64 (tw (g2 j d)).1) ∧ X.cell? ⟨gs1 j, d * 2 + 1, none⟩ = some (.int .i64 (tw (g2 j d)).2) ∧ X.cell? ⟨b12, 0, none⟩ = some (.int .i64 (tw (g2 i j)).1) ∧ X.cell? ⟨b12, 1, none⟩ = some (.int .i64 (tw (g2 i j)).2))) (by kernel_rfl) (by (try dsimp only); (first | exact HHS.out _ _ HM.out HB12.out (mixR_j g2 j i d d) | exact HHS.out _ _ HM.out.drew HB12.out.drew (mixR_j g2 j i d d) | exact HE.out)) (fun hHeld => ?_)
                     have HM := hid HM.out.drew
                     have HBX := hid HBX.out.drew
                     have HB12 := hid HB12.out.drew
                     have HC := hid (HC.out.trans (Chs.of_below (S := (B ≤ ·)) (Below.refl _ wr).drew))
                     generalize wr.drew = X at *
                     refine tk ?_ 0 (some 106) rfl rfl ?_ ?_; rotate_left; · (intro w hSw; (try dsimp only at hSw); go_simp <;> with_reducible rfl)
                     try simp only [Act.put,qA,qB,qC]
                     refine tk ?_ 1 (some 107) rfl rfl ?_ ?_; rotate_left; · (intro w hSw; (try dsimp only at hSw); go_simp <;> with_reducible rfl)
                     try simp only [Act.put,qA,qB,qC]
                     refine tk ?_ 2 (some 108) rfl rfl ?_ ?_; rotate_left; · (intro w hSw; (try dsimp only at hSw); go_simp <;> with_reducible rfl)
                     try simp only [Act.put,qA,qB,qC]
                     refine tk ?_ 3 (some 109) rfl rfl ?_ ?_; rotate_left; · (intro w hSw; (try dsimp only at hSw); go_simp <;> with_reducible rfl)
                     try simp only [Act.put,qA,qB,qC]
                     refine tk ?_ 4 (some 110) rfl rfl ?_ ?_; rotate_left; · (intro w hSw; (try dsimp only at hSw); go_simp <;> with_reducible rfl)
                     try simp only [Act.put,qA,qB,qC]
                     refine tk ?_ 5 (some 111) rfl rfl ?_ ?_; rotate_left; · (intro w hSw; (try dsimp only at hSw); go_simp <;> with_reducible rfl)
                     try simp only [Act.put,qA,qB,qC]
                     refine tk ?_ 6 (some 112) rfl rfl ?_ ?_; rotate_left; · (intro w hSw; (try dsimp only at hSw); go_simp <;> with_reducible rfl)
                     try simp only [Act.put,qA,qB,qC]
                     refine tk ?_ 7 (some 113) rfl rfl ?_ ?_; rotate_left; · (intro w hSw; (try dsimp only at hSw); go_simp <;> with_reducible rfl)
                     try simp only [Act.put,qA,qB,qC]
                     refine tk ?_ 8 (some 114) rfl rfl ?_ ?_; rotate_left; · (intro w hSw; (try dsimp only at hSw); go_simp <;> with_reducible rfl)
                     try simp only [Act.put,qA,qB,qC]
                     refine tk ?_ 9 (some 115) rfl rfl ?_ ?_; rotate_left; · (intro w hSw; (try dsimp only at hSw); go_simp <;> with_reducible rfl)
                     try simp only [Act.put,qA,qB,qC]
                     refine tk ?_ 10 (some 116) rfl rfl ?_ ?_; rotate_left; · (intro w hSw; (try dsimp only at hSw); go_simp <;> with_reducible rfl)
                     try simp only [Act.put,qA,qB,qC]
                     refine tk ?_ 12 (some 118) rfl rfl ?_ ?_; rotate_left; · (intro w hSw; (try dsimp only at hSw); go_simp <;> with_reducible rfl)
                     try simp only [Act.put,qA,qB,qC]
                     refine tk ?_ 13 (some 119) rfl rfl ?_ ?_; rotate_left; · (intro w hSw; (try dsimp only at hSw); go_simp <;> with_reducible rfl)
                     try simp only [Act.put,qA,qB,qC]
                     refine tk ?_ 14 (some 120) rfl rfl ?_ ?_; rotate_left; · (intro w hSw; (try dsimp only at hSw); go_simp <;> with_reducible rfl)
                     try simp only [Act.put,qA,qB,qC]
                     refine tk ?_ 15 (some 121) rfl rfl ?_ ?_; rotate_left; · (intro w hSw; (try dsimp only at hSw); go_simp <;> with_reducible rfl)
                     try simp only [Act.put,qA,qB,qC]
                     refine tk ?_ 16 (some 122) rfl rfl ?_ ?_; rotate_left; · (intro w hSw; (try dsimp only at hSw); go_simp <;> with_reducible rfl)
                     try simp only [Act.put,qA,qB,qC]
                     refine tk ?_ 17 (some 123) rfl rfl ?_ ?_; rotate_left; · (intro w hSw; (try dsimp only at hSw); go_simp <;> with_reducible rfl)
                     try simp only [Act.put,qA,qB,qC]
                     refine tk ?_ 18 (some 124) rfl rfl ?_ ?_; rotate_left; · (intro w hSw; (try dsimp only at hSw); go_simp <;> with_reducible rfl)
                     try simp only [Act.put,qA,qB,qC]
                     refine tk ?_ 19 (some 125) rfl rfl ?_ ?_; rotate_left; · (intro w hSw; (try dsimp only at hSw); go_simp <;> with_reducible rfl)
                     try simp only [Act.put,qA,qB,qC]
                     refine wpAnyH_ready (rs := [11, 20]) (by kernel_rfl) (by simp) ?_
                     refine AllReadyH.cons rfl (fun K hK => ?_) (AllReadyH.cons rfl (fun K hK => ?_) (AllReadyH.nil))
                     · have k1 := HM.out.at him hdk
                       rw [mixR_at] at k1
                       have k2 := k1.2
                       have k1 := k1.1
                       go_simp
                       clear k1 k2
                       refine hK.out _ _ ?_ (fun hHeld => ?_); · ((try dsimp only); (first | exact HHS.out _ _ HM.out HB12.out (mixR_j g2 j i d d) | exact HHS.out _ _ HM.out.drew HB12.out.drew (mixR_j g2 j i d d) | exact HE.out))
                       clear hK K
                       try simp only [Act.put,qA,qB,qC]
                       refine st 20 rfl fun K hK => ?_
                       go_simp
                       refine (HTM.out _).mono ?_; rintro e X1 ⟨rfl, bb⟩
                       have HM := hid (HM.out.below bb)
                       have HBX := hid (HBX.out.keep bb)
                       have HB12 := hid (HB12.out.keep bb)
                       have HC := hid (HC.out.trans (Chs.of_below (S := (B ≤ ·)) bb))
                       clear bb hHeld
                       obtain ⟨X, rfl⟩ : ∃ Y, Y = X1 := ⟨X1, rfl⟩
                       refine hK.out _ _ ?_ (fun hHeld => ?_); · ((try dsimp only); (first | exact HHS.out _ _ HM.out HB12.out (mixR_j g2 j i d d) | exact HHS.out _ _ HM.out.drew HB12.out.drew (mixR_j g2 j i d d) | exact HE.out))
                       clear hK K
                       try simp only [Act.put,qA,qB,qC]
                       refine st 21 rfl fun K hK => ?_
                       go_simp
                       refine (HPL.out _).mono ?_; rintro e X1 ⟨rfl, bb⟩
                       have HM := hid (HM.out.below bb)
                       have HBX := hid (HBX.out.keep bb)
                       have HB12 := hid (HB12.out.keep bb)
                       have HC := hid (HC.out.trans (Chs.of_below (S := (B ≤ ·)) bb))
                       clear bb hHeld
                       obtain ⟨X, rfl⟩ : ∃ Y, Y = X1 := ⟨X1, rfl⟩
                       refine hK.out _ _ ?_ (fun hHeld => ?_); · ((try dsimp only); (first | exact HHS.out _ _ HM.out HB12.out (mixR_j g2 j i d d) | exact HHS.out _ _ HM.out.drew HB12.out.drew (mixR_j g2 j i d d) | exact HE.out))
                       clear hK K
                       try simp only [Act.put,qA,qB,qC]
                       refine tk ?_ 22 (some 128) rfl rfl ?_ ?_; rotate_left; · (intro w hSw; (try dsimp only at hSw); go_simp <;> with_reducible rfl)
                       try simp only [Act.put,qA,qB,qC]
                       refine st 23 rfl fun K hK => ?_
                       have k1 := HM.out.at him hdk
                       have k2 := k1.2
                       have k1 := k1.1
                       have f1 := HM.out.free him (d * 2)
                       have f2 := HM.out.free him (d * 2 + 1)
                       go_simp
                       have HM2 := hid (HM.out.set him hdk (subF g2 j i d))
                       have HBX2 := hid ((HBX.out.far (p := ⟨gs1 i, d * 2, none⟩) (fun e => HB7N.out i him e.symm) (.int .i64 (tw (subF g2 j i d)).1)).far (p := ⟨gs1 i, d * 2 + 1, none⟩) (fun e => HB7N.out i him e.symm) (.int .i64 (tw (subF g2 j i d)).2))
                       have HB122 := hid ((HB12.out.far (p := ⟨gs1 i, d * 2, none⟩) (fun e => HNG.out i him e.symm) (.int .i64 (tw (subF g2 j i d)).1)).far (p := ⟨gs1 i, d * 2 + 1, none⟩) (fun e => HNG.out i him e.symm) (.int .i64 (tw (subF g2 j i d)).2))
                       have HC2 := hid (HC.out.trans (HM.out.setChs (c := d) him (.int .i64 (tw (subF g2 j i d)).1) (.int .i64 (tw (subF g2 j i d)).2)))
                       have HM2 := hid (show MatR _ B h mc m k gs1 cs1 (mixR g2 j i (d + 1)) from by rw [← mixR_step]; exact HM2.out)
                       have HE := hid (HHS.out _ _ HM2.out HB122.out (mixR_j g2 j i (d + 1) d))
                       clear k1 k2 f1 f2
                       refine hK.out _ _ ?_ (fun hHeld => ?_); · ((try dsimp only); (first | exact HHS.out _ _ HM.out HB12.out (mixR_j g2 j i d d) | exact HHS.out _ _ HM.out.drew HB12.out.drew (mixR_j g2 j i d d) | exact HE.out))
                       clear hK K
                       try simp only [Act.put,qA,qB,qC]
                       refine wpAnyH_done (by kernel_rfl) ?_ _
                       go_wp2
                       go_roundg (gk - 1)
                       case measure => have := HD.out; have := HLD.out; omega
                       case rel => exact ⟨d + 1, by have := HD.out; have := HLD.out; omega, by go_num, HM2, HBX2, HB122, HC2⟩
                     · go_simp
                       refine (HTM.out _).mono ?_; rintro e X1 ⟨rfl, bb⟩
                       have HM := hid (HM.out.below bb)
                       have HBX := hid (HBX.out.keep bb)
                       have HB12 := hid (HB12.out.keep bb)
                       have HC := hid (HC.out.trans (Chs.of_below (S := (B ≤ ·)) bb))
                       clear bb hHeld
                       obtain ⟨X, rfl⟩ : ∃ Y, Y = X1 := ⟨X1, rfl⟩
                       refine hK.out _ _ ?_ (fun hHeld => ?_); · ((try dsimp only); (first | exact HHS.out _ _ HM.out HB12.out (mixR_j g2 j i d d) | exact HHS.out _ _ HM.out.drew HB12.out.drew (mixR_j g2 j i d d) | exact HE.out))
                       clear hK K
                       try simp only [Act.put,qA,qB,qC]
                       refine st 11 rfl fun K hK => ?_
                       have k1 := HM.out.at him hdk
                       rw [mixR_at] at k1
                       have k2 := k1.2
                       have k1 := k1.1
                       go_simp
                       clear k1 k2
                       refine hK.out _ _ ?_ (fun hHeld => ?_); · ((try dsimp only); (first | exact HHS.out _ _ HM.out HB12.out (mixR_j g2 j i d d) | exact HHS.out _ _ HM.out.drew HB12.out.drew (mixR_j g2 j i d d) | exact HE.out))
                       clear hK K
                       try simp only [Act.put,qA,qB,qC]
                       refine st 21 rfl fun K hK => ?_
                       go_simp
                       refine (HPL.out _).mono ?_; rintro e X1 ⟨rfl, bb⟩
                       have HM := hid (HM.out.below bb)
                       have HBX := hid (HBX.out.keep bb)
                       have HB12 := hid (HB12.out.keep bb)
                       have HC := hid (HC.out.trans (Chs.of_below (S := (B ≤ ·)) bb))
                       clear bb hHeld
                       obtain ⟨X, rfl⟩ : ∃ Y, Y = X1 := ⟨X1, rfl⟩
                       refine hK.out _ _ ?_ (fun hHeld => ?_); · ((try dsimp only); (first | exact HHS.out _ _ HM.out HB12.out (mixR_j g2 j i d d) | exact HHS.out _ _ HM.out.drew HB12.out.drew (mixR_j g2 j i d d) | exact HE.out))
                       clear hK K
                       try simp only [Act.put,qA,qB,qC]
                       refine tk ?_ 22 (some 128) rfl rfl ?_ ?_; rotate_left; · (intro w hSw; (try dsimp only at hSw); go_simp <;> with_reducible rfl)
                       try simp only [Act.put,qA,qB,qC]
                       refine st 23 rfl fun K hK => ?_
                       have k1 := HM.out.at him hdk
                       have k2 := k1.2
                       have k1 := k1.1
                       have f1 := HM.out.free him (d * 2)
                       have f2 := HM.out.free him (d * 2 + 1)
                       go_simp
                       have HM2 := hid (HM.out.set him hdk (subF g2 j i d))
                       have HBX2 := hid ((HBX.out.far (p := ⟨gs1 i, d * 2, none⟩) (fun e => HB7N.out i him e.symm) (.int .i64 (tw (subF g2 j i d)).1)).far (p := ⟨gs1 i, d * 2 + 1, none⟩) (fun e => HB7N.out i him e.symm) (.int .i64 (tw (subF g2 j i d)).2))
                       have HB122 := hid ((HB12.out.far (p := ⟨gs1 i, d * 2, none⟩) (fun e => HNG.out i him e.symm) (.int .i64 (tw (subF g2 j i d)).1)).far (p := ⟨gs1 i, d * 2 + 1, none⟩) (fun e => HNG.out i him e.symm) (.int .i64 (tw (subF g2 j i d)).2))
                       have HC2 := hid (HC.out.trans (HM.out.setChs (c := d) him (.int .i64 (tw (subF g2 j i d)).1) (.int .i64 (tw (subF g2 j i d)).2)))
                       have HM2 := hid (show MatR _ B h mc m k gs1 cs1 (mixR g2 j i (d + 1)) from by rw [← mixR_step]; exact HM2.out)
                       have HE := hid (HHS.out _ _ HM2.out HB122.out (mixR_j g2 j i (d + 1) d))
                       clear k1 k2 f1 f2
                       refine hK.out _ _ ?_ (fun hHeld => ?_); · ((try dsimp only); (first | exact HHS.out _ _ HM.out HB12.out (mixR_j g2 j i d d) | exact HHS.out _ _ HM.out.drew HB12.out.drew (mixR_j g2 j i d d) | exact HE.out))
                       clear hK K
                       try simp only [Act.put,qA,qB,qC]
                       refine wpAnyH_done (by kernel_rfl) ?_ _
                       go_wp2
                       go_roundg (gk - 1)
                       case measure => have := HD.out; have := HLD.out; omega
                       case rel => exact ⟨d + 1, by have := HD.out; have := HLD.out; omega, by go_num, HM2, HBX2, HB122, HC2⟩
                   · obtain rfl : d = k + 1 := by have := HD.out; omega
                     have HM := hid (show MatR wr B h mc m k gs1 cs1 (mixR g2 j (i + 1) 0) from HM.out.congr fun i' c _ hc => mixR_next g2 j i k hc)
                     clear hd hld
                     go_wp2
                     go_roundg (gi - 1)
                     case measure => have := HII.out; have := HIM.out; omega
                     case rel => exact ⟨i + 1, by have := HII.out; have := HIM.out; omega, by go_num, HM, HBX, HC⟩
           · obtain rfl : i = m := by have := HII.out; omega
             have HM := hid (show MatR wr B h mc i k gs1 cs1 (elimF g j (j + dp)) from by rw [HEL.out]; exact HM.out.congr fun i' c hi' _ => mixR_done g2 j i hi')
             have q0 := HBX.out.cell 0
             simp only [List.getElem?_toArray, List.getElem?_cons_zero] at q0
             clear hi him
             have hle : j + 1 ≤ i := hjm
             by_cases h1 : j + 1 = i
             · have e0 : (((j : Int) + 1) == (i : Int)) = true := by simp; omega
               have e1 : (j + 1 == i) = true := by simp [h1]
               by_cases h2 : j + 1 < k
               · have e2 : decide ((j : Int) + 1 < (k : Int)) = true := decide_eq_true (by omega)
                 have e3 : decide (j + 1 < k) = true := decide_eq_true h2
                 have HN := hid (show solveF i k f = none from by
                  unfold solveF
                  rw [← HS.out, HSN.out, if_pos ⟨h1, h2⟩])
                 clear h1 h2 hle
                 go_wp2_with fail
                 go_ret2
                 unfold SolR
                 rw [HN.out]
                 exact ⟨rfl, HC.out⟩
               · have e2 : decide ((j : Int) + 1 < (k : Int)) = false := decide_eq_false (by omega)
                 have e3 : decide (j + 1 < k) = false := decide_eq_false h2
                 have HS2 := hid (show solveGo i k (k - (j + 1)) (j + 1) (elimF g j (j + dp)) = solveGo i k k 0 f from by rw [← HS.out, HSN.out, if_neg (fun x => h2 x.2)])
                 have HJM2 := hid (show j + 1 ≤ i ∧ (j + 1 < k → j + 1 < i) from ⟨hle, fun x => absurd x h2⟩)
                 clear h1 h2 hle
                 go_wp2_with fail
                 have HI2 := hid HST.out.2
                 go_roundg (gj - 1)
                 case measure => have := HJ.out; have := HLT.out; omega
                 case rel => exact ⟨j + 1, _, gs1, cs1, by have := HJ.out; have := HLT.out; omega, rfl, by go_num, by go_num, HM, HI2, HS2, HJM2, HC⟩
             · have e0 : (((j : Int) + 1) == (i : Int)) = false := by simp; omega
               have e1 : (j + 1 == i) = false := by simp [h1]
               have HS2 := hid (show solveGo i k (k - (j + 1)) (j + 1) (elimF g j (j + dp)) = solveGo i k k 0 f from by rw [← HS.out, HSN.out, if_neg (fun x => h1 x.1)])
               have HJM2 := hid (show j + 1 ≤ i ∧ (j + 1 < k → j + 1 < i) from ⟨hle, fun _ => by omega⟩)
               clear h1 hle
               go_wp2_with fail
               have HI2 := hid HST.out.2
               go_roundg (gj - 1)
               case measure => have := HJ.out; have := HLT.out; omega
               case rel => exact ⟨j + 1, _, gs1, cs1, by have := HJ.out; have := HLT.out; omega, rfl, by go_num, by go_num, HM, HI2, HS2, HJM2, HC⟩
  · obtain rfl : j = k := by have := HJ.out; omega
    have hs0 := HS.out
    rw [Nat.sub_self] at hs0
    have HG := hid (show solveGo m j j 0 f = some g from hs0.symm)
    have HBD := hid (show ∀ i, i < m → rg (g i j) from fun i hi => by
     have := HI.out.r i hi
     have h2 : (2 : Int) ^ j ≤ 8 := by
      rcases (show j = 1 ∨ j = 2 ∨ j = 3 by omega) with rfl | rfl | rfl <;> decide
     unfold rg
     omega)
    have hjm := HJM.out.1
    have HJM3 := hid hjm
    have js : (j : Int) ≤ (mc : Int) := by omega
    have js2 : (j : Int) ≤ (m : Int) := by omega
    have ts : ((j : Int)).toNat = j := by omega
    clear hj hlt hs0 HJ HS HJM HI
    obtain ⟨W0, rfl⟩ : ∃ x, x = wr := ⟨wr, rfl⟩
    by_cases hjc : j = mc
    · obtain rfl : j = m := by omega
      subst hjc
      have HZA := hid (show ∀ i, j ≤ i → i < j → g i j = 0 from fun i h1 h2 => by omega)
      go_wp2_with fail
      go_loopg [4, 148] 1 (fun gk v4 c wx => gk = 1 ∧ v4 = .slice none 0 0 ∧ c = .int .i64 0 ∧ W0 = wx)
      case atStart => exact ⟨rfl, rfl, rfl, rfl⟩
      case round =>
       obtain ⟨hgk, rfl, rfl, hw⟩ := hrel
       subst hw
       have HSF := hid (show solveF j j f = some ((List.range j).map fun i => g i j) from by
        unfold solveF
        rw [HG.out]
        simp only
        rw [if_pos]
        rw [List.all_eq_true]
        intro i hi
        have him : i < j := by simpa using hi
        by_cases hij : i < j
        · rw [decide_eq_true hij]; rfl
        · rw [decide_eq_true (HZA.out i (by omega) him), Bool.or_true])
       go_wp2_with fail
       go_loopg [4, 163] j (fun gk v c wx => ∃ (d : Nat) (A : Option Addr) (cp : Nat), gk + d = j ∧ c = .int .i64 d ∧ v = .slice A d cp ∧ Hid (wx.ownsRow W0.heap.size 48 2 (.slice A d cp) d (flat (((List.range d).map fun i => g i j).map tw))) ∧ Hid (Below W0.heap.size W0 wx))
       case atStart => exact ⟨0, none, 0, by omega, rfl, rfl, hid (World.ownsRow_nil _ _ _ _), hid (Below.refl _ _)⟩
       case round =>
        obtain ⟨d, A, cp, hd, rfl, rfl, HO, HW⟩ := hrel
        have HD := hid hd
        by_cases hld : d < j
        · have HLD := hid hld
          have hdm : d < j := by have := HJM3.out; omega
          have HMx := hid (HM.out.below HW.out)
          have c1 := HMx.out.hat hdm
          have k1 := HMx.out.at hdm (Nat.le_refl j)
          have k2 := k1.2
          have k1 := k1.1
          have j1 : (j : Int) < ((j + 1 : Nat) : Int) := by omega
          have j2 : (j : Int) < (j : Int) + 1 := by omega
          have hdi : (d : Int) < (j : Int) := by omega
          clear hd
          go_wp2_with (at_builtin; refine push1P TF wr #[.int .i64 (tw (g d j)).1, .int .i64 (tw (g d j)).2] W0.heap.size _ _ _ HO.out _ _ wr.heap.size rfl rfl rfl rfl rfl rfl (by simp [Value.oneCell']) (by omega) (by omega) HW.out.size ?_; intro v1 w8 hown1 hgr; obtain ⟨A8, c8, rfl⟩ := own_form hown1; have HB8 := hid (below_push HW.out HO.out hgr HW.out.size (Nat.le_refl _)); have HO8 := hid (show w8.ownsRow W0.heap.size 48 2 (.slice A8 (d + 1) c8) (d + 1) (flat (((List.range (d + 1)).map fun i => g i j).map tw)) from by rw [flat_range]; exact hown1); clear hown1 hgr)
          go_roundg (gk - 1)
          case measure => have := HD.out; have := HLD.out; omega
          case rel => exact ⟨d + 1, A8, c8, by have := HD.out; have := HLD.out; omega, by go_num, rfl, HO8, HB8⟩
        · obtain rfl : d = j := by have := HD.out; omega
          clear hd hld
          go_wp2
          go_ret2
          unfold SolR
          rw [HSF.out]
          exact ⟨⟨A, cp, rfl, own_more HO.out HC.out.size⟩, HC.out.trans (Chs.of_below (S := (B ≤ ·)) HW.out)⟩
    · have js3 : (j : Int) < (mc : Int) := by omega
      have mj : ((m - j : Nat) : Int) = (m : Int) - (j : Int) := by omega
      go_wp2_with fail
      go_loopg [4, 148] (m - j) (fun gk v4 c wx => ∃ d : Nat, gk + d = m - j ∧ v4 = .slice none 0 0 ∧ c = .int .i64 d ∧ Hid (∀ i, j ≤ i → i < j + d → g i j = 0) ∧ W0 = wx)
      case atStart => exact ⟨0, by omega, rfl, rfl, hid (fun i h1 h2 => by omega), rfl⟩
      case round =>
       obtain ⟨d, hd, rfl, rfl, HZ, hw⟩ := hrel
       subst hw
       have HD := hid hd
       by_cases hld : d < m - j
       · have HLD := hid hld
         have hdm : j + d < m := by omega
         have c1 := HM.out.hat hdm
         have k1 := (HM.out.at hdm (Nat.le_refl j)).1
         have j1 : (j : Int) < ((j + 1 : Nat) : Int) := by omega
         have j2 : (j : Int) < (j : Int) + 1 := by omega
         have HTZ := hid (tw_zero (HBD.out (j + d) hdm))
         clear hd
         by_cases hz : g (j + d) j = 0
         · have hz0 := HTZ.out.2 hz
           rw [hz0] at k1
           have HX := hid hz
           clear hz hz0
           go_wp2
           go_roundg (gk - 1)
           case measure => have := HD.out; have := HLD.out; omega
           case rel =>
            refine ⟨d + 1, by have := HD.out; have := HLD.out; omega, rfl, by go_num, hid fun i h1 h2 => ?_, rfl⟩
            by_cases e : i = j + d
            · subst e; exact HX.out
            · exact HZ.out i h1 (by omega)
         · have hz0 : ((tw (g (j + d) j)).1 != 0) = true := by simpa using fun e => hz (HTZ.out.1 e)
           have HN := hid (show solveF m j f = none from by
            unfold solveF
            rw [HG.out]
            simp only
            rw [if_neg]
            intro hall
            rw [List.all_eq_true] at hall
            have := hall (j + d) (by simpa using hdm)
            rw [decide_eq_false (show ¬ j + d < j by omega), decide_eq_false hz] at this
            cases this)
           clear hz
           go_wp2
           go_ret2
           unfold SolR
           rw [HN.out]
           exact ⟨rfl, HC.out⟩
       · obtain rfl : d = m - j := by have := HD.out; omega
         have HZA := hid (show ∀ i, j ≤ i → i < m → g i j = 0 from fun i h1 h2 => HZ.out i h1 (by omega))
         clear hd hld mj
         have HSF := hid (show solveF m j f = some ((List.range j).map fun i => g i j) from by
          unfold solveF
          rw [HG.out]
          simp only
          rw [if_pos]
          rw [List.all_eq_true]
          intro i hi
          have him : i < m := by simpa using hi
          by_cases hij : i < j
          · rw [decide_eq_true hij]; rfl
          · rw [decide_eq_true (HZA.out i (by omega) him), Bool.or_true])
         go_wp2_with fail
         go_loopg [4, 163] j (fun gk v c wx => ∃ (d : Nat) (A : Option Addr) (cp : Nat), gk + d = j ∧ c = .int .i64 d ∧ v = .slice A d cp ∧ Hid (wx.ownsRow W0.heap.size 48 2 (.slice A d cp) d (flat (((List.range d).map fun i => g i j).map tw))) ∧ Hid (Below W0.heap.size W0 wx))
         case atStart => exact ⟨0, none, 0, by omega, rfl, rfl, hid (World.ownsRow_nil _ _ _ _), hid (Below.refl _ _)⟩
         case round =>
          obtain ⟨d, A, cp, hd, rfl, rfl, HO, HW⟩ := hrel
          have HD := hid hd
          by_cases hld : d < j
          · have HLD := hid hld
            have hdm : d < m := by have := HJM3.out; omega
            have HMx := hid (HM.out.below HW.out)
            have c1 := HMx.out.hat hdm
            have k1 := HMx.out.at hdm (Nat.le_refl j)
            have k2 := k1.2
            have k1 := k1.1
            have j1 : (j : Int) < ((j + 1 : Nat) : Int) := by omega
            have j2 : (j : Int) < (j : Int) + 1 := by omega
            have hdi : (d : Int) < (j : Int) := by omega
            clear hd
            go_wp2_with (at_builtin; refine push1P TF wr #[.int .i64 (tw (g d j)).1, .int .i64 (tw (g d j)).2] W0.heap.size _ _ _ HO.out _ _ wr.heap.size rfl rfl rfl rfl rfl rfl (by simp [Value.oneCell']) (by omega) (by omega) HW.out.size ?_; intro v1 w8 hown1 hgr; obtain ⟨A8, c8, rfl⟩ := own_form hown1; have HB8 := hid (below_push HW.out HO.out hgr HW.out.size (Nat.le_refl _)); have HO8 := hid (show w8.ownsRow W0.heap.size 48 2 (.slice A8 (d + 1) c8) (d + 1) (flat (((List.range (d + 1)).map fun i => g i j).map tw)) from by rw [flat_range]; exact hown1); clear hown1 hgr)
            go_roundg (gk - 1)
            case measure => have := HD.out; have := HLD.out; omega
            case rel => exact ⟨d + 1, A8, c8, by have := HD.out; have := HLD.out; omega, by go_num, rfl, HO8, HB8⟩
          · obtain rfl : d = j := by have := HD.out; omega
            clear hd hld
            go_wp2
            go_ret2
            unfold SolR
            rw [HSF.out]
            exact ⟨⟨A, cp, rfl, own_more HO.out HC.out.size⟩, HC.out.trans (Chs.of_below (S := (B ≤ ·)) HW.out)⟩
end Go.Proofs.YtnibidmlkbcfkaaGreatDoor
