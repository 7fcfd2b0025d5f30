/- Walk of medal at the first state of a call's own. Condition: the line's name reads as one name. -/
import Derived.Test.YtkjinamjdjijcaaGreatDoorFind
namespace Go.Proofs.YtkjinamjdjijcaaGreatDoor
open Go.RowKit Go.Maps

/-- The cells of a state with medals, what is above them, and nothing else. -/
def stC (m a : Value) : Array Value := #[m, a, .slice none 0 0, .slice none 0 0, .int .i64 0, .int .i64 0, .int .i64 0, .int .i64 1, .bool true, .slice none 0 0]
set_option maxRecDepth 100000 in
set_option maxHeartbeats 4000000 in
theorem medalF (nb : Nat) (A : Option Addr) (c : Nat) (s : ByteArray) (w : World) (h : Blk w nb 101 (stC (.slice none 0 0) (.slice none 0 0))) (hs : Sl w A 1 c [.string s]) (hnb : ∀ b o, A = some ⟨b, o, none⟩ → ¬ b = nb) :
    Calls Tryz.prog 52 #[.pointer (some ⟨nb, 0, none⟩), .agg #[.slice A 1 c, .slice none 0 0]] w fun e w' => e = .returned (.int .i64 0) ∧ ∃ M mc U uc, Blk w' nb 101 (stC (.slice M 1 mc) (.slice U 1 uc)) ∧ w'.ownsRow w.heap.size 9 1 (.slice M 1 mc) 1 [.string s] ∧ w'.ownsRow w.heap.size 3 1 (.slice U 1 uc) 1 [.int .i64 0] ∧ Chs (· = nb) w w' := by
  obtain ⟨b, o, u, rfl, lb, e1, ca⟩ := hs.at (k := 0) (by omega)
  simp only [List.getElem?_cons_zero, Option.some.injEq, Nat.add_zero] at e1 ca
  subst e1
  have HNB := hnb _ _ rfl
  have HE := hid fun W => enterYes W.heap.size none 0 0 [] s 6 W (Nat.le_refl _) (World.ownsRow_nil _ _ _ _) (by simp) (by omega) (by omega)
  have c0 := h.cell 0
  simp only [stC, List.getElem?_toArray, List.getElem?_cons_zero] at c0
  have HB := hid h
  have HLB := hid lb
  clear h hs hnb
  have HB1 := hid (HB.out.alloc (.cells #[.slice (some ⟨b, o, none⟩) 1 c, .slice none 0 0] 108))
  have k0 := (Blk.new w 108 #[.slice (some ⟨b, o, none⟩) 1 c, .slice none 0 0]).cell 0
  simp only [List.getElem?_toArray, List.getElem?_cons_zero] at k0
  go_enter Tryz.func52, Tryz.ntmps52
  go_wp2_with fail
  have n0 := HB1.out.cell 0
  simp only [stC, List.getElem?_toArray, List.getElem?_cons_zero] at n0
  have ca1 : (w.alloc (.cells #[.slice (some ⟨b, o, none⟩) 1 c, .slice none 0 0] 108)).cell? ⟨b, o, none⟩ = some (.string s) := cell_keep ((Below.refl _ w).alloc (Nat.le_refl _) _) ca
  have BW := hid ((Below.refl w.heap.size w).alloc (Nat.le_refl _) (.cells #[.slice (some ⟨b, o, none⟩) 1 c, .slice none 0 0] 108))
  have WLT := hid (show w.heap.size < (w.alloc (.cells #[.slice (some ⟨b, o, none⟩) 1 c, .slice none 0 0] 108)).heap.size from by simp)
  have NW := hid (show ¬ w.heap.size = nb from by have := HB.out.lt; omega)
  have NB := hid (show ¬ b = nb from HNB)
  clear c0 ca
  generalize w.alloc (.cells #[.slice (some ⟨b, o, none⟩) 1 c, .slice none 0 0] 108) = W at *
  go_cut [4] from 5 to 19 (fun t wx => t = .int .i64 0 ∧ ∃ M mc, Hid (Blk wx nb 101 (stC (.slice M 1 mc) (.slice none 0 0))) ∧ Hid (wx.ownsRow W.heap.size 9 1 (.slice M 1 mc) 1 [.string s]) ∧ Hid (Chs (· = nb) W wx))
  case first =>
    refine wp_region_held_drew (S := (fun w' => w'.cell? ⟨w.heap.size, 0, none⟩ = some (.slice (some ⟨b, o, none⟩) 1 c) ∧ w'.cell? ⟨b, o, none⟩ = some (.string s))) (by kernel_rfl) (by (try dsimp only); (first | exact ⟨k0, ca1⟩ | exact HK.out | exact HK2.out)) (fun hHeld => ?_)
    refine takeD (i := 0) (v := ?_) (some 6) rfl rfl (by kernel_rfl) (by kernel_rfl) (by kernel_rfl) (fun _ _ _ h => h) (Or.inl ⟨by rfl, ?_⟩) (by assumption) ?_
    rotate_left
    · intro w hSw
      (try dsimp only at hSw)
      first
        | (go_simp; done)
        | (go_simp; with_reducible rfl)
    try simp only [Act.put, List.setIfInBounds_toArray, List.set_cons_zero, List.set_cons_succ]
    refine takeD (i := 1) (v := ?_) (some 7) rfl rfl (by kernel_rfl) (by kernel_rfl) (by kernel_rfl) (fun _ _ _ h => h) (Or.inl ⟨by rfl, ?_⟩) (by assumption) ?_
    rotate_left
    · intro w hSw
      (try dsimp only at hSw)
      first
        | (go_simp; done)
        | (go_simp; with_reducible rfl)
    try simp only [Act.put, List.setIfInBounds_toArray, List.set_cons_zero, List.set_cons_succ]
    refine takeD (i := 2) (v := ?_) (some 8) rfl rfl (by kernel_rfl) (by kernel_rfl) (by kernel_rfl) (fun _ _ _ h => h) (Or.inl ⟨by rfl, ?_⟩) (by assumption) ?_
    rotate_left
    · intro w hSw
      (try dsimp only at hSw)
      first
        | (go_simp; done)
        | (go_simp; with_reducible rfl)
    try simp only [Act.put, List.setIfInBounds_toArray, List.set_cons_zero, List.set_cons_succ]
    refine takeD (i := 3) (v := ?_) (some 9) rfl rfl (by kernel_rfl) (by kernel_rfl) (by kernel_rfl) (fun _ _ _ h => h) (Or.inl ⟨by rfl, ?_⟩) (by assumption) ?_
    rotate_left
    · intro w hSw
      (try dsimp only at hSw)
      first
        | (go_simp; done)
        | (go_simp; with_reducible rfl)
    try simp only [Act.put, List.setIfInBounds_toArray, List.set_cons_zero, List.set_cons_succ]
    refine takeD (i := 5) (v := ?_) (some 11) rfl rfl (by kernel_rfl) (by kernel_rfl) (by kernel_rfl) (fun _ _ _ h => h) (Or.inl ⟨by rfl, ?_⟩) (by assumption) ?_
    rotate_left
    · intro w hSw
      (try dsimp only at hSw)
      first
        | (go_simp; done)
        | (go_simp; with_reducible rfl)
    try simp only [Act.put, List.setIfInBounds_toArray, List.set_cons_zero, List.set_cons_succ]
    refine takeD (i := 6) (v := ?_) (some 12) rfl rfl (by kernel_rfl) (by kernel_rfl) (by kernel_rfl) (fun _ _ _ h => h) (Or.inl ⟨by rfl, ?_⟩) (by assumption) ?_
    rotate_left
    · intro w hSw
      (try dsimp only at hSw)
      first
        | (go_simp; done)
        | (go_simp; with_reducible rfl)
    try simp only [Act.put, List.setIfInBounds_toArray, List.set_cons_zero, List.set_cons_succ]
    refine takeD (i := 7) (v := ?_) (some 13) rfl rfl (by kernel_rfl) (by kernel_rfl) (by kernel_rfl) (fun _ _ _ h => h) (Or.inl ⟨by rfl, ?_⟩) (by assumption) ?_
    rotate_left
    · intro w hSw
      (try dsimp only at hSw)
      first
        | (go_simp; done)
        | (go_simp; with_reducible rfl)
    try simp only [Act.put, List.setIfInBounds_toArray, List.set_cons_zero, List.set_cons_succ]
    refine takeD (i := 8) (v := ?_) (some 14) rfl rfl (by kernel_rfl) (by kernel_rfl) (by kernel_rfl) (fun _ _ _ h => h) (Or.inl ⟨by rfl, ?_⟩) (by assumption) ?_
    rotate_left
    · intro w hSw
      (try dsimp only at hSw)
      first
        | (go_simp; done)
        | (go_simp; with_reducible rfl)
    try simp only [Act.put, List.setIfInBounds_toArray, List.set_cons_zero, List.set_cons_succ]
    refine wpAnyH_ready (rs := [4]) (by kernel_rfl) (by simp) ?_
    refine AllReadyH.cons rfl (fun K hK => ?_) AllReadyH.nil
    go_simp
    clear n0
    refine hK.out _ _ ?_ (fun hHeld => ?_)
    · (try dsimp only)
      (first | exact ⟨k0, ca1⟩ | exact HK.out | exact HK2.out)
    clear hK K
    try simp only [Act.put, List.setIfInBounds_toArray, List.set_cons_zero, List.set_cons_succ]
    refine wpAnyH_ready (rs := [9]) (by kernel_rfl) (by simp) ?_
    refine AllReadyH.cons rfl (fun K hK => ?_) AllReadyH.nil
    go_simp
    refine (HE.out _).mono ?_; rintro e w5 ⟨⟨M, mc, rfl, hown⟩, hg⟩
    have J5 := hid ((HB1.out.drew.alloc (.cells #[.string s] 9)).grown hg (by simp [Value.ownBlock]))
    have B5 := hid ((((Below.refl W.heap.size W).drew).alloc (Nat.le_refl _) (.cells #[.string s] 9)).grown hg (by simp) (fun k hk => by simp [Value.ownBlock] at hk))
    have O5 := hid hown
    have HK : Hid (w5.cell? ⟨w.heap.size, 0, none⟩ = some (.slice (some ⟨b, o, none⟩) 1 c) ∧ w5.cell? ⟨b, o, none⟩ = some (.string s)) := hid (And.intro (cell_keep B5.out k0) (cell_keep B5.out ca1))
    clear hown hg k0 ca1
    have m0 := J5.out.cell 0
    have f0 := J5.out.free 0
    simp only [stC, List.getElem?_toArray, List.getElem?_cons_zero] at m0
    refine hK.out _ _ ?_ (fun hHeld => ?_)
    · (try dsimp only)
      (first | exact ⟨k0, ca1⟩ | exact HK.out | exact HK2.out)
    clear hK K
    try simp only [Act.put, List.setIfInBounds_toArray, List.set_cons_zero, List.set_cons_succ]
    refine takeD (i := 10) (v := ?_) (some 5) rfl rfl (by kernel_rfl) (by kernel_rfl) (by kernel_rfl) (fun _ _ _ h => h) (Or.inl ⟨by rfl, ?_⟩) (by assumption) ?_
    rotate_left
    · intro w hSw
      (try dsimp only at hSw)
      first
        | (go_simp; done)
        | (go_simp; with_reducible rfl)
    try simp only [Act.put, List.setIfInBounds_toArray, List.set_cons_zero, List.set_cons_succ]
    refine takeD (i := 11) (v := ?_) (some 16) rfl rfl (by kernel_rfl) (by kernel_rfl) (by kernel_rfl) (fun _ _ _ h => h) (Or.inl ⟨by rfl, ?_⟩) (by assumption) ?_
    rotate_left
    · intro w hSw
      (try dsimp only at hSw)
      first
        | (go_simp; done)
        | (go_simp; with_reducible rfl)
    try simp only [Act.put, List.setIfInBounds_toArray, List.set_cons_zero, List.set_cons_succ]
    refine takeD (i := 12) (v := ?_) (some 17) rfl rfl (by kernel_rfl) (by kernel_rfl) (by kernel_rfl) (fun _ _ _ h => h) (Or.inl ⟨by rfl, ?_⟩) (by assumption) ?_
    rotate_left
    · intro w hSw
      (try dsimp only at hSw)
      first
        | (go_simp; done)
        | (go_simp; with_reducible rfl)
    try simp only [Act.put, List.setIfInBounds_toArray, List.set_cons_zero, List.set_cons_succ]
    refine takeD (i := 13) (v := ?_) (some 18) rfl rfl (by kernel_rfl) (by kernel_rfl) (by kernel_rfl) (fun _ _ _ h => h) (Or.inl ⟨by rfl, ?_⟩) (by assumption) ?_
    rotate_left
    · intro w hSw
      (try dsimp only at hSw)
      first
        | (go_simp; done)
        | (go_simp; with_reducible rfl)
    try simp only [Act.put, List.setIfInBounds_toArray, List.set_cons_zero, List.set_cons_succ]
    refine takeD (i := 14) (v := ?_) (some 19) rfl rfl (by kernel_rfl) (by kernel_rfl) (by kernel_rfl) (fun _ _ _ h => h) (Or.inl ⟨by rfl, ?_⟩) (by assumption) ?_
    rotate_left
    · intro w hSw
      (try dsimp only at hSw)
      first
        | (go_simp; done)
        | (go_simp; with_reducible rfl)
    try simp only [Act.put, List.setIfInBounds_toArray, List.set_cons_zero, List.set_cons_succ]
    refine wpAnyH_ready (rs := [15]) (by kernel_rfl) (by simp) ?_
    refine AllReadyH.cons rfl (fun K hK => ?_) AllReadyH.nil
    go_simp
    have J6 := hid (J5.out.set 0 (.slice M 1 mc))
    have O6 := hid (own_grown O5.out J5.out (by decide) (setGrown w5 ⟨nb, 0, none⟩ (.slice M 1 mc)))
    have C6 := hid (show Chs (· = nb) W w5 from Chs.of_below B5.out)
    have C7 := hid (C6.out.trans (Chs.setCell (S := (· = nb)) (a := ⟨nb, 0, none⟩) rfl (.slice M 1 mc)))
    have HK2 : Hid ((w5.setCell ⟨nb, 0, none⟩ (.slice M 1 mc)).cell? ⟨w.heap.size, 0, none⟩ = some (.slice (some ⟨b, o, none⟩) 1 c) ∧ (w5.setCell ⟨nb, 0, none⟩ (.slice M 1 mc)).cell? ⟨b, o, none⟩ = some (.string s)) := hid (And.intro (cell_far _ NW.out HK.out.1) (cell_far _ NB.out HK.out.2))
    clear m0 f0 HK
    refine hK.out _ _ ?_ (fun hHeld => ?_)
    · (try dsimp only)
      (first | exact ⟨k0, ca1⟩ | exact HK.out | exact HK2.out)
    clear hK K
    try simp only [Act.put, List.setIfInBounds_toArray, List.set_cons_zero, List.set_cons_succ]
    refine takeD (i := 16) (v := ?_) (some 4) rfl rfl (by kernel_rfl) (by kernel_rfl) (by kernel_rfl) (fun _ _ _ h => h) (Or.inl ⟨by rfl, ?_⟩) (by assumption) ?_
    rotate_left
    · intro w hSw
      (try dsimp only at hSw)
      first
        | (go_simp; done)
        | (go_simp; with_reducible rfl)
    try simp only [Act.put, List.setIfInBounds_toArray, List.set_cons_zero, List.set_cons_succ]
    refine wpAnyH_done (by kernel_rfl) ?_ _
    go_wp2_with fail
    go_meet
    case rel => exact ⟨rfl, M, mc, J6, O6, C7⟩
  case rest =>
    obtain ⟨rfl, M, mc, HJ, HO, HC⟩ := hcut
    have d1 := HJ.out.cell 1
    simp only [stC, List.getElem?_toArray, List.getElem?_cons_zero, List.getElem?_cons_succ] at d1
    go_wp2_with (at_builtin; refine push1P TI27 wc #[.int .i64 0] wc.heap.size 0 (.slice none 0 0) [] (World.ownsRow_nil _ _ _ _) _ _ wc.heap.size rfl rfl rfl rfl rfl rfl (by simp [Value.oneCell']) (by omega) (by omega) (Nat.le_refl _) ?_; intro v1 w8 hown1 hgr; obtain ⟨U, uc, rfl⟩ := own_form hown1; have HJ8 := hid ((HJ.out.alloc (.cells #[.int .i64 0] 3)).grown hgr (by simp [Value.ownBlock])); have HL8 := hid (((Below.refl wc.heap.size wc).alloc (Nat.le_refl _) (.cells #[.int .i64 0] 3)).grown hgr (by simp) (fun k hk => by simp [Value.ownBlock] at hk)); have HU8 := hid hown1; have e1 := HJ8.out.cell 1; have g1 := HJ8.out.free 1; simp only [stC, List.getElem?_toArray, List.getElem?_cons_zero, List.getElem?_cons_succ] at e1; clear hown1 hgr d1)
    go_ret
    have hJ := HJ8.out.set 1 (.slice U 1 uc)
    have hM := own_grown (own_below HO.out HL8.out) HJ8.out (by decide) (setGrown w8 ⟨nb, 1, none⟩ (.slice U 1 uc))
    have hU := own_grown HU8.out HJ8.out (by decide) (setGrown w8 ⟨nb, 1, none⟩ (.slice U 1 uc))
    have hC := ((Chs.of_below (S := (· = nb)) BW.out).trans HC.out).trans ((Chs.of_below (S := (· = nb)) HL8.out).trans (Chs.setCell (S := (· = nb)) (a := ⟨nb, 1, none⟩) rfl (.slice U 1 uc)))
    exact ⟨rfl, M, mc, U, uc, hJ, own_more hM BW.out.size, own_more hU (Nat.le_trans BW.out.size HC.out.size), hC⟩
end Go.Proofs.YtkjinamjdjijcaaGreatDoor
