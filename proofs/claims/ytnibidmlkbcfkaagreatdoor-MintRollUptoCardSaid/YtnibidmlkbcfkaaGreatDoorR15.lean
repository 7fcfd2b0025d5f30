/- Texts of this proof, one behind the other; each says its condition at its head. -/
import Derived.Test.YtnibidmlkbcfkaaGreatDoorR14
import Derived.Test.YtnibidmlkbcfkaaGreatDoorR5
/- Walk of player at any state of a call's own. Condition: the line's name lies below it. -/
namespace Go.Proofs.YtnibidmlkbcfkaaGreatDoor
open Go.RowKit Go.Maps
attribute [local go_sem ↓] shl_p2 shr_v and_shr
/-- player on a mint's books; and the answer's number. -/
def playerL (s : Bk) (x : ByteArray) : Bk × Nat :=
 if (enterL s.players x 8).2 = 0 then ({ s with players := (enterL s.players x 8).1, beats := s.beats.map (fun v => bits .or .i64 v (p2 s.beats.length)) ++ [0] }, 0) else (s, (enterL s.players x 8).2)
section
variable {X : World} {B b g c : Nat} {m u p t e : Value} {s : Bk}
theorem StO.setBea {n : Nat} (h : StO X B b m u p (.slice (some ⟨g, 0, none⟩) n c) e s) {i : Nat} (hi : i < s.beats.length) (y : Int) :
 StO (X.setCell ⟨g, i, none⟩ (.int .i64 y)) B b m u p (.slice (some ⟨g, 0, none⟩) n c) e { s with beats := s.beats.set i y } := by
 have hn : n = s.beats.length := by
  rcases h.bea.2 with ⟨hv, _⟩ | ⟨g', c', cur, hv, _⟩
  · simp at hv
  · simp at hv
    exact hv.2.1
 subst hn
 have hbg : b ≠ g := fun e' => by
  have := blk_ne_own h.blk h.bea (by decide)
  exact this (by simp [Value.ownBlock, e'])
 have hne : ∀ {v : Value} , (v.ownBlock = none ∨ v.ownBlock ≠ (Value.slice (some ⟨g, 0, none⟩) s.beats.length c).ownBlock) → ∀ k, v.ownBlock = some k → k ≠ (⟨g, i, none⟩ : Addr).block := fun hv k hk e' => by
  rcases hv with h1 | h1
  · rw [hk] at h1; cases h1
  · exact h1 (by rw [hk, e']; rfl)
 have hb2 : (X.setCell ⟨g, i, none⟩ (.int .i64 y)).ownsRow B 3 1 (.slice (some ⟨g, 0, none⟩) s.beats.length c) (s.beats.set i y).length (intV (s.beats.set i y)) := by
  have := own_set h.bea (i := i) (.int .i64 y) (by simpa [intV] using hi)
  rw [List.length_set]
  unfold intV at *
  rw [List.map_set]
  exact this
 exact ⟨h.blk.far (p := ⟨g, i, none⟩) hbg _, own_other h.med _ _ (hne (own_apart2 h.med h.bea (by decide))), own_other h.abv _ _ (hne h.ut), own_other h.pla _ _ (hne (own_apart2 h.pla h.bea (by decide))), hb2, own_other h.bet _ _ (hne (own_apart2 h.bet h.bea (by decide))), h.low, h.mp, h.pm, h.ut, h.tu⟩
theorem StO.beaAt (h : StO X B b m u p t e s) {i : Nat} (hi : i < s.beats.length) : ∃ g c, t = .slice (some ⟨g, 0, none⟩) s.beats.length c ∧ X.cell? ⟨g, i, none⟩ = some (.int .i64 (s.beats[i]'hi)) ∧ X.frozen? ⟨g, i, none⟩ = false ∧ B ≤ g ∧ g ≠ b ∧ s.beats.length ≤ c ∧ c ≤ maxLen := by
 rcases h.bea.2 with ⟨_, h0⟩ | ⟨g, c, cur, rfl, hg, _⟩
 · omega
 · refine ⟨g, c, rfl, own_at h.bea (by unfold intV; rw [List.getElem?_map, List.getElem?_eq_getElem hi]; rfl), own_free h.bea i, hg, fun e' => ?_, own_cap h.bea⟩
   exact blk_ne_own h.blk h.bea (by decide) (by simp [Value.ownBlock, e'])
end
theorem own_freeV {w : World} {B : Nat} {e : TypeId} {size n g : Nat} {v : Value} {xs : List Value} (h : w.ownsRow B e size v n xs) (hv : v.ownBlock = some g) (i : Nat) : w.frozen? ⟨g, i, none⟩ = false := by
 obtain ⟨cs, hc⟩ := own_kind2 h g hv
 simp [World.frozen?, hc]
theorem step_map (f : Int → Int) (l k : List Int) (d : Nat) (hd : d < l.length) (hk : k = (l.take d).map f ++ l.drop d) (hl : d < k.length) : k.set d (f (k[d]'hl)) = (l.take (d + 1)).map f ++ l.drop (d + 1) := by
 subst hk
 have e0 : ((l.take d).map f).length = d := by rw [List.length_map, List.length_take]; omega
 have e1 : ((l.take d).map f ++ l.drop d)[d]'hl = l[d] := by
  rw [List.getElem_append_right (by omega), List.getElem_drop]
  simp only [e0, Nat.sub_self, Nat.add_zero]
 rw [e1, List.set_append_right _ _ (by omega), e0, Nat.sub_self, List.drop_eq_getElem_cons hd, List.set_cons_zero, List.take_add_one, List.getElem?_eq_getElem hd, List.map_append, List.append_assoc]
 rfl
set_option maxRecDepth 100000 in
set_option maxHeartbeats 4000000 in
theorem playerAny (w : World) (B b : Nat) (m u p t e : Value) (s : Bk) (x : ByteArray) (A : Option Addr) (n c : Nat) (ln : Value) (h : StO w B b m u p t e s) (hsm : BkS s) (hs : Sl w A n c [.string x]) (hln : ln = .slice none 0 0 ∨ ∃ a k d, ln = .slice a k d) (hA : ∀ a, A = some a → a.block < B) :
 Calls Tryz.prog 122 #[.pointer (some ⟨b, 0, none⟩), .agg #[.slice A n c, ln]] w fun r w' => ∃ p' t', r = .returned (.int .i64 ((playerL s x).2 : Nat)) ∧ StO w' B b m u p' t' e (playerL s x).1 ∧ Below B w w' := by
 obtain rfl : n = 1 := by have := hs.len; simp at this; exact this.symm
 obtain ⟨ab, ao, y, rfl, lb, e1, ca⟩ := hs.at (k := 0) (by omega)
 simp only [List.getElem?_cons_zero, Option.some.injEq, Nat.add_zero] at e1 ca
 subst e1
 obtain ⟨la, lk, ld, rfl⟩ : ∃ a k d, ln = .slice a k d := by
  rcases hln with h | h
  · exact ⟨_, _, _, h⟩
  · exact h
 have hab : ab < B := hA _ rfl
 have hBw : B ≤ w.heap.size := by have := h.low; have := h.blk.lt; omega
 have HS := hid h
 have HSM := hid hsm
 have HAB := hid hab
 have HX := hid ((Below.refl w.heap.size w).alloc (Nat.le_refl _) (.cells #[.slice (some ⟨ab, ao, none⟩) 1 c, .slice la lk ld] 124))
 have HBX := hid (Blk.new w 124 #[.slice (some ⟨ab, ao, none⟩) 1 c, .slice la lk ld])
 have HS := hid (HS.out.below HX.out)
 have HNE := hid (show ¬ w.heap.size = b from by have := h.blk.lt; omega)
 have HNB := hid (show ¬ ab = b from by have := h.low; omega)
 have HCA := hid (cell_keep HX.out ca)
 have HBW := hid hBw
 clear h hsm hs hln hA lb ca hab hBw
 go_enter Tryz.func122, Tryz.ntmps122
 go_wp2_with fail
 generalize w.alloc (.cells #[.slice (some ⟨ab, ao, none⟩) 1 c, .slice la lk ld] 124) = X at *
 have HX := hid (HX.out.mono HBW.out)
 go_cut [4] from 6 to 20 (fun q wx => q = .int .i64 ((enterL s.players x 8).2 : Nat) ∧ ∃ v', Hid (StO wx B b m u v' t e { s with players := (enterL s.players x 8).1 }) ∧ Hid (Below B w wx))
 case first =>
  refine wp_region_held_drew (S := (fun w' => w'.cell? ⟨w.heap.size, 0, none⟩ = some (.slice (some ⟨ab, ao, none⟩) 1 c) ∧ w'.cell? ⟨ab, ao, none⟩ = some (.string x))) (by kernel_rfl) (by (try dsimp only); (exact ⟨HBX.out.cell 0, HCA.out⟩)) (fun hHeld => ?_)
  have HS := hid (HS.out.below (Below.refl _ X).drew); have HBX := hid HBX.out.drew; have HX := hid HX.out.drew
  have HCA := hid (cell_keep (Below.refl _ X).drew HCA.out)
  generalize X.drew = X1 at *
  obtain ⟨X, rfl⟩ : ∃ Y, Y = X1 := ⟨X1, rfl⟩
  refine tk ?_ 0 (some 7) rfl rfl ?_ ?_; rotate_left; · (intro w hSw; (try dsimp only at hSw); go_simp <;> with_reducible rfl)
  try simp only [Act.put, pA0, pA1, pA2]
  refine tk ?_ 1 (some 8) rfl rfl ?_ ?_; rotate_left; · (intro w hSw; (try dsimp only at hSw); go_simp <;> with_reducible rfl)
  try simp only [Act.put, pA0, pA1, pA2]
  refine tk ?_ 2 (some 9) rfl rfl ?_ ?_; rotate_left; · (intro w hSw; (try dsimp only at hSw); go_simp <;> with_reducible rfl)
  try simp only [Act.put, pA0, pA1, pA2]
  refine tk ?_ 3 (some 10) rfl rfl ?_ ?_; rotate_left; · (intro w hSw; (try dsimp only at hSw); go_simp <;> with_reducible rfl)
  try simp only [Act.put, pA0, pA1, pA2]
  refine tk ?_ 5 (some 12) rfl rfl ?_ ?_; rotate_left; · (intro w hSw; (try dsimp only at hSw); go_simp <;> with_reducible rfl)
  try simp only [Act.put, pA0, pA1, pA2]
  refine tk ?_ 6 (some 13) rfl rfl ?_ ?_; rotate_left; · (intro w hSw; (try dsimp only at hSw); go_simp <;> with_reducible rfl)
  try simp only [Act.put, pA0, pA1, pA2]
  refine tk ?_ 7 (some 14) rfl rfl ?_ ?_; rotate_left; · (intro w hSw; (try dsimp only at hSw); go_simp <;> with_reducible rfl)
  try simp only [Act.put, pA0, pA1, pA2]
  refine tk ?_ 8 (some 15) rfl rfl ?_ ?_; rotate_left; · (intro w hSw; (try dsimp only at hSw); go_simp <;> with_reducible rfl)
  try simp only [Act.put, pA0, pA1, pA2]
  refine wpAnyH_ready (rs := [4]) (by kernel_rfl) (by simp) ?_
  refine AllReadyH.cons rfl (fun K hK => ?_) AllReadyH.nil
  have z0 := HS.out.blk.cell 2
  simp only [stV, List.getElem?_toArray, List.getElem?_cons_zero, List.getElem?_cons_succ] at z0
  go_simp
  clear z0
  refine hK.out _ _ ?_ (fun hHeld => ?_); · ((try dsimp only); (exact ⟨HBX.out.cell 0, HCA.out⟩))
  clear hK K
  try simp only [Act.put, pA0, pA1, pA2]
  refine wpAnyH_ready (rs := [9]) (by kernel_rfl) (by simp) ?_
  refine AllReadyH.cons rfl (fun K hK => ?_) AllReadyH.nil
  go_simp
  refine (enterAny B p s.players x 8 X (by have := HS.out.low; have := HS.out.blk.lt; omega) HS.out.pla HSM.out.2.2.1 (by omega)).mono ?_; rintro e' X1 ⟨v', rfl, ho, hg, hn⟩
  obtain ⟨A', c', rfl⟩ := own_form ho
  have HP := hid (HS.out.putPla hg ho hn)
  have HBX := hid (HBX.out.grown hg (own_ne_blk HS.out.pla HBX.out (by decide)))
  have HCA := hid (hg.cell HCA.out (by intro e; have := (HS.out.pla.lt _ e.symm).1; have := HAB.out; simp at *; omega))
  have HX := hid (HX.out.grown hg (Nat.le_trans (by have := HS.out.low; have := HS.out.blk.lt; omega) (Nat.le_refl _)) (fun k hk => (HS.out.pla.lt k hk).1))
  have HLB := hid HS.out.low
  clear hg ho hn HS hHeld
  obtain ⟨X, rfl⟩ : ∃ Y, Y = X1 := ⟨X1, rfl⟩
  refine hK.out _ _ ?_ (fun hHeld => ?_); · ((try dsimp only); (exact ⟨HBX.out.cell 0, HCA.out⟩))
  clear hK K
  try simp only [Act.put, pA0, pA1, pA2]
  refine tk ?_ 10 (some 6) rfl rfl ?_ ?_; rotate_left; · (intro w hSw; (try dsimp only at hSw); go_simp <;> with_reducible rfl)
  try simp only [Act.put, pA0, pA1, pA2]
  refine tk ?_ 11 (some 17) rfl rfl ?_ ?_; rotate_left; · (intro w hSw; (try dsimp only at hSw); go_simp <;> with_reducible rfl)
  try simp only [Act.put, pA0, pA1, pA2]
  refine tk ?_ 12 (some 18) rfl rfl ?_ ?_; rotate_left; · (intro w hSw; (try dsimp only at hSw); go_simp <;> with_reducible rfl)
  try simp only [Act.put, pA0, pA1, pA2]
  refine tk ?_ 13 (some 19) rfl rfl ?_ ?_; rotate_left; · (intro w hSw; (try dsimp only at hSw); go_simp <;> with_reducible rfl)
  try simp only [Act.put, pA0, pA1, pA2]
  refine tk ?_ 14 (some 20) rfl rfl ?_ ?_; rotate_left; · (intro w hSw; (try dsimp only at hSw); go_simp <;> with_reducible rfl)
  try simp only [Act.put, pA0, pA1, pA2]
  refine wpAnyH_ready (rs := [15]) (by kernel_rfl) (by simp) ?_
  refine AllReadyH.cons rfl (fun K hK => ?_) AllReadyH.nil
  have z0 := HP.out.1.cell 2
  have f0 := HP.out.1.free 2
  simp only [stV, List.getElem?_toArray, List.getElem?_cons_zero, List.getElem?_cons_succ] at z0
  go_simp
  have HS := hid HP.out.2
  have HBX := hid (HBX.out.far (p := ⟨b, 2, none⟩) HNE.out (.slice A' (enterL s.players x 8).1.length c'))
  have HCA := hid (cell_far X (p := ⟨b, 2, none⟩) (u := .slice A' (enterL s.players x 8).1.length c') HNB.out HCA.out)
  have HX := hid (HX.out.setCell (p := ⟨b, 2, none⟩) HLB.out (.slice A' (enterL s.players x 8).1.length c'))
  clear z0 f0 HP hHeld
  generalize X.setCell ⟨b, 2, none⟩ (.slice A' (enterL s.players x 8).1.length c') = X1 at *
  obtain ⟨X, rfl⟩ : ∃ Y, Y = X1 := ⟨X1, rfl⟩
  refine hK.out _ _ ?_ (fun hHeld => ?_); · ((try dsimp only); (exact ⟨HBX.out.cell 0, HCA.out⟩))
  clear hK K
  try simp only [Act.put, pA0, pA1, pA2]
  refine tk ?_ 16 (some 4) rfl rfl ?_ ?_; rotate_left; · (intro w hSw; (try dsimp only at hSw); go_simp <;> with_reducible rfl)
  try simp only [Act.put, pA0, pA1, pA2]
  refine wpAnyH_done (by kernel_rfl) ?_ _
  go_wp2_with fail
  go_meet
  case rel => exact ⟨rfl, _, HS, HX⟩
 case rest =>
  obtain ⟨rfl, v', HS, HX⟩ := hcut
  by_cases hz : (enterL s.players x 8).2 = 0
  · have HM := hid (show playerL s x = ({ s with players := (enterL s.players x 8).1, beats := s.beats.map (fun v => bits .or .i64 v (p2 s.beats.length)) ++ [0] }, 0) by unfold playerL; rw [if_pos hz])
    rw [hz]
    have z3 := HS.out.blk.cell 3
    simp only [stV, List.getElem?_toArray, List.getElem?_cons_zero, List.getElem?_cons_succ] at z3
    have HLN := hid HSM.out.2.2.2.1
    have hbl : s.beats.length ≤ 8 := HLN.out
    obtain ⟨ta, tc, rfl⟩ : ∃ ta tc, t = .slice ta s.beats.length tc := own_form HS.out.bea
    clear hz
    go_wp2_with fail
    clear z3
    go_loopg [28] s.beats.length (fun gk i wr => ∃ (d : Nat), gk + d = s.beats.length ∧ i = .int .i64 d ∧ Hid (StO wr B b m u v' (.slice ta s.beats.length tc) e { s with players := (enterL s.players x 8).1, beats := (s.beats.take d).map (fun v => bits .or .i64 v (p2 s.beats.length)) ++ s.beats.drop d }) ∧ Hid (Below B w wr))
    case atStart => exact ⟨0, by omega, rfl, by simpa using HS, HX⟩
    case round =>
     obtain ⟨d, hd, rfl, HS, HX⟩ := hrel
     have HD := hid hd
     obtain ⟨l', hl'⟩ : ∃ l', l' = (s.beats.take d).map (fun v => bits .or .i64 v (p2 s.beats.length)) ++ s.beats.drop d := ⟨_, rfl⟩
     rw [← hl'] at HS
     have HLE := hid hl'
     by_cases hlt : d < s.beats.length
     · have HLT := hid hlt
       have hdl : d < l'.length := by rw [hl']; simp; omega
       have HDL := hid hdl
       obtain ⟨g, c', ht, hc, hf, hBg, hgb, hlc, hcm⟩ := HS.out.beaAt hdl
       simp only [Value.slice.injEq] at ht
       obtain ⟨rfl, ht2, rfl⟩ := ht
       have HC := hid hc
       have HF := hid hf
       have HGB := hid hgb
       have HG := hid hBg
       obtain ⟨y, hy⟩ : ∃ y, y = l'[d]'hdl := ⟨_, rfl⟩
       rw [← hy] at HC
       have HY := hid hy
       have fit : Fits (s.beats.length : Int) := ⟨by omega, by omega⟩
       have hdt : (d : Int) < s.beats.length := by omega
       clear hd hl' hc hf hgb hlc hcm hBg hy ht2
       obtain ⟨X, rfl⟩ : ∃ Y, Y = wr := ⟨wr, rfl⟩
       go_wp2_with fail
       refine wp_region_held_drew (S := (fun w' => w'.cell? ⟨b, 3, none⟩ = some (.slice (some ⟨g, 0, none⟩) s.beats.length tc))) (by kernel_rfl) (by (try dsimp only); (exact HS.out.blk.cell 3)) (fun hHeld => ?_)
       have HS := hid (HS.out.below (Below.refl _ X).drew); have HX := hid HX.out.drew
       have HC := hid (cell_keep (Below.refl _ X).drew HC.out)
       generalize X.drew = X1 at *
       obtain ⟨X, rfl⟩ : ∃ Y, Y = X1 := ⟨X1, rfl⟩
       refine tk ?_ 0 (some 31) rfl rfl ?_ ?_; rotate_left; · (intro w hSw; (try dsimp only at hSw); go_simp <;> with_reducible rfl)
       try simp only [Act.put, pA0, pA1, pA2]
       refine tk ?_ 1 (some 32) rfl rfl ?_ ?_; rotate_left; · (intro w hSw; (try dsimp only at hSw); go_simp <;> with_reducible rfl)
       try simp only [Act.put, pA0, pA1, pA2]
       refine tk ?_ 2 (some 33) rfl rfl ?_ ?_; rotate_left; · (intro w hSw; (try dsimp only at hSw); go_simp <;> with_reducible rfl)
       try simp only [Act.put, pA0, pA1, pA2]
       refine tk ?_ 3 (some 34) rfl rfl ?_ ?_; rotate_left; · (intro w hSw; (try dsimp only at hSw); go_simp <;> with_reducible rfl)
       try simp only [Act.put, pA0, pA1, pA2]
       refine tk ?_ 4 (some 35) rfl rfl ?_ ?_; rotate_left; · (intro w hSw; (try dsimp only at hSw); go_simp <;> with_reducible rfl)
       try simp only [Act.put, pA0, pA1, pA2]
       refine tk ?_ 5 (some 36) rfl rfl ?_ ?_; rotate_left; · (intro w hSw; (try dsimp only at hSw); go_simp <;> with_reducible rfl)
       try simp only [Act.put, pA0, pA1, pA2]
       refine tk ?_ 7 (some 38) rfl rfl ?_ ?_; rotate_left; · (intro w hSw; (try dsimp only at hSw); go_simp <;> with_reducible rfl)
       try simp only [Act.put, pA0, pA1, pA2]
       refine tk ?_ 8 (some 39) rfl rfl ?_ ?_; rotate_left; · (intro w hSw; (try dsimp only at hSw); go_simp <;> with_reducible rfl)
       try simp only [Act.put, pA0, pA1, pA2]
       refine tk ?_ 9 (some 40) rfl rfl ?_ ?_; rotate_left; · (intro w hSw; (try dsimp only at hSw); go_simp <;> with_reducible rfl)
       try simp only [Act.put, pA0, pA1, pA2]
       refine tk ?_ 10 (some 41) rfl rfl ?_ ?_; rotate_left; · (intro w hSw; (try dsimp only at hSw); go_simp <;> with_reducible rfl)
       try simp only [Act.put, pA0, pA1, pA2]
       refine tk ?_ 11 (some 42) rfl rfl ?_ ?_; rotate_left; · (intro w hSw; (try dsimp only at hSw); go_simp <;> with_reducible rfl)
       try simp only [Act.put, pA0, pA1, pA2]
       refine tk ?_ 12 (some 43) rfl rfl ?_ ?_; rotate_left; · (intro w hSw; (try dsimp only at hSw); go_simp <;> with_reducible rfl)
       try simp only [Act.put, pA0, pA1, pA2]
       refine wpAnyH_ready (rs := [6]) (by kernel_rfl) (by simp) ?_
       refine AllReadyH.cons rfl (fun K hK => ?_) AllReadyH.nil
       have z0 := HC.out
       go_simp
       clear z0
       refine hK.out _ _ ?_ (fun hHeld => ?_); · ((try dsimp only); (exact HS.out.blk.cell 3))
       clear hK K
       try simp only [Act.put, pA0, pA1, pA2]
       refine tk ?_ 13 (some 44) rfl rfl ?_ ?_; rotate_left; · (intro w hSw; (try dsimp only at hSw); go_simp <;> with_reducible rfl)
       try simp only [Act.put, pA0, pA1, pA2]
       refine tk ?_ 14 (some 45) rfl rfl ?_ ?_; rotate_left; · (intro w hSw; (try dsimp only at hSw); go_simp <;> with_reducible rfl)
       try simp only [Act.put, pA0, pA1, pA2]
       refine wpAnyH_ready (rs := [15]) (by kernel_rfl) (by simp) ?_
       refine AllReadyH.cons rfl (fun K hK => ?_) AllReadyH.nil
       have z0 := HC.out
       have f0 : X.frozen? ⟨g, d, none⟩ = false := own_freeV HS.out.bea rfl d
       go_simp
       have HS := hid (HS.out.setBea HDL.out (bits .or .i64 y (p2 s.beats.length)))
       have HX := hid (HX.out.setCell (p := ⟨g, d, none⟩) HG.out (.int .i64 (bits .or .i64 y (p2 s.beats.length))))
       clear z0 f0 hHeld HC
       generalize X.setCell ⟨g, d, none⟩ (.int .i64 (bits .or .i64 y (p2 s.beats.length))) = X1 at *
       obtain ⟨X, rfl⟩ : ∃ Y, Y = X1 := ⟨X1, rfl⟩
       refine hK.out _ _ ?_ (fun hHeld => ?_); · ((try dsimp only); (exact HS.out.blk.cell 3))
       clear hK K
       try simp only [Act.put, pA0, pA1, pA2]
       refine wpAnyH_done (by kernel_rfl) ?_ _
       go_wp2_with fail
       go_roundg (gk - 1)
       case measure => have := HD.out; have := HLT.out; omega
       case rel => exact ⟨d + 1, by have := HD.out; have := HLT.out; omega, by go_num, by have h2 := HS.out; rw [HY.out, step_map _ s.beats l' d HLT.out HLE.out HDL.out] at h2; exact h2, HX⟩
     · obtain rfl : d = s.beats.length := by have := HLE.out; have := HD.out; omega
       have hl2 : l' = s.beats.map (fun v => bits .or .i64 v (p2 s.beats.length)) := by rw [hl', List.take_length, List.drop_length, List.append_nil]
       have hll : l'.length = s.beats.length := by rw [hl2]; simp
       have HL2 := hid hl2
       have HT := hid (show wr.ownsRow B 3 1 (.slice ta s.beats.length tc) s.beats.length (intV l') from by have h2 : wr.ownsRow B 3 1 (.slice ta s.beats.length tc) l'.length (intV l') := HS.out.bea; rwa [hll] at h2)
       have z3 := HS.out.blk.cell 3
       simp only [stV, List.getElem?_toArray, List.getElem?_cons_zero, List.getElem?_cons_succ] at z3
       have HBx := hid (show B ≤ wr.heap.size from by have := HS.out.low; have := HS.out.blk.lt; omega)
       clear hd hl' hl2 hll hlt
       go_wp2_with (at_builtin; refine push1L TI27 wr #[.int .i64 0] B _ _ _ HT.out _ _ wr.heap.size rfl rfl rfl rfl rfl rfl (by simp [Value.oneCell']) (by omega) (by omega) HBx.out ?_; intro v1 w8 hown1 hgr hap; obtain ⟨A8, c8, rfl⟩ := own_form hown1; have HP := hid (HS.out.putBea (l := l' ++ [0]) hgr (by have hll : l'.length = s.beats.length := (by rw [HL2.out]; simp); simpa [intV, hll] using hown1) hap); have HX8 := hid (HX.out.grown hgr HBx.out (fun k hk => (HS.out.bea.lt k hk).1)); have z8 := HP.out.1.cell 3; have f8 := HP.out.1.free 3; simp only [stV, List.getElem?_toArray, List.getElem?_cons_zero, List.getElem?_cons_succ] at z8; clear hown1 hgr hap)
       go_ret
       rw [HM.out]
       exact ⟨rfl, ⟨_, _, by have h2 := HP.out.2; rw [HL2.out] at h2; exact h2⟩, HX8.out.setCell (p := ⟨b, 3, none⟩) HS.out.low _⟩
  · have HM := hid (show playerL s x = (s, (enterL s.players x 8).2) by unfold playerL; rw [if_neg hz])
    have HEQ := hid (enterL_err hz)
    have hz2 : ¬ ((enterL s.players x 8).2 : Int) = 0 := by omega
    obtain ⟨k, hk⟩ : ∃ k, k = (enterL s.players x 8).2 := ⟨_, rfl⟩
    rw [← hk] at hz2 ⊢
    have HK := hid hk
    clear hz hk
    go_wp2
    go_ret
    have h2 := HS.out
    rw [HEQ.out] at h2
    rw [HM.out, ← HK.out]
    exact ⟨v', t, rfl, h2, HX.out⟩
end Go.Proofs.YtnibidmlkbcfkaaGreatDoor
/- Walks of weigh's possibilities, valid and Bound. Condition: numbers from 0 to 1000. -/
namespace Go.Proofs.YtnibidmlkbcfkaaGreatDoor
open Go.RowKit Go.Maps
/-- What is known of coins, as a value. -/
def knV (b h t g : Int) (nn : Bool) : Value := .agg #[.int .i64 b, .int .i64 h, .int .i64 t, .int .i64 g, .bool nn]
def inK (b h t g : Int) : Prop := 0 ≤ b ∧ b ≤ 1000 ∧ 0 ≤ h ∧ h ≤ 1000 ∧ 0 ≤ t ∧ t ≤ 1000 ∧ 0 ≤ g ∧ g ≤ 1000
set_option maxRecDepth 100000 in
theorem possF (b h t g : Int) (nn : Bool) (hk : inK b h t g) (w : World) :
 Calls Tryz.prog 177 #[knV b h t g nn] w fun x w' => x = .returned (.int .i64 (2 * b + h + t + if nn then 1 else 0)) ∧ Below w.heap.size w w' := by
 unfold inK at hk
 unfold knV
 cases nn
 · go_enter Tryz.func177, Tryz.ntmps177
   go_wp2
   go_ret
   refine ⟨?_, (Below.refl _ w).alloc (Nat.le_refl _) _⟩
   congr 2
 · go_enter Tryz.func177, Tryz.ntmps177
   go_wp2
   go_ret
   refine ⟨?_, (Below.refl _ w).alloc (Nat.le_refl _) _⟩
   congr 2
theorem min4 (t : TypeId) (ts : Array TypeId) (a b c d : Int) (W : World) : (Builtin.min_ ts t #[.int .i64 a, .int .i64 b, .int .i64 c, .int .i64 d]).run Tryz.prog W = .ok (.int .i64 (min (min (min a b) c) d)) W := by
 have e : ∀ x y : Int, (if y < x then y else x) = min x y := fun x y => by
  rw [Int.min_def]
  split <;> split <;> omega
 simp [Builtin.min_, Builtin.min2, e]
theorem max4 (t : TypeId) (ts : Array TypeId) (a b c d : Int) (W : World) : (Builtin.max_ ts t #[.int .i64 a, .int .i64 b, .int .i64 c, .int .i64 d]).run Tryz.prog W = .ok (.int .i64 (max (max (max a b) c) d)) W := by
 have e : ∀ x y : Int, (if y > x then y else x) = max x y := fun x y => by
  rw [Int.max_def]
  split <;> split <;> omega
 simp [Builtin.max_, Builtin.max2, e]
/-- Is what is known valid? -/
def knOk (b h t g : Int) : Bool := decide (b + h + t ≤ 13) && decide (g ≤ 13)
set_option maxRecDepth 100000 in
set_option maxHeartbeats 2000000 in
theorem validF (b h t g : Int) (hk : inK b h t g) (w : World) :
 Calls Tryz.prog 175 #[knV b h t g true] w fun x w' => x = .returned (.bool (knOk b h t g)) ∧ Below w.heap.size w w' := by
 have HP := hid fun W => possF b h t g true hk W
 unfold inK at hk
 unfold knV at HP ⊢
 unfold knOk
 have m4 := fun W => min4 3 #[3, 3, 3, 3] b h t g W
 have x4 := fun W => max4 3 #[3, 3, 3, 3] b h t g W
 have hmin : 0 ≤ min (min (min b h) t) g := by omega
 have hmax : (max (max (max b h) t) g ≤ 13) ↔ b ≤ 13 ∧ h ≤ 13 ∧ t ≤ 13 ∧ g ≤ 13 := by omega
 generalize min (min (min b h) t) g = mn at *
 generalize max (max (max b h) t) g = mx at *
 have g1 : decide (mn < 0) = false := decide_eq_false (by omega)
 by_cases h13 : mx ≤ 13
 · have g2 : decide (13 < mx) = false := decide_eq_false (by omega)
   have hx := hmax.1 h13
   have e1 : wrap64 (b + h) = b + h := by simp only [wrap64]; omega
   have e2 : wrap64 (b + h + t) = b + h + t := by simp only [wrap64]; omega
   rw [show decide (g ≤ 13) = true from decide_eq_true hx.2.2.2, Bool.and_true]
   by_cases hs : b + h + t ≤ 13
   · have g3 : decide (b + h + t ≤ 13) = true := decide_eq_true hs
     have g4 : decide (1 ≤ 2 * b + h + t + 1) = true := decide_eq_true (by omega)
     clear hmin hmax h13 hx hs hk
     go_enter Tryz.func175, Tryz.ntmps175
     go_wp2_with fail
     refine (HP.out _).mono ?_; rintro x w2 ⟨rfl, b2⟩
     go_wp2
     go_ret
     exact ⟨by first | rfl | (rw [g3]; rfl), below_call ((Below.refl _ w).alloc (Nat.le_refl _) _) b2 (by simp)⟩
   · have g3 : decide (b + h + t ≤ 13) = false := decide_eq_false hs
     clear hmin hmax h13 hx hs hk
     go_enter Tryz.func175, Tryz.ntmps175
     go_wp2
     go_ret
     exact ⟨by first | rfl | (rw [g3]; rfl), (Below.refl _ w).alloc (Nat.le_refl _) _⟩
 · have g2 : decide (13 < mx) = true := decide_eq_true (by omega)
   have hf : (decide (b + h + t ≤ 13) && decide (g ≤ 13)) = false := by
    rw [Bool.and_eq_false_iff, decide_eq_false_iff_not, decide_eq_false_iff_not]
    omega
   rw [hf]
   clear hmin hmax h13 hf hk
   go_enter Tryz.func175, Tryz.ntmps175
   go_wp2
   go_ret
   exact ⟨rfl, (Below.refl _ w).alloc (Nat.le_refl _) _⟩
/-- The bound by counting. -/
def bndR (p : Int) : Nat := if p ≤ 1 then 0 else if p ≤ 3 then 1 else if p ≤ 9 then 2 else 3
theorem bndR_le (p : Int) : bndR p ≤ 3 := by
 unfold bndR
 split
 · omega
 · split
   · omega
   · split <;> omega
theorem bndR_lt {p : Int} (hp : p ≤ 27) {k : Nat} (hk : k ≤ 3) : (((3 ^ k : Nat) : Int) < p) ↔ k < bndR p := by
 unfold bndR
 rcases (show k = 0 ∨ k = 1 ∨ k = 2 ∨ k = 3 by omega) with rfl | rfl | rfl | rfl
 all_goals
  simp only [Nat.reducePow]
  split
  · omega
  · split
    · omega
    · split <;> omega
theorem pow3_le {k : Nat} (hk : k ≤ 3) : 3 ^ k ≤ 27 := by
 rcases (show k = 0 ∨ k = 1 ∨ k = 2 ∨ k = 3 by omega) with rfl | rfl | rfl | rfl <;> decide
set_option maxRecDepth 100000 in
set_option maxHeartbeats 2000000 in
theorem boundF (b h t g : Int) (hk : inK b h t g) (w : World) :
 Calls Tryz.prog 143 #[knV b h t g true] w fun x w' => x = .returned (.tuple #[.int .i64 (((if knOk b h t g then bndR (2 * b + h + t + 1) else 0 : Nat) : Int)), .int .i64 (if knOk b h t g then 0 else 2)]) ∧ Below w.heap.size w w' := by
 have HP := hid fun W => possF b h t g true hk W
 have HV := hid fun W => validF b h t g hk W
 have HK := hid hk
 unfold inK at hk
 unfold knV at HP HV ⊢
 cases hok : knOk b h t g
 · rw [hok] at HV
   simp only [Bool.false_eq_true, if_false]
   clear hok hk
   go_enter Tryz.func143, Tryz.ntmps143
   go_wp2_with fail
   refine (HV.out _).mono ?_; rintro x w2 ⟨rfl, b2⟩
   go_wp2
   go_ret2
   exact ⟨rfl, below_call ((Below.refl _ w).alloc (Nat.le_refl _) _) b2 (by simp)⟩
 · rw [hok] at HV
   simp only [if_true]
   have hp : 1 ≤ 2 * b + h + t + 1 ∧ 2 * b + h + t + 1 ≤ 27 := by
    unfold knOk at hok
    simp only [Bool.and_eq_true, decide_eq_true_iff] at hok
    omega
   have HB0 := hid (Blk.new w 146 #[.int .i64 b, .int .i64 h, .int .i64 t, .int .i64 g, .bool true])
   clear hok hk
   go_enter Tryz.func143, Tryz.ntmps143
   go_wp2_with fail
   refine (HV.out _).mono ?_; rintro x w2 ⟨rfl, b2⟩
   have HB1 := hid (HB0.out.keep b2)
   have HW := hid (below_call ((Below.refl _ w).alloc (Nat.le_refl _) _) b2 (by simp))
   clear b2 HB0
   have hN := bndR_le (2 * b + h + t + 1)
   have HL := hid fun k => @bndR_lt (2 * b + h + t + 1) hp.2 k
   obtain ⟨N, hNe⟩ : ∃ N, N = bndR (2 * b + h + t + 1) := ⟨_, rfl⟩
   have HNE := hid hNe
   rw [← hNe] at hN HL
   clear hNe
   go_wp2
   go_loopg [4, 5] N (fun gk x y wr => ∃ k : Nat, gk + k = N ∧ x = .int .i64 k ∧ y = .int .i64 ((3 ^ k : Nat) : Int) ∧ Hid (Blk wr w.heap.size 146 #[.int .i64 b, .int .i64 h, .int .i64 t, .int .i64 g, .bool true]) ∧ Hid (Below w.heap.size w wr))
   case atStart => exact ⟨0, by omega, rfl, rfl, HB1, HW⟩
   case round =>
    clear HB1 HW
    obtain ⟨k, hq, rfl, rfl, HB1, HW⟩ := hrel
    have HQ := hid hq
    have c0 := HB1.out.cell 0
    have c1 := HB1.out.cell 1
    have c2 := HB1.out.cell 2
    have c3 := HB1.out.cell 3
    have c4 := HB1.out.cell 4
    simp only [List.getElem?_toArray, List.getElem?_cons_zero, List.getElem?_cons_succ] at c0 c1 c2 c3 c4
    have hk3 : k ≤ 3 := by omega
    have HPW := hid (HP.out wr)
    have hpw := pow3_le hk3
    by_cases hlt : k < N
    · have HLT := hid hlt
      have gg : decide (((3 ^ k : Nat) : Int) < 2 * b + h + t + 1) = true := decide_eq_true ((HL.out k hk3).2 hlt)
      have e3 : ((3 ^ (k + 1) : Nat) : Int) = ((3 ^ k : Nat) : Int) * 3 := by rw [Nat.pow_succ]; push_cast; rfl
      generalize 3 ^ k = pk at *
      clear hq
      go_wp2_with fail
      refine (HPW.out).mono ?_; rintro x w3 ⟨rfl, b3⟩
      have HB3 := hid (HB1.out.keep b3)
      have HW3 := hid (below_call HW.out b3 HW.out.size)
      clear b3 HPW c0 c1 c2 c3 c4
      go_wp2
      go_roundg (gk - 1)
      case measure => have := HQ.out; have := HLT.out; omega
      case rel => exact ⟨k + 1, by have := HQ.out; have := HLT.out; omega, by go_num, by rw [e3], HB3, HW3⟩
    · have gg : decide (((3 ^ k : Nat) : Int) < 2 * b + h + t + 1) = false := decide_eq_false (fun hc => hlt ((HL.out k hk3).1 hc))
      obtain rfl : k = N := by have := HQ.out; omega
      generalize 3 ^ k = pk at *
      clear hq hlt
      go_wp2_with fail
      refine (HPW.out).mono ?_; rintro x w3 ⟨rfl, b3⟩
      have HW3 := hid (below_call HW.out b3 HW.out.size)
      clear b3 HPW c0 c1 c2 c3 c4
      go_wp2
      go_ret2
      exact ⟨by have e := HNE.out; simp [← e], HW3.out⟩
end Go.Proofs.YtnibidmlkbcfkaaGreatDoor
