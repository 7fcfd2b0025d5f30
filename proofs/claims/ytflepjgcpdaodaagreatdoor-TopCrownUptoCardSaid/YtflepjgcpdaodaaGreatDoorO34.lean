/- Texts of this proof, one behind the other; each says its condition at its head. -/
import Derived.Test.YtflepjgcpdaodaaGreatDoorO26
import Derived.Test.YtflepjgcpdaodaaGreatDoorO5
import Derived.Deep.AppendLies
import Derived.Deep.RegionHeld3
import Derived.Deep.CutRange
import Derived.Test.YtflepjgcpdaodaaGreatDoorO33
import Derived.Test.YtflepjgcpdaodaaGreatDoorO27
import Derived.Test.YtflepjgcpdaodaaGreatDoorO14
/- Walks of order's all and below at one element, and of lines' closure where nothing is left. Condition: the library's table of 64 numbers stands in its variable. -/
namespace Go.Proofs.YtflepjgcpdaodaaGreatDoor
open Go.RowKit Go.Shelf
attribute [local go_sem] Oper.semAt_some
set_option maxRecDepth 100000 in
theorem allOne (w : World) :
 Calls Tryz.prog 174 #[.agg ord1] w fun e w' => e = .returned (.int .i64 1) ∧ Below w.heap.size w w' := by
 unfold ord1
 go_enter Tryz.func174, Tryz.ntmps174
 go_wp2
 go_ret
 exact ⟨rfl, (Below.refl _ w).alloc (Nat.le_refl _) _⟩
set_option maxRecDepth 100000 in
theorem belowOne (w : World) :
 Calls Tryz.prog 173 #[.agg ord1, .int .i64 0] w fun e w' => e = .returned (.int .i64 0) ∧ Below w.heap.size w w' := by
 unfold ord1
 go_enter Tryz.func173, Tryz.ntmps173
 go_wp2
 refine wp_loop_rounds 2 ?_
 rw [rounds_succ]
 go_wp2
 rw [rounds_succ]
 go_wp2
 go_ret
 exact ⟨ret_i (by kernel_rfl), (Below.refl _ w).alloc (Nat.le_refl _) _⟩
theorem TII : TS Tryz.prog 136 27 1 24 (.slice none 0 0) := ⟨Tryz.underlying136, by kernel_rfl, rfl, by decide⟩
/-- The boxes of lines: the order, what came out, the line, and the closure. -/
structure LnS (W : World) (bo bx bl bg : Nat) (x l : Value) : Prop where
 ord : Blk W bo 179 ord1
 out : Blk W bx 136 #[x]
 line : Blk W bl 27 #[l]
 grow : Blk W bg 250 #[.func (.func 172) #[] #[.pointer (some ⟨bx, 0, none⟩), .pointer (some ⟨bl, 0, none⟩), .pointer (some ⟨bo, 0, none⟩), .pointer (some ⟨bg, 0, none⟩)]]
theorem LnS.keep {W W' : World} {bo bx bl bg : Nat} {x l : Value} (h : LnS W bo bx bl bg x l) (hb : Below W.heap.size W W') : LnS W' bo bx bl bg x l := ⟨h.ord.keep hb, h.out.keep hb, h.line.keep hb, h.grow.keep hb⟩
theorem Chs.trans2 {S : Nat → Prop} {w W : World} (h : Chs S w W) {p : Addr} (hp : w.heap.size ≤ p.block) (v : Value) : Chs S w (W.setCell p v) :=
 ⟨h.os, h.tape, h.output, by simpa using h.size, fun i hi hn => (Below.heap_setCell W p v i (by omega)).trans (h.block i hi hn)⟩
theorem Tab.chs {S : Nat → Prop} {w w' : World} (h : Tab w) (hc : Chs S w w') (hs : ¬ S 2) : Tab w' := fun j hj =>
 (World.cell?_of_block (a := ⟨2, j, none⟩) (hc.block 2 (World.block_lt_of_cell? _ _ (h j hj)) hs)).trans (h j hj)
theorem ownFrom_chs {β : Type} {B : Nat} {S : Nat → Prop} {w0 : World} (hB : w0.heap.size ≤ B) : OwnFrom B (fun (_ : β) W => Chs S w0 W) := fun _ X Y row hs hg hr =>
 ⟨hg.os.trans hs.os, hg.tape.trans hs.tape, hg.output.trans hs.output, Nat.le_trans hs.size hg.size, fun i hi hn => (hg.block i (Nat.lt_of_lt_of_le hi hs.size) (fun e => by have := (hr i e.symm).1; omega)).trans (hs.block i hi hn)⟩
theorem ownFrom_own {β : Type} (B base : Nat) (e : TypeId) (size n : Nat) (v : Value) (xs : List Value) : OwnFrom B (fun (_ : β) W => W.ownsRow base e size v n xs) := fun _ X Y row hs hg hr => hs.kept hg (by
 cases hv : v.ownBlock with
 | none => exact .inl rfl
 | some g =>
  refine .inr fun e' => ?_
  obtain ⟨_, o, ho, hc⟩ := hr g e'.symm
  obtain ⟨cs, hcs⟩ := own_kind2 hs g hv
  rw [hcs] at ho
  cases ho
  cases hc)
set_option maxRecDepth 100000 in
set_option maxHeartbeats 4000000 in
/-- lines' closure, where nothing is left: the line goes out. -/
theorem growZero (B : Nat) (bo bx bl bg : Nat) (A : Option Addr) (c : Nat) (w : World) (h : LnS w bo bx bl bg (.slice none 0 0) (.slice A 1 c)) (hs : Sl w A 1 c [.int .i64 0]) (hT : Tab w) (hB : B ≤ w.heap.size) (HBX : ¬ bx = 2) :
 Calls Tryz.prog 172 #[.int .i64 0, .pointer (some ⟨bx, 0, none⟩), .pointer (some ⟨bl, 0, none⟩), .pointer (some ⟨bo, 0, none⟩), .pointer (some ⟨bg, 0, none⟩)] w fun e w' => e = .returned (.tuple #[]) ∧
  ∃ O oc R rc, Blk w' bx 136 #[.slice O 1 oc] ∧ w'.ownsRow B 27 1 (.slice O 1 oc) 1 [.slice R 1 rc] ∧ w'.ownsRow B 3 1 (.slice R 1 rc) 1 [.int .i64 0] ∧ Chs (· = bx) w w' := by
 refine (callsIn_wide (n := 9)).1 ?_
 refine callsIn_of_wp_marks Tryz.func172 rfl trivial ?_ rfl
 simp only [Tryz.ntmps172, List.size_toArray, List.length_cons, List.length_nil, Nat.reduceAdd, Nat.reduceSub, Array.replicate_succ, Array.replicate_zero, List.push_toArray, List.append_toArray, List.nil_append, List.cons_append]
 have HT := hid hT
 have H1 := hid (h.keep ((Below.refl _ w).alloc (Nat.le_refl _) (.cells #[.int .i64 0] 3)))
 have H5 := hid (Blk.new w 3 #[.int .i64 0])
 have S1 := hid (hs.alloc (.cells #[.int .i64 0] 3))
 have B1 := hid ((Below.refl w.heap.size w).alloc (Nat.le_refl _) (.cells #[.int .i64 0] 3))
 have k0 := H5.out.cell 0
 simp only [List.getElem?_toArray, List.getElem?_cons_zero] at k0
 have HLT := hid (show bo < w.heap.size ∧ bx < w.heap.size ∧ bl < w.heap.size ∧ bg < w.heap.size from ⟨h.ord.lt, h.out.lt, h.line.lt, h.grow.lt⟩)
 clear h hs hT
 gi_wp2
 generalize w.alloc (.cells #[.int .i64 0] 3) = W at *
 have z1 := H1.out.out.cell 0
 have z2 := H1.out.line.cell 0
 simp only [List.getElem?_toArray, List.getElem?_cons_zero] at z1 z2
 have HCL := hid (cloneI A 1 c [.int .i64 0] (by simp [Value.oneCell']) (by omega) W.drew S1.out.drew)
 have J1 := hid (H1.out.keep (Below.refl _ W).drew)
 have HBW := hid (show B ≤ W.drew.heap.size from Nat.le_trans hB B1.out.size)
 obtain ⟨i0, hi0, hz0, hz1, hzz⟩ := info_parts TII.inf
 refine wpIn_wide.2 ?_
 go_cut [9] from 9 to 13 (fun t wx => ∃ O oc R rc, Hid (Blk wx bx 136 #[.slice O 1 oc]) ∧ Hid (wx.ownsRow B 27 1 (.slice O 1 oc) 1 [.slice R 1 rc]) ∧ Hid (wx.ownsRow B 3 1 (.slice R 1 rc) 1 [.int .i64 0]) ∧ Hid (Chs (· = bx) W.drew wx))
 case first =>
  refine wp_region_noPanic ?_
  refine wp_region_held_drew (S := (fun w' => w'.cell? ⟨bl, 0, none⟩ = some (.slice A 1 c))) (by kernel_rfl) (by (try dsimp only); exact z2) (fun hHeld => ?_)
  refine tk ?_ 1 (some 10) rfl rfl ?_ ?_; rotate_left; · (intro w hSw; (try dsimp only at hSw); go_simp <;> with_reducible rfl)
  try simp only [Act.put, pA0, pA1, pA2]
  refine wpAnyH_ready (rs := [0, 2]) (by kernel_rfl) (by simp) ?_
  refine AllReadyH.cons rfl (fun K hK => ?_) (AllReadyH.cons rfl (fun K hK => ?_) (AllReadyH.nil))
  · have z1 := J1.out.out.cell 0
    simp only [List.getElem?_toArray, List.getElem?_cons_zero] at z1
    go_simp
    clear z1
    refine hK.out _ _ ?_ (fun hHeld => ?_)
    · (try dsimp only)
      exact J1.out.line.cell 0
    clear hK K
    try simp only [Act.put, pA0, pA1, pA2]
    refine wpAnyH_ready (rs := [2]) (by kernel_rfl) (by simp) ?_
    refine AllReadyH.cons rfl (fun K hK => ?_) (AllReadyH.nil)
    · go_simp
      refine (HCL.out).mono ?_; rintro e w2 ⟨R, rc, rfl, hr, b2⟩
      have J2 := hid (J1.out.keep b2)
      have HR2 := hid hr
      have D2 := hid b2
      clear hr b2
      refine hK.out _ _ ?_ (fun hHeld => ?_)
      · (try dsimp only)
        exact J2.out.line.cell 0
      clear hK K
      try simp only [Act.put, pA0, pA1, pA2]
      refine wpAnyH_ready (rs := [3]) (by kernel_rfl) (by simp) ?_
      refine AllReadyH.cons rfl (fun K hK => ?_) (AllReadyH.nil)
      · go_simp
        have J3 := hid (J2.out.keep ((Below.refl _ _).alloc (Nat.le_refl _) (.cells #[.slice R 1 rc] 27)))
        have HR3 := hid (HR2.out.alloc (.cells #[.slice R 1 rc] 27))
        have D3 := hid (D2.out.alloc D2.out.size (.cells #[.slice R 1 rc] 27))
        refine hK.out _ _ ?_ (fun hHeld => ?_)
        · (try dsimp only)
          exact J3.out.line.cell 0
        clear hK K
        try simp only [Act.put, pA0, pA1, pA2]
        refine wpAnyH_ready (rs := [4]) (by kernel_rfl) (by simp) ?_
        refine AllReadyH.cons rfl (fun K hK => ?_) (AllReadyH.nil)
        · have hB4 : B ≤ (w2.alloc (.cells #[.slice R 1 rc] 27)).heap.size := Nat.le_trans HBW.out D3.out.size
          refine step_append_lies _ rfl (.tmp 9) (.tmp 12) 136 rfl B 27 i0 (.slice none 0 0) 1 24 TII.und hi0 hz0 hz1 hzz TII.zc TII.sz (.slice none 0 0) 0 [] rfl (World.ownsRow_nil _ _ _ _) _ 1 1 (#[.slice R 1 rc] : Array Value).toList rfl rfl (cells_new _ _ _) (by simp [Value.oneCell']) (by decide) (by unfold maxLen; omega) (by omega) hB4 _ rfl ?_; intro g cap wA howA hgA hatA hltA
          have bA := (Below.refl _ _).grown hgA (Nat.le_refl _) (fun k hk => by simp [Value.ownBlock] at hk)
          have J4 := hid (J3.out.keep bA)
          have HR4 := hid (own_below HR3.out bA)
          have HO4 := hid howA
          have D4 := hid (below_call D3.out bA D3.out.size)
          clear howA hgA hatA hltA bA hB4
          refine hK.out _ _ ?_ (fun hHeld => ?_)
          · (try dsimp only)
            exact J4.out.line.cell 0
          clear hK K
          try simp only [Act.put, List.setIfInBounds_toArray]
          refine wpAnyH_ready (rs := [5]) (by kernel_rfl) (by simp) ?_
          refine AllReadyH.cons rfl (fun K hK => ?_) (AllReadyH.nil)
          · have z5 : World.cell? _ ⟨bx, 0, none⟩ = some (.slice none 0 0) := J4.out.out.cell 0
            have g5 := J4.out.out.free 0
            go_simp
            clear z5 g5
            have J5 := hid (J4.out.out.set 0 (.slice (some ⟨g, 0, none⟩) 1 cap))
            have HL5 := hid (J4.out.line.far (p := ⟨bx, 0, none⟩) (blk_neM J4.out.line J4.out.out (by decide)) (.slice (some ⟨g, 0, none⟩) 1 cap))
            have HO5 := hid (own_grown HO4.out J4.out.out (by decide) (setGrown _ ⟨bx, 0, none⟩ (.slice (some ⟨g, 0, none⟩) 1 cap)))
            have HR5 := hid (own_grown HR4.out J4.out.out (by decide) (setGrown _ ⟨bx, 0, none⟩ (.slice (some ⟨g, 0, none⟩) 1 cap)))
            have HC5 := hid ((Chs.of_below (S := (· = bx)) D4.out).trans (Chs.setCell (S := (· = bx)) (a := ⟨bx, 0, none⟩) rfl (.slice (some ⟨g, 0, none⟩) 1 cap)))
            refine hK.out _ _ ?_ (fun hHeld => ?_)
            · (try dsimp only)
              exact HL5.out.cell 0
            clear hK K
            try simp only [Act.put, List.setIfInBounds_toArray]
            refine wpAnyH_done (by kernel_rfl) ?_ _
            refine NoPanic.normal ?_
            go_wp2_with fail
            go_meet
            case rel => exact ⟨_, cap, R, rc, J5, HO5, hid (own_more HR5.out HBW.out), HC5⟩
  · go_simp
    refine (HCL.out).mono ?_; rintro e w6 ⟨R, rc, rfl, hr, b6⟩
    have J6 := hid (J1.out.keep b6)
    have HR6 := hid hr
    have D6 := hid b6
    clear hr b6
    refine hK.out _ _ ?_ (fun hHeld => ?_)
    · (try dsimp only)
      exact J6.out.line.cell 0
    clear hK K
    try simp only [Act.put, pA0, pA1, pA2]
    refine wpAnyH_ready (rs := [0, 3]) (by kernel_rfl) (by simp) ?_
    refine AllReadyH.cons rfl (fun K hK => ?_) (AllReadyH.cons rfl (fun K hK => ?_) (AllReadyH.nil))
    · have z7 := J6.out.out.cell 0
      simp only [List.getElem?_toArray, List.getElem?_cons_zero] at z7
      go_simp
      clear z7
      refine hK.out _ _ ?_ (fun hHeld => ?_)
      · (try dsimp only)
        exact J6.out.line.cell 0
      clear hK K
      try simp only [Act.put, pA0, pA1, pA2]
      refine wpAnyH_ready (rs := [3]) (by kernel_rfl) (by simp) ?_
      refine AllReadyH.cons rfl (fun K hK => ?_) (AllReadyH.nil)
      · go_simp
        have J8 := hid (J6.out.keep ((Below.refl _ _).alloc (Nat.le_refl _) (.cells #[.slice R 1 rc] 27)))
        have HR8 := hid (HR6.out.alloc (.cells #[.slice R 1 rc] 27))
        have D8 := hid (D6.out.alloc D6.out.size (.cells #[.slice R 1 rc] 27))
        refine hK.out _ _ ?_ (fun hHeld => ?_)
        · (try dsimp only)
          exact J8.out.line.cell 0
        clear hK K
        try simp only [Act.put, pA0, pA1, pA2]
        refine wpAnyH_ready (rs := [4]) (by kernel_rfl) (by simp) ?_
        refine AllReadyH.cons rfl (fun K hK => ?_) (AllReadyH.nil)
        · have hB9 : B ≤ (w6.alloc (.cells #[.slice R 1 rc] 27)).heap.size := Nat.le_trans HBW.out D8.out.size
          refine step_append_lies _ rfl (.tmp 9) (.tmp 12) 136 rfl B 27 i0 (.slice none 0 0) 1 24 TII.und hi0 hz0 hz1 hzz TII.zc TII.sz (.slice none 0 0) 0 [] rfl (World.ownsRow_nil _ _ _ _) _ 1 1 (#[.slice R 1 rc] : Array Value).toList rfl rfl (cells_new _ _ _) (by simp [Value.oneCell']) (by decide) (by unfold maxLen; omega) (by omega) hB9 _ rfl ?_; intro g cap wA howA hgA hatA hltA
          have bA := (Below.refl _ _).grown hgA (Nat.le_refl _) (fun k hk => by simp [Value.ownBlock] at hk)
          have J9 := hid (J8.out.keep bA)
          have HR9 := hid (own_below HR8.out bA)
          have HO9 := hid howA
          have D9 := hid (below_call D8.out bA D8.out.size)
          clear howA hgA hatA hltA bA hB9
          refine hK.out _ _ ?_ (fun hHeld => ?_)
          · (try dsimp only)
            exact J9.out.line.cell 0
          clear hK K
          try simp only [Act.put, List.setIfInBounds_toArray]
          refine wpAnyH_ready (rs := [5]) (by kernel_rfl) (by simp) ?_
          refine AllReadyH.cons rfl (fun K hK => ?_) (AllReadyH.nil)
          · have z10 : World.cell? _ ⟨bx, 0, none⟩ = some (.slice none 0 0) := J9.out.out.cell 0
            have g10 := J9.out.out.free 0
            go_simp
            clear z10 g10
            have J10 := hid (J9.out.out.set 0 (.slice (some ⟨g, 0, none⟩) 1 cap))
            have HL10 := hid (J9.out.line.far (p := ⟨bx, 0, none⟩) (blk_neM J9.out.line J9.out.out (by decide)) (.slice (some ⟨g, 0, none⟩) 1 cap))
            have HO10 := hid (own_grown HO9.out J9.out.out (by decide) (setGrown _ ⟨bx, 0, none⟩ (.slice (some ⟨g, 0, none⟩) 1 cap)))
            have HR10 := hid (own_grown HR9.out J9.out.out (by decide) (setGrown _ ⟨bx, 0, none⟩ (.slice (some ⟨g, 0, none⟩) 1 cap)))
            have HC10 := hid ((Chs.of_below (S := (· = bx)) D9.out).trans (Chs.setCell (S := (· = bx)) (a := ⟨bx, 0, none⟩) rfl (.slice (some ⟨g, 0, none⟩) 1 cap)))
            refine hK.out _ _ ?_ (fun hHeld => ?_)
            · (try dsimp only)
              exact HL10.out.cell 0
            clear hK K
            try simp only [Act.put, List.setIfInBounds_toArray]
            refine wpAnyH_done (by kernel_rfl) ?_ _
            refine NoPanic.normal ?_
            go_wp2_with fail
            go_meet
            case rel => exact ⟨_, cap, R, rc, J10, HO10, hid (own_more HR10.out HBW.out), HC10⟩
    · go_simp
      have J11 := hid (J6.out.keep ((Below.refl _ _).alloc (Nat.le_refl _) (.cells #[.slice R 1 rc] 27)))
      have HR11 := hid (HR6.out.alloc (.cells #[.slice R 1 rc] 27))
      have D11 := hid (D6.out.alloc D6.out.size (.cells #[.slice R 1 rc] 27))
      refine hK.out _ _ ?_ (fun hHeld => ?_)
      · (try dsimp only)
        exact J11.out.line.cell 0
      clear hK K
      try simp only [Act.put, pA0, pA1, pA2]
      refine wpAnyH_ready (rs := [0]) (by kernel_rfl) (by simp) ?_
      refine AllReadyH.cons rfl (fun K hK => ?_) (AllReadyH.nil)
      · have z12 := J11.out.out.cell 0
        simp only [List.getElem?_toArray, List.getElem?_cons_zero] at z12
        go_simp
        clear z12
        refine hK.out _ _ ?_ (fun hHeld => ?_)
        · (try dsimp only)
          exact J11.out.line.cell 0
        clear hK K
        try simp only [Act.put, pA0, pA1, pA2]
        refine wpAnyH_ready (rs := [4]) (by kernel_rfl) (by simp) ?_
        refine AllReadyH.cons rfl (fun K hK => ?_) (AllReadyH.nil)
        · have hB13 : B ≤ (w6.alloc (.cells #[.slice R 1 rc] 27)).heap.size := Nat.le_trans HBW.out D11.out.size
          refine step_append_lies _ rfl (.tmp 9) (.tmp 12) 136 rfl B 27 i0 (.slice none 0 0) 1 24 TII.und hi0 hz0 hz1 hzz TII.zc TII.sz (.slice none 0 0) 0 [] rfl (World.ownsRow_nil _ _ _ _) _ 1 1 (#[.slice R 1 rc] : Array Value).toList rfl rfl (cells_new _ _ _) (by simp [Value.oneCell']) (by decide) (by unfold maxLen; omega) (by omega) hB13 _ rfl ?_; intro g cap wA howA hgA hatA hltA
          have bA := (Below.refl _ _).grown hgA (Nat.le_refl _) (fun k hk => by simp [Value.ownBlock] at hk)
          have J13 := hid (J11.out.keep bA)
          have HR13 := hid (own_below HR11.out bA)
          have HO13 := hid howA
          have D13 := hid (below_call D11.out bA D11.out.size)
          clear howA hgA hatA hltA bA hB13
          refine hK.out _ _ ?_ (fun hHeld => ?_)
          · (try dsimp only)
            exact J13.out.line.cell 0
          clear hK K
          try simp only [Act.put, List.setIfInBounds_toArray]
          refine wpAnyH_ready (rs := [5]) (by kernel_rfl) (by simp) ?_
          refine AllReadyH.cons rfl (fun K hK => ?_) (AllReadyH.nil)
          · have z14 : World.cell? _ ⟨bx, 0, none⟩ = some (.slice none 0 0) := J13.out.out.cell 0
            have g14 := J13.out.out.free 0
            go_simp
            clear z14 g14
            have J14 := hid (J13.out.out.set 0 (.slice (some ⟨g, 0, none⟩) 1 cap))
            have HL14 := hid (J13.out.line.far (p := ⟨bx, 0, none⟩) (blk_neM J13.out.line J13.out.out (by decide)) (.slice (some ⟨g, 0, none⟩) 1 cap))
            have HO14 := hid (own_grown HO13.out J13.out.out (by decide) (setGrown _ ⟨bx, 0, none⟩ (.slice (some ⟨g, 0, none⟩) 1 cap)))
            have HR14 := hid (own_grown HR13.out J13.out.out (by decide) (setGrown _ ⟨bx, 0, none⟩ (.slice (some ⟨g, 0, none⟩) 1 cap)))
            have HC14 := hid ((Chs.of_below (S := (· = bx)) D13.out).trans (Chs.setCell (S := (· = bx)) (a := ⟨bx, 0, none⟩) rfl (.slice (some ⟨g, 0, none⟩) 1 cap)))
            refine hK.out _ _ ?_ (fun hHeld => ?_)
            · (try dsimp only)
              exact HL14.out.cell 0
            clear hK K
            try simp only [Act.put, List.setIfInBounds_toArray]
            refine wpAnyH_done (by kernel_rfl) ?_ _
            refine NoPanic.normal ?_
            go_wp2_with fail
            go_meet
            case rel => exact ⟨_, cap, R, rc, J14, HO14, hid (own_more HR14.out HBW.out), HC14⟩
 case rest =>
  obtain ⟨O, oc, R, rc, HO, HOO, HR, HC⟩ := hcut
  have k1 := (HC.out.blk H5.out.drew (by have := HLT.out; omega)).cell 0
  simp only [List.getElem?_toArray, List.getElem?_cons_zero] at k1
  gi_wp2
  refine ⟨trivial, (callsIn_wide.2 (elementsF 0 _)).mono ?_⟩
  rintro e w' ⟨rfl, rfl⟩
  have HG := hid ((Below.refl wc.heap.size wc).alloc (Nat.le_refl _) (.cells #[.int .i64 0] 3))
  have G1 := hid (HO.out.alloc (.cells #[.int .i64 0] 3))
  have G2 := hid (HOO.out.alloc (.cells #[.int .i64 0] 3))
  have G3 := hid (HR.out.alloc (.cells #[.int .i64 0] 3))
  have HCW := hid (show Chs (· = bx) w wc from (Chs.of_below B1.out).trans ((Chs.of_below (Below.refl _ W).drew).trans HC.out))
  have G4 := hid (HCW.out.trans (Chs.of_below HG.out))
  have GC := hid (Blk.new wc 3 #[.int .i64 0])
  have N0 := hid (show ¬ bx = wc.heap.size from by have := HO.out.lt; omega)
  have N1 := hid (show ∀ g, (Value.slice O 1 oc).ownBlock = some g → ¬ g = wc.heap.size from fun g e => by have := (HOO.out.lt g e).2; omega)
  have N2 := hid (show ∀ g, (Value.slice R 1 rc).ownBlock = some g → ¬ g = wc.heap.size from fun g e => by have := (HR.out.lt g e).2; omega)
  have N3 := hid (show w.heap.size ≤ wc.heap.size from HCW.out.size)
  have N4 := hid (show 2 < w.heap.size ∧ ¬ bx = 2 from ⟨HT.out.pos, HBX⟩)
  have GT := hid (show Tab (wc.alloc (.cells #[.int .i64 0] 3)) from (HT.out.chs HCW.out (fun e => N4.out.2 e.symm)).below HG.out)
  have HSZ := hid (show (wc.alloc (.cells #[.int .i64 0] 3)).heap.size = wc.heap.size + 1 from by simp)
  clear k1 HG
  gi_wp2
  generalize wc.alloc (.cells #[.int .i64 0] 3) = G at *
  refine wp_range (n := 9) (gf := 217) (c := wc.heap.size) (t := 3) (xs := []) rfl (fun args w => enters Tryz.func217 (by kernel_rfl) rfl args w) GC.out (elems_iter 8 _ 0 [] G rfl GC.out) rfl
   (fun _ W => (((Blk W bx 136 #[.slice O 1 oc] ∧ Chs (· = bx) w W) ∧ W.ownsRow B 27 1 (.slice O 1 oc) 1 [.slice R 1 rc] ∧ W.ownsRow B 3 1 (.slice R 1 rc) 1 [.int .i64 0]) ∧ Tab W))
   (fun _ _ => False) ?_ (fun _ _ _ _ _ hs _ _ => hs) ?_ (fun _ _ h => h.2) ⟨⟨⟨G1.out, G4.out⟩, G2.out, G3.out⟩, GT.out⟩ ?_ ?_ (fun _ _ _ _ h _ => h.elim)
  · have := N3.out
    have := HSZ.out
    exact OwnFrom.and (OwnFrom.and (OwnFrom.and (ownFrom_blk _ _ _ _) (ownFrom_chs (by omega))) (OwnFrom.and (ownFrom_own _ _ _ _ _ _ _) (ownFrom_own _ _ _ _ _ _ _))) (ownFrom_tab (by have := N4.out.1; omega))
  · rintro k W v ⟨⟨⟨h1, h2⟩, h3, h4⟩, h5⟩
    have := N3.out
    have := N4.out.1
    refine ⟨⟨⟨h1.far (p := ⟨wc.heap.size, 0, none⟩) N0.out _, h2.trans2 (p := ⟨wc.heap.size, 0, none⟩) (by simp; omega) v⟩, h3.kept (setGrown W ⟨wc.heap.size, 0, none⟩ v) ?_, h4.kept (setGrown W ⟨wc.heap.size, 0, none⟩ v) ?_⟩, h5.grown (setGrown W ⟨wc.heap.size, 0, none⟩ v) (by simp; omega)⟩
    · exact .inr fun e => N1.out _ e rfl
    · exact .inr fun e => N2.out _ e rfl
  · intro l k x W W2 _ _ _ hx
    simp at hx
  · rintro D W hD ⟨⟨⟨h1, h2⟩, h3, h4⟩, h5⟩ hK
    have G0 := hid h1
    have GA := hid h2
    have GB := hid h3
    have GD := hid h4
    have GK := hid hK
    clear h1 h2 h3 h4 h5 hK
    gi_wp2
    have := N3.out
    have := HSZ.out
    refine ⟨by simp, .inl ⟨_, _, rfl, run_takeDeferred GK.out, ?_⟩⟩
    exact ⟨_, results_none rfl _ _ _, rfl, O, oc, R, rc, (World.putObj_heap_other (by have := N0.out; have := HO.out.lt; omega)).trans G0.out, ownFrom_own (β := Unit) G.heap.size _ _ _ _ _ _ () _ _ (some D) GB.out (grownBy_putObj' W D _) (fun r e => by cases e; exact ⟨hD, _, GK.out, rfl⟩), ownFrom_own (β := Unit) G.heap.size _ _ _ _ _ _ () _ _ (some D) GD.out (grownBy_putObj' W D _) (fun r e => by cases e; exact ⟨hD, _, GK.out, rfl⟩), ownFrom_chs (β := Unit) (B := G.heap.size) (by omega) () _ _ (some D) GA.out (grownBy_putObj' W D _) (fun r e => by cases e; exact ⟨hD, _, GK.out, rfl⟩)⟩
end Go.Proofs.YtflepjgcpdaodaaGreatDoor
/- Walk of ranks.Order, the first half: what stands, and the table. Conditions: a tournament of one to eight players; the library's table of 64 numbers stands in its variable. -/
namespace Go.Proofs.YtflepjgcpdaodaaGreatDoor
open Go.RowKit Go.Shelf
attribute [local go_sem] Oper.semAt_some
attribute [local go_sem ↓] shl_p2 shr_v and_shr
theorem makeInts (n : Nat) (hn : n ≤ 1099511627776) (W : World) : (Instr.makeSlice 27 (.int .i64 (n : Int)) (.int .i64 (n : Int))).run Tryz.prog W = .ok (.slice (some ⟨W.heap.size, 0, none⟩) n n) (W.alloc (.cells (arr n fun _ => 0) 3)) := by
 obtain ⟨i0, hi, hz0, hz1, hz2⟩ := info_parts TI27.inf
 have := run_make (P := Tryz.prog) W 27 3 i0 (.int .i64 0) TI27.und hi hz0 .i64 .i64 (n : Int) (n : Int) (by omega) (Int.le_refl _) (by rw [hz2]; omega) (by omega)
 rw [this, Int.toNat_natCast, hz1, ← made_arr]
/-- What stands all along: the list's variable, the table's, the closure's. -/
structure OdS (w W : World) (ab ao n c rx rv cv : Nat) : Prop where
 bz : Blk W w.heap.size 27 #[.slice (some ⟨ab, ao, none⟩) n c]
 br : Blk W rv 27 #[.slice (some ⟨rx, 0, none⟩) (2 ^ n) (2 ^ n)]
 bc : Blk W cv 54 #[.func (.func 25) #[] #[.pointer (some ⟨w.heap.size, 0, none⟩), .pointer (some ⟨rv, 0, none⟩)]]
 lo : Below w.heap.size w W
 tb : Tab W
section
variable {w W W' : World} {ab ao n c rx rv cv : Nat}
theorem OdS.below (h : OdS w W ab ao n c rx rv cv) (hb : Below W.heap.size W W') : OdS w W' ab ao n c rx rv cv := ⟨h.bz.keep hb, h.br.keep hb, h.bc.keep hb, below_call h.lo hb h.lo.size, h.tb.below hb⟩
theorem OdS.drew (h : OdS w W ab ao n c rx rv cv) : OdS w W.drew ab ao n c rx rv cv := h.below (Below.refl _ W).drew
theorem OdS.drewN (h : OdS w W ab ao n c rx rv cv) (q : Nat) : OdS w (W.drewN q) ab ao n c rx rv cv := ⟨h.bz, h.br, h.bc, ⟨h.lo.os, (World.tape_drewN ..).trans h.lo.tape, h.lo.output, h.lo.size, h.lo.block⟩, h.tb⟩
/-- A store into another block of the call's own. -/
theorem OdS.far (h : OdS w W ab ao n c rx rv cv) {p : Nat} (hp : w.heap.size < p) (h1 : p ≠ rv) (h2 : p ≠ cv) (hT : 2 < w.heap.size) (i : Nat) (v : Value) : OdS w (W.setCell ⟨p, i, none⟩ v) ab ao n c rx rv cv :=
 ⟨h.bz.far (p := ⟨p, i, none⟩) (by simp; omega) v, h.br.far (p := ⟨p, i, none⟩) (by simp; omega) v, h.bc.far (p := ⟨p, i, none⟩) (by simp; omega) v, h.lo.setCell (p := ⟨p, i, none⟩) (by simp; omega) v, h.tb.grown (setGrown W ⟨p, i, none⟩ v) (by simp; omega)⟩
theorem ownFrom_ods {β : Type} {B : Nat} (hB : w.heap.size ≤ B) (hT : 2 < B) : OwnFrom B (fun (_ : β) W => OdS w W ab ao n c rx rv cv) := fun k X Y row hs hg hr =>
 ⟨ownFrom_blk (β := β) B _ _ _ k X Y row hs.bz hg hr, ownFrom_blk (β := β) B _ _ _ k X Y row hs.br hg hr, ownFrom_blk (β := β) B _ _ _ k X Y row hs.bc hg hr, ownFrom_below (β := β) (Nat.le_refl _) hB k X Y row hs.lo hg hr, ownFrom_tab (β := β) hT k X Y row hs.tb hg hr⟩
end
/-- The slots at a round's start, while the table is made. -/
def oT1 (z ab ao n c rv cv sv : Nat) (f : Nat → Value) : Array Value := #[f 0, .pointer (some ⟨z, 0, none⟩), f 2, f 3, .slice (some ⟨ab, ao, none⟩) n c, .pointer (some ⟨rv, 0, none⟩), .pointer (some ⟨cv, 0, none⟩), .pointer (some ⟨sv, 0, none⟩), f 8, f 9, f 10, f 11, f 12, f 13, f 14, f 15, f 16, f 17, f 18, f 19, f 20, f 21, f 22, f 23, f 24, f 25, f 26, f 27, f 28, f 29, f 30, f 31, f 32, f 33, f 34, f 35, f 36, f 37, f 38, f 39, f 40, f 41, f 42, f 43, f 44, f 45, f 46, f 47, f 48, f 49, f 50, f 51, f 52, f 53, f 54, f 55, f 56, f 57, f 58, f 59, f 60, f 61, f 62, f 63, f 64, f 65, f 66, f 67, f 68, f 69, f 70, f 71, f 72, f 73, f 74, f 75, f 76, f 77, f 78, f 79, f 80, f 81, f 82, f 83]
/-- The slots at a round's start, while the order is told. -/
def oT2 (z ab ao n c rv cv sv ov : Nat) (f : Nat → Value) : Array Value := #[f 0, .pointer (some ⟨z, 0, none⟩), f 2, f 3, .slice (some ⟨ab, ao, none⟩) n c, .pointer (some ⟨rv, 0, none⟩), .pointer (some ⟨cv, 0, none⟩), f 7, f 8, .pointer (some ⟨ov, 0, none⟩), .pointer (some ⟨sv, 0, none⟩), f 11, f 12, f 13, f 14, f 15, f 16, f 17, f 18, f 19, f 20, f 21, f 22, f 23, f 24, f 25, f 26, f 27, f 28, f 29, f 30, f 31, f 32, f 33, f 34, f 35, f 36, f 37, f 38, f 39, f 40, f 41, f 42, f 43, f 44, f 45, f 46, f 47, f 48, f 49, f 50, f 51, f 52, f 53, f 54, f 55, f 56, f 57, f 58, f 59, f 60, f 61, f 62, f 63, f 64, f 65, f 66, f 67, f 68, f 69, f 70, f 71, f 72, f 73, f 74, f 75, f 76, f 77, f 78, f 79, f 80, f 81, f 82, f 83]
theorem oT1_ex {z ab ao n c rv cv sv : Nat} {T : Array Value} (h : T = oT1 z ab ao n c rv cv sv (fun i => T.getD i undef)) : ∃ f, T = oT1 z ab ao n c rv cv sv f := ⟨_, h⟩
theorem oT2_ex {z ab ao n c rv cv sv ov : Nat} {T : Array Value} (h : T = oT2 z ab ao n c rv cv sv ov (fun i => T.getD i undef)) : ∃ f, T = oT2 z ab ao n c rv cv sv ov f := ⟨_, h⟩
/-- What holds between the rounds that make the table. -/
def inv1 (w : World) (ab ao n c rx rv cv : Nat) (b : Nat → Nat → Bool) (t : Act) (W : World) : Prop :=
 ∃ (s sv : Nat) (Ds : List Nat), s + 1 ≤ 2 ^ n ∧ cv < sv ∧ (∃ f, t.tmps = oT1 w.heap.size ab ao n c rv cv sv f) ∧ t.defers = marks Ds ∧ OdS w W ab ao n c rx rv cv ∧ Blk W sv 3 #[.int .i64 ((s : Int) - 1)] ∧ Blk W rx 3 (arr (2 ^ n) (tabV n b s)) ∧ MarkS w.heap.size Ds W
/-- An append of one element onto a row of the call's own, inside a fence. -/
theorem push1LI {F : Fence} {fu : Nat} {P : Program} {ops : Array Oper} {rest : List Oper} {o : Oper} {a : Act} {Q : Exit → Act → World → Prop} {t e : TypeId} {size bytes : Nat} {z : Value}
 (T : TS P t e size bytes z) (w : World) (cs : Array Value) (base n : Nat) (v : Value) (xs : List Value) (hown : w.ownsRow base e size v n xs)
 (s x : Operand) (K : Nat) (hK : w.heap.size = K) (hgd : o.guard = none) (ho : o.op = .call { callee := .builtin .append, args := #[s, x], argTypes := #[t, t] })
 (hs : a.eval s = v) (hx : a.eval x = .slice (some ⟨K, 0, none⟩) 1 1) (hcs : cs.size = size) (h1 : ∀ u ∈ cs.toList, u.oneCell' = true)
 (hn : (n + 1) * bytes ≤ 140737488355328) (hn2 : n < 1000000000000) (hb : base ≤ w.heap.size)
 (h : ∀ v' w', w'.ownsRow base e size v' (n + 1) (xs ++ cs.toList) → w.grownBy w' v.ownBlock → (v'.ownBlock = v.ownBlock ∨ ∀ g, v'.ownBlock = some g → w.heap.size ≤ g) → wpListIn F fu P ops Q rest (a.put o.dst v') w') :
 wpListIn F fu P ops Q (o :: rest) a (w.alloc (.cells cs e)) := by
 subst hK
 obtain ⟨i, hi, hz0, hz1, hz2⟩ := info_parts T.inf
 refine wpListIn_plain hgd fun K hK' => ?_
 obtain ⟨g, cap, w', hrun, a1, a2, a3, _⟩ := run_append_lies (P := P) (w := w.alloc (.cells cs e)) t o.type base e i z size bytes T.und hi hz0 hz1 hz2 T.zc T.sz v n xs (hown.alloc _) ⟨w.heap.size, 0, none⟩ 1 1 cs.toList (by simpa using hcs) (cells_new _ _ _) h1
  (by omega) (by unfold maxLen; omega) hn (by simp; omega) (w.heap.size + 1) (by simp)
 unfold Oper.wpIn
 refine ⟨?_, ?_⟩
 · simp [Oper.about, ho, resolve, Target.leads, Sem.run_pure]
 · rw [Oper.semAt_plain F _ _ (by rw [ho]; intro c hc'; cases hc')]
   simp [execOp, ho, resolve, invoke, builtin, hs, hx, hrun, Result.andThen]
   refine hK' _ _ (h _ w' a1 ?_ ?_)
   · exact ⟨a2.os, a2.tape, a2.output, by have := a2.size; simp at this; omega, fun k hk hne => (a2.block k (by simp; omega) hne).trans (heap_alloc_old w _ hk)⟩
   · rcases a3 with h3 | h3
     · left; rw [h3]; rfl
     · right
       intro g' hg'
       simp [Value.ownBlock] at hg'
       omega
theorem MarkS.own {B : Nat} {Ds : List Nat} {W : World} {base : Nat} {e : TypeId} {size n : Nat} {v : Value} {xs : List Value} (h : MarkS B Ds W) (ho : W.ownsRow base e size v n xs) : (shut Ds W).ownsRow base e size v n xs := by
 refine ⟨ho.1, ?_⟩
 rcases ho.2 with h2 | ⟨g, cap, cur, hv, hb, hg, r⟩
 · exact .inl h2
 · exact .inr ⟨g, cap, cur, hv, hb, (shut_heap Ds W g (fun hm => by have := h.at_ g hm; rw [hg] at this; cases this)).trans hg, r⟩
theorem keeps_row {B : Nat} {W W' : World} {base : Nat} {e : TypeId} {size n : Nat} {v : Value} {xs : List Value} (ho : W.ownsRow base e size v n xs) (hg : W.grownBy W' v.ownBlock) : KeepsFrom B W W' :=
 ⟨hg.size, fun k o _ hk hc => (hg.block k (Array.getElem?_eq_some_iff.1 hk).1 (fun e => by
  obtain ⟨cc, h⟩ := own_kind2 ho k e.symm
  rw [hk] at h
  cases h
  cases hc)).trans hk⟩
theorem keeps_set {B b : Nat} {t : TypeId} {cs : Array Value} {W : World} (h : Blk W b t cs) (i : Nat) (v : Value) : KeepsFrom B W (W.setCell ⟨b, i, none⟩ v) :=
 ⟨by simp, fun k o _ hk hc => (Below.heap_setCell W ⟨b, i, none⟩ v k (fun e => by
  have e : k = b := e
  subst e
  unfold Blk at h
  rw [hk] at h
  cases h
  cases hc)).trans hk⟩
def natV (l : List Nat) : List Value := l.map fun i => Value.int .i64 (i : Nat)
theorem natV_push (l : List Nat) (x : Nat) : natV l ++ [Value.int .i64 (x : Nat)] = natV (l ++ [x]) := by unfold natV; simp
/-- What stands while the order is told: S are those that are in, l their order. -/
structure PkS (w W : World) (ab ao n c rx rv cv : Nat) (b : Nat → Nat → Bool) (sv ov : Nat) (S : Nat → Bool) (l : List Nat) (O : Option Addr) (oc : Nat) (Ds : List Nat) : Prop where
 ods : OdS w W ab ao n c rx rv cv
 bs : Blk W sv 3 #[.int .i64 (mk n S)]
 bt : Blk W rx 3 (arr (2 ^ n) (tabV n b 0))
 bo : Blk W ov 27 #[.slice O l.length oc]
 own : W.ownsRow (cv + 1) 3 1 (.slice O l.length oc) l.length (natV l)
 mrk : MarkS w.heap.size Ds W
section
variable {w W W' : World} {ab ao n c rx rv cv : Nat} {b : Nat → Nat → Bool} {sv ov : Nat} {S : Nat → Bool} {l : List Nat} {O : Option Addr} {oc : Nat} {Ds : List Nat}
theorem PkS.below (h : PkS w W ab ao n c rx rv cv b sv ov S l O oc Ds) (hb : Below W.heap.size W W') : PkS w W' ab ao n c rx rv cv b sv ov S l O oc Ds :=
 ⟨h.ods.below hb, h.bs.keep hb, h.bt.keep hb, h.bo.keep hb, own_below h.own hb, h.mrk.keep h.mrk.lt hb⟩
theorem PkS.drewN (h : PkS w W ab ao n c rx rv cv b sv ov S l O oc Ds) (q : Nat) : PkS w (W.drewN q) ab ao n c rx rv cv b sv ov S l O oc Ds :=
 ⟨h.ods.drewN q, h.bs, h.bt, h.bo, h.own, ⟨h.mrk.at_, h.mrk.nod, h.mrk.low⟩⟩
theorem ownFrom_pks {β : Type} {B : Nat} (hB : w.heap.size ≤ B) (hT : 2 < B) (hD : ∀ D ∈ Ds, D < B) : OwnFrom B (fun (_ : β) W => PkS w W ab ao n c rx rv cv b sv ov S l O oc Ds) := fun k X Y row hs hg hr =>
 ⟨ownFrom_ods (β := β) hB hT k X Y row hs.ods hg hr, ownFrom_blk (β := β) B _ _ _ k X Y row hs.bs hg hr, ownFrom_blk (β := β) B _ _ _ k X Y row hs.bt hg hr, ownFrom_blk (β := β) B _ _ _ k X Y row hs.bo hg hr, ownFrom_own (β := β) B _ _ _ _ _ _ k X Y row hs.own hg hr, ownFrom_marks (β := β) hD k X Y row hs.mrk hg hr⟩
/-- A store into a box that is none of these. -/
theorem PkS.far (h : PkS w W ab ao n c rx rv cv b sv ov S l O oc Ds) {p : Nat} (h0 : w.heap.size < p) (h1 : p ≠ rv) (h2 : p ≠ cv) (h3 : p ≠ sv) (h4 : p ≠ rx) (h5 : p ≠ ov) (h6 : ∀ g, (Value.slice O l.length oc).ownBlock = some g → g ≠ p) (h7 : ∀ D ∈ Ds, D ≠ p) (hT : 2 < w.heap.size) (v : Value) :
 PkS w (W.setCell ⟨p, 0, none⟩ v) ab ao n c rx rv cv b sv ov S l O oc Ds :=
 ⟨h.ods.far h0 h1 h2 hT 0 v, h.bs.far (p := ⟨p, 0, none⟩) (by simp; omega) v, h.bt.far (p := ⟨p, 0, none⟩) (by simp; omega) v, h.bo.far (p := ⟨p, 0, none⟩) (by simp; omega) v,
  h.own.kept (setGrown W ⟨p, 0, none⟩ v) (by
   cases hv : (Value.slice O l.length oc).ownBlock with
   | none => exact .inl rfl
   | some g => exact .inr (fun e => h6 g hv (by injection e))),
  ⟨fun D hD => (Below.heap_setCell W ⟨p, 0, none⟩ v D (by have := h7 D hD; simp; omega)).trans (h.mrk.at_ D hD), h.mrk.nod, h.mrk.low⟩⟩
/-- One more is in the order. -/
theorem PkS.push (h : PkS w W ab ao n c rx rv cv b sv ov S l O oc Ds) {x : Nat} {O' : Option Addr} {oc' : Nat} (hl : w.heap.size < rx ∧ rx < rv ∧ rv < cv ∧ cv < ov) (hT : 2 < w.heap.size) (ha : ∀ g, (Value.slice O l.length oc).ownBlock = some g → g ≠ sv)
 (hg : W.grownBy W' (Value.slice O l.length oc).ownBlock) (ho : W'.ownsRow (cv + 1) 3 1 (.slice O' (l.length + 1) oc') (l.length + 1) (natV (l ++ [x]))) :
 PkS w (W'.setCell ⟨ov, 0, none⟩ (.slice O' (l.length + 1) oc')) ab ao n c rx rv cv b sv ov S (l ++ [x]) O' oc' Ds := by
 have hlt : ∀ g, (Value.slice O l.length oc).ownBlock = some g → cv + 1 ≤ g := fun g e => (h.own.lt g e).1
 have hov : some ov ≠ (Value.slice O l.length oc).ownBlock := own_ne_blk h.own h.bo (by decide)
 have nb : ∀ q, q < cv + 1 → some q ≠ (Value.slice O l.length oc).ownBlock := fun q hq e => by have := hlt q e.symm; omega
 have hO : OdS w W' ab ao n c rx rv cv := ⟨h.ods.bz.grown hg (nb _ (by omega)), h.ods.br.grown hg (nb _ (by omega)), h.ods.bc.grown hg (nb _ (by omega)), h.ods.lo.grown hg h.ods.lo.size (fun k hk => by have := hlt k hk; omega), h.ods.tb.grown hg (fun e => by have := hlt _ e; omega)⟩
 have hbo := h.bo.grown hg hov
 have hsv := h.bs.grown hg (fun e => ha sv e.symm rfl)
 have hne : sv ≠ ov := fun e => by
  subst e
  have k1 := h.bs
  have k2 := h.bo
  unfold Blk at k1 k2
  rw [k1] at k2
  injection k2 with k2
  injection k2 with k3 k4
  exact absurd k4 (by decide)
 have hlen : (l ++ [x]).length = l.length + 1 := by simp
 have hmk : MarkS w.heap.size Ds W' := ⟨fun D hD => (hg.block D (h.mrk.lt D hD) (fun e => by
  obtain ⟨cc, hc⟩ := own_kind2 h.own D e.symm
  have := h.mrk.at_ D hD
  rw [hc] at this
  cases this)).trans (h.mrk.at_ D hD), h.mrk.nod, h.mrk.low⟩
 refine ⟨hO.far (by omega) (by omega) (by omega) hT 0 _, hsv.far (p := ⟨ov, 0, none⟩) hne _, (h.bt.grown hg (nb _ (by omega))).far (p := ⟨ov, 0, none⟩) (by simp; omega) _, ?_, ?_, hmk.set hbo 0 _⟩
 · rw [hlen]; exact hbo.set 0 _
 · rw [hlen]; exact own_grown ho hbo (by decide) (setGrown W' ⟨ov, 0, none⟩ _)
/-- The set's own variable is written. -/
theorem PkS.setS (h : PkS w W ab ao n c rx rv cv b sv ov S l O oc Ds) (hl : w.heap.size < rx ∧ rx < rv ∧ rv < cv ∧ cv < sv) (hT : 2 < w.heap.size) (hso : sv ≠ ov) (ha : ∀ g, (Value.slice O l.length oc).ownBlock = some g → g ≠ sv) (S' : Nat → Bool) :
 PkS w (W.setCell ⟨sv, 0, none⟩ (.int .i64 (Go.Proofs.YtflepjgcpdaodaaGreatDoor.mk n S'))) ab ao n c rx rv cv b sv ov S' l O oc Ds :=
 ⟨h.ods.far (by omega) (by omega) (by omega) hT 0 _, h.bs.set 0 _, h.bt.far (p := ⟨sv, 0, none⟩) (by simp; omega) _, h.bo.far (p := ⟨sv, 0, none⟩) (by simp; omega) _,
  h.own.kept (setGrown W ⟨sv, 0, none⟩ _) (by
   cases hv : (Value.slice O l.length oc).ownBlock with
   | none => exact .inl rfl
   | some g => exact .inr (fun e => ha g hv (by injection e))), h.mrk.set h.bs 0 _⟩
end
/-- What holds between the rounds that tell the order. -/
def inv2 (w : World) (ab ao n c rx rv cv ov : Nat) (b : Nat → Nat → Bool) (t : Act) (W : World) : Prop :=
 ∃ (k : Nat) (S : Nat → Bool) (l : List Nat) (sv : Nat) (O : Option Addr) (oc : Nat) (Ds : List Nat), l ++ wayF n b k S = bestL n b ∧ lackS n S = k ∧ l.length + k = n ∧ ov < sv ∧ (∃ f, t.tmps = oT2 w.heap.size ab ao n c rv cv sv ov f) ∧ t.defers = marks Ds ∧ PkS w W ab ao n c rx rv cv b sv ov S l O oc Ds ∧ (∀ g, (Value.slice O l.length oc).ownBlock = some g → g ≠ sv)
end Go.Proofs.YtflepjgcpdaodaaGreatDoor
