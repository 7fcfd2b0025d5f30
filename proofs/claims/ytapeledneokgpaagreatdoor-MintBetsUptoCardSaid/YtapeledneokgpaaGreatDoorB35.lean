/- Texts of this proof, one behind the other; each says its condition at its head. -/
import Derived.Test.YtapeledneokgpaaGreatDoorB26
import Derived.Test.YtapeledneokgpaaGreatDoorB5
import Derived.Deep.AppendLies
import Derived.Deep.RegionHeld3
import Derived.Deep.CutRange
/- Walks of order's all and below at one element, and of lines' closure where nothing is left. Condition: the library's table of 64 numbers stands in its variable. -/
namespace Go.Proofs.YtapeledneokgpaaGreatDoor
open Go.RowKit Go.Shelf
attribute [local go_sem] Oper.semAt_some
set_option maxRecDepth 100000 in
theorem allOne (w : World) :
 Calls Tryz.prog 83 #[.agg ord1] w fun e w' => e = .returned (.int .i64 1) ∧ Below w.heap.size w w' := by
 unfold ord1
 go_enter Tryz.func83, Tryz.ntmps83
 go_wp2
 go_ret
 exact ⟨rfl, (Below.refl _ w).alloc (Nat.le_refl _) _⟩
set_option maxRecDepth 100000 in
theorem belowOne (w : World) :
 Calls Tryz.prog 81 #[.agg ord1, .int .i64 0] w fun e w' => e = .returned (.int .i64 0) ∧ Below w.heap.size w w' := by
 unfold ord1
 go_enter Tryz.func81, Tryz.ntmps81
 go_wp2
 refine wp_loop_rounds 2 ?_
 rw [rounds_succ]
 go_wp2
 rw [rounds_succ]
 go_wp2
 go_ret
 exact ⟨ret_i (by kernel_rfl), (Below.refl _ w).alloc (Nat.le_refl _) _⟩
theorem TII : TS Tryz.prog 39 36 1 24 (.slice none 0 0) := ⟨Tryz.underlying39, by kernel_rfl, rfl, by decide⟩
/-- The boxes of lines: the order, what came out, the line, and the closure. -/
structure LnS (W : World) (bo bx bl bg : Nat) (x l : Value) : Prop where
 ord : Blk W bo 87 ord1
 out : Blk W bx 39 #[x]
 line : Blk W bl 36 #[l]
 grow : Blk W bg 148 #[.func (.func 82) #[] #[.pointer (some ⟨bx, 0, none⟩), .pointer (some ⟨bl, 0, none⟩), .pointer (some ⟨bo, 0, none⟩), .pointer (some ⟨bg, 0, none⟩)]]
theorem LnS.keep {W W' : World} {bo bx bl bg : Nat} {x l : Value} (h : LnS W bo bx bl bg x l) (hb : Below W.heap.size W W') : LnS W' bo bx bl bg x l := ⟨h.ord.keep hb, h.out.keep hb, h.line.keep hb, h.grow.keep hb⟩
theorem Chs.trans2 {S : Nat → Prop} {w W : World} (h : Chs S w W) {p : Addr} (hp : w.heap.size ≤ p.block) (v : Value) : Chs S w (W.setCell p v) :=
 ⟨h.os, h.tape, h.output, by simpa using h.size, fun i hi hn => (Below.heap_setCell W p v i (by omega)).trans (h.block i hi hn)⟩
theorem Tab.chs {S : Nat → Prop} {w w' : World} (h : Tab w) (hc : Chs S w w') (hs : ¬ S 7) : Tab w' := fun j hj =>
 (World.cell?_of_block (a := ⟨7, j, none⟩) (hc.block 7 (World.block_lt_of_cell? _ _ (h j hj)) hs)).trans (h j hj)
theorem ownFrom_chs {β : Type} {B : Nat} {S : Nat → Prop} {w0 : World} (hB : w0.heap.size ≤ B) : OwnFrom B (fun (_ : β) W => Chs S w0 W) := fun _ X Y row hs hg hr =>
 ⟨hg.os.trans hs.os, hg.tape.trans hs.tape, hg.output.trans hs.output, Nat.le_trans hs.size hg.size, fun i hi hn => (hg.block i (Nat.lt_of_lt_of_le hi hs.size) (fun e => by have := (hr i e.symm).1; omega)).trans (hs.block i hi hn)⟩
theorem ownFrom_own {β : Type} (B base : Nat) (e : TypeId) (size n : Nat) (v : Value) (xs : List Value) : OwnFrom B (fun (_ : β) W => W.ownsRow base e size v n xs) := fun _ X Y row hs hg hr => hs.kept hg (by
 cases hv : v.ownBlock with
 | none => exact .inl rfl
 | some g =>
  refine .inr fun e' => ?_
  obtain ⟨_, o, ho, hc⟩ := hr g e'.symm
  obtain ⟨cs, hcs⟩ := own_kind2 hs g hv
  rw [hcs] at ho
  cases ho
  cases hc)
set_option maxRecDepth 100000 in
set_option maxHeartbeats 4000000 in
/-- lines' closure, where nothing is left: the line goes out. -/
theorem growZero (B : Nat) (bo bx bl bg : Nat) (A : Option Addr) (c : Nat) (w : World) (h : LnS w bo bx bl bg (.slice none 0 0) (.slice A 1 c)) (hs : Sl w A 1 c [.int .i64 0]) (hT : Tab w) (hB : B ≤ w.heap.size) (HBX : ¬ bx = 7) :
 Calls Tryz.prog 82 #[.int .i64 0, .pointer (some ⟨bx, 0, none⟩), .pointer (some ⟨bl, 0, none⟩), .pointer (some ⟨bo, 0, none⟩), .pointer (some ⟨bg, 0, none⟩)] w fun e w' => e = .returned (.tuple #[]) ∧
  ∃ O oc R rc, Blk w' bx 39 #[.slice O 1 oc] ∧ w'.ownsRow B 36 1 (.slice O 1 oc) 1 [.slice R 1 rc] ∧ w'.ownsRow B 3 1 (.slice R 1 rc) 1 [.int .i64 0] ∧ Chs (· = bx) w w' := by
 refine (callsIn_wide (n := 9)).1 ?_
 refine callsIn_of_wp_marks Tryz.func82 rfl trivial ?_ rfl
 simp only [Tryz.ntmps82, List.size_toArray, List.length_cons, List.length_nil, Nat.reduceAdd, Nat.reduceSub, Array.replicate_succ, Array.replicate_zero, List.push_toArray, List.append_toArray, List.nil_append, List.cons_append]
 have HT := hid hT
 have H1 := hid (h.keep ((Below.refl _ w).alloc (Nat.le_refl _) (.cells #[.int .i64 0] 3)))
 have H5 := hid (Blk.new w 3 #[.int .i64 0])
 have S1 := hid (hs.alloc (.cells #[.int .i64 0] 3))
 have B1 := hid ((Below.refl w.heap.size w).alloc (Nat.le_refl _) (.cells #[.int .i64 0] 3))
 have k0 := H5.out.cell 0
 simp only [List.getElem?_toArray, List.getElem?_cons_zero] at k0
 have HLT := hid (show bo < w.heap.size ∧ bx < w.heap.size ∧ bl < w.heap.size ∧ bg < w.heap.size from ⟨h.ord.lt, h.out.lt, h.line.lt, h.grow.lt⟩)
 clear h hs hT
 gi_wp2
 generalize w.alloc (.cells #[.int .i64 0] 3) = W at *
 have z1 := H1.out.out.cell 0
 have z2 := H1.out.line.cell 0
 simp only [List.getElem?_toArray, List.getElem?_cons_zero] at z1 z2
 have HCL := hid (cloneI A 1 c [.int .i64 0] (by simp [Value.oneCell']) (by omega) W.drew S1.out.drew)
 have J1 := hid (H1.out.keep (Below.refl _ W).drew)
 have HBW := hid (show B ≤ W.drew.heap.size from Nat.le_trans hB B1.out.size)
 obtain ⟨i0, hi0, hz0, hz1, hzz⟩ := info_parts TII.inf
 refine wpIn_wide.2 ?_
 go_cut [9] from 9 to 13 (fun t wx => ∃ O oc R rc, Hid (Blk wx bx 39 #[.slice O 1 oc]) ∧ Hid (wx.ownsRow B 36 1 (.slice O 1 oc) 1 [.slice R 1 rc]) ∧ Hid (wx.ownsRow B 3 1 (.slice R 1 rc) 1 [.int .i64 0]) ∧ Hid (Chs (· = bx) W.drew wx))
 case first =>
  refine wp_region_noPanic ?_
  refine wp_region_held_drew (S := (fun w' => w'.cell? ⟨bl, 0, none⟩ = some (.slice A 1 c))) (by kernel_rfl) (by (try dsimp only); exact z2) (fun hHeld => ?_)
  refine tk ?_ 1 (some 10) rfl rfl ?_ ?_; rotate_left; · (intro w hSw; (try dsimp only at hSw); go_simp <;> with_reducible rfl)
  try simp only [Act.put, pA0, pA1, pA2]
  refine wpAnyH_ready (rs := [0, 2]) (by kernel_rfl) (by simp) ?_
  refine AllReadyH.cons rfl (fun K hK => ?_) (AllReadyH.cons rfl (fun K hK => ?_) (AllReadyH.nil))
  · have z1 := J1.out.out.cell 0
    simp only [List.getElem?_toArray, List.getElem?_cons_zero] at z1
    go_simp
    clear z1
    refine hK.out _ _ ?_ (fun hHeld => ?_)
    · (try dsimp only)
      exact J1.out.line.cell 0
    clear hK K
    try simp only [Act.put, pA0, pA1, pA2]
    refine wpAnyH_ready (rs := [2]) (by kernel_rfl) (by simp) ?_
    refine AllReadyH.cons rfl (fun K hK => ?_) (AllReadyH.nil)
    · go_simp
      refine (HCL.out).mono ?_; rintro e w2 ⟨R, rc, rfl, hr, b2⟩
      have J2 := hid (J1.out.keep b2)
      have HR2 := hid hr
      have D2 := hid b2
      clear hr b2
      refine hK.out _ _ ?_ (fun hHeld => ?_)
      · (try dsimp only)
        exact J2.out.line.cell 0
      clear hK K
      try simp only [Act.put, pA0, pA1, pA2]
      refine wpAnyH_ready (rs := [3]) (by kernel_rfl) (by simp) ?_
      refine AllReadyH.cons rfl (fun K hK => ?_) (AllReadyH.nil)
      · go_simp
        have J3 := hid (J2.out.keep ((Below.refl _ _).alloc (Nat.le_refl _) (.cells #[.slice R 1 rc] 36)))
        have HR3 := hid (HR2.out.alloc (.cells #[.slice R 1 rc] 36))
        have D3 := hid (D2.out.alloc D2.out.size (.cells #[.slice R 1 rc] 36))
        refine hK.out _ _ ?_ (fun hHeld => ?_)
        · (try dsimp only)
          exact J3.out.line.cell 0
        clear hK K
        try simp only [Act.put, pA0, pA1, pA2]
        refine wpAnyH_ready (rs := [4]) (by kernel_rfl) (by simp) ?_
        refine AllReadyH.cons rfl (fun K hK => ?_) (AllReadyH.nil)
        · have hB4 : B ≤ (w2.alloc (.cells #[.slice R 1 rc] 36)).heap.size := Nat.le_trans HBW.out D3.out.size
          refine step_append_lies _ rfl (.tmp 9) (.tmp 12) 39 rfl B 36 i0 (.slice none 0 0) 1 24 TII.und hi0 hz0 hz1 hzz TII.zc TII.sz (.slice none 0 0) 0 [] rfl (World.ownsRow_nil _ _ _ _) _ 1 1 (#[.slice R 1 rc] : Array Value).toList rfl rfl (cells_new _ _ _) (by simp [Value.oneCell']) (by decide) (by unfold maxLen; omega) (by omega) hB4 _ rfl ?_; intro g cap wA howA hgA hatA hltA
          have bA := (Below.refl _ _).grown hgA (Nat.le_refl _) (fun k hk => by simp [Value.ownBlock] at hk)
          have J4 := hid (J3.out.keep bA)
          have HR4 := hid (own_below HR3.out bA)
          have HO4 := hid howA
          have D4 := hid (below_call D3.out bA D3.out.size)
          clear howA hgA hatA hltA bA hB4
          refine hK.out _ _ ?_ (fun hHeld => ?_)
          · (try dsimp only)
            exact J4.out.line.cell 0
          clear hK K
          try simp only [Act.put, List.setIfInBounds_toArray]
          refine wpAnyH_ready (rs := [5]) (by kernel_rfl) (by simp) ?_
          refine AllReadyH.cons rfl (fun K hK => ?_) (AllReadyH.nil)
          · have z5 : World.cell? _ ⟨bx, 0, none⟩ = some (.slice none 0 0) := J4.out.out.cell 0
            have g5 := J4.out.out.free 0
            go_simp
            clear z5 g5
            have J5 := hid (J4.out.out.set 0 (.slice (some ⟨g, 0, none⟩) 1 cap))
            have HL5 := hid (J4.out.line.far (p := ⟨bx, 0, none⟩) (blk_neM J4.out.line J4.out.out (by decide)) (.slice (some ⟨g, 0, none⟩) 1 cap))
            have HO5 := hid (own_grown HO4.out J4.out.out (by decide) (setGrown _ ⟨bx, 0, none⟩ (.slice (some ⟨g, 0, none⟩) 1 cap)))
            have HR5 := hid (own_grown HR4.out J4.out.out (by decide) (setGrown _ ⟨bx, 0, none⟩ (.slice (some ⟨g, 0, none⟩) 1 cap)))
            have HC5 := hid ((Chs.of_below (S := (· = bx)) D4.out).trans (Chs.setCell (S := (· = bx)) (a := ⟨bx, 0, none⟩) rfl (.slice (some ⟨g, 0, none⟩) 1 cap)))
            refine hK.out _ _ ?_ (fun hHeld => ?_)
            · (try dsimp only)
              exact HL5.out.cell 0
            clear hK K
            try simp only [Act.put, List.setIfInBounds_toArray]
            refine wpAnyH_done (by kernel_rfl) ?_ _
            refine NoPanic.normal ?_
            go_wp2_with fail
            go_meet
            case rel => exact ⟨_, cap, R, rc, J5, HO5, hid (own_more HR5.out HBW.out), HC5⟩
  · go_simp
    refine (HCL.out).mono ?_; rintro e w6 ⟨R, rc, rfl, hr, b6⟩
    have J6 := hid (J1.out.keep b6)
    have HR6 := hid hr
    have D6 := hid b6
    clear hr b6
    refine hK.out _ _ ?_ (fun hHeld => ?_)
    · (try dsimp only)
      exact J6.out.line.cell 0
    clear hK K
    try simp only [Act.put, pA0, pA1, pA2]
    refine wpAnyH_ready (rs := [0, 3]) (by kernel_rfl) (by simp) ?_
    refine AllReadyH.cons rfl (fun K hK => ?_) (AllReadyH.cons rfl (fun K hK => ?_) (AllReadyH.nil))
    · have z7 := J6.out.out.cell 0
      simp only [List.getElem?_toArray, List.getElem?_cons_zero] at z7
      go_simp
      clear z7
      refine hK.out _ _ ?_ (fun hHeld => ?_)
      · (try dsimp only)
        exact J6.out.line.cell 0
      clear hK K
      try simp only [Act.put, pA0, pA1, pA2]
      refine wpAnyH_ready (rs := [3]) (by kernel_rfl) (by simp) ?_
      refine AllReadyH.cons rfl (fun K hK => ?_) (AllReadyH.nil)
      · go_simp
        have J8 := hid (J6.out.keep ((Below.refl _ _).alloc (Nat.le_refl _) (.cells #[.slice R 1 rc] 36)))
        have HR8 := hid (HR6.out.alloc (.cells #[.slice R 1 rc] 36))
        have D8 := hid (D6.out.alloc D6.out.size (.cells #[.slice R 1 rc] 36))
        refine hK.out _ _ ?_ (fun hHeld => ?_)
        · (try dsimp only)
          exact J8.out.line.cell 0
        clear hK K
        try simp only [Act.put, pA0, pA1, pA2]
        refine wpAnyH_ready (rs := [4]) (by kernel_rfl) (by simp) ?_
        refine AllReadyH.cons rfl (fun K hK => ?_) (AllReadyH.nil)
        · have hB9 : B ≤ (w6.alloc (.cells #[.slice R 1 rc] 36)).heap.size := Nat.le_trans HBW.out D8.out.size
          refine step_append_lies _ rfl (.tmp 9) (.tmp 12) 39 rfl B 36 i0 (.slice none 0 0) 1 24 TII.und hi0 hz0 hz1 hzz TII.zc TII.sz (.slice none 0 0) 0 [] rfl (World.ownsRow_nil _ _ _ _) _ 1 1 (#[.slice R 1 rc] : Array Value).toList rfl rfl (cells_new _ _ _) (by simp [Value.oneCell']) (by decide) (by unfold maxLen; omega) (by omega) hB9 _ rfl ?_; intro g cap wA howA hgA hatA hltA
          have bA := (Below.refl _ _).grown hgA (Nat.le_refl _) (fun k hk => by simp [Value.ownBlock] at hk)
          have J9 := hid (J8.out.keep bA)
          have HR9 := hid (own_below HR8.out bA)
          have HO9 := hid howA
          have D9 := hid (below_call D8.out bA D8.out.size)
          clear howA hgA hatA hltA bA hB9
          refine hK.out _ _ ?_ (fun hHeld => ?_)
          · (try dsimp only)
            exact J9.out.line.cell 0
          clear hK K
          try simp only [Act.put, List.setIfInBounds_toArray]
          refine wpAnyH_ready (rs := [5]) (by kernel_rfl) (by simp) ?_
          refine AllReadyH.cons rfl (fun K hK => ?_) (AllReadyH.nil)
          · have z10 : World.cell? _ ⟨bx, 0, none⟩ = some (.slice none 0 0) := J9.out.out.cell 0
            have g10 := J9.out.out.free 0
            go_simp
            clear z10 g10
            have J10 := hid (J9.out.out.set 0 (.slice (some ⟨g, 0, none⟩) 1 cap))
            have HL10 := hid (J9.out.line.far (p := ⟨bx, 0, none⟩) (blk_neM J9.out.line J9.out.out (by decide)) (.slice (some ⟨g, 0, none⟩) 1 cap))
            have HO10 := hid (own_grown HO9.out J9.out.out (by decide) (setGrown _ ⟨bx, 0, none⟩ (.slice (some ⟨g, 0, none⟩) 1 cap)))
            have HR10 := hid (own_grown HR9.out J9.out.out (by decide) (setGrown _ ⟨bx, 0, none⟩ (.slice (some ⟨g, 0, none⟩) 1 cap)))
            have HC10 := hid ((Chs.of_below (S := (· = bx)) D9.out).trans (Chs.setCell (S := (· = bx)) (a := ⟨bx, 0, none⟩) rfl (.slice (some ⟨g, 0, none⟩) 1 cap)))
            refine hK.out _ _ ?_ (fun hHeld => ?_)
            · (try dsimp only)
              exact HL10.out.cell 0
            clear hK K
            try simp only [Act.put, List.setIfInBounds_toArray]
            refine wpAnyH_done (by kernel_rfl) ?_ _
            refine NoPanic.normal ?_
            go_wp2_with fail
            go_meet
            case rel => exact ⟨_, cap, R, rc, J10, HO10, hid (own_more HR10.out HBW.out), HC10⟩
    · go_simp
      have J11 := hid (J6.out.keep ((Below.refl _ _).alloc (Nat.le_refl _) (.cells #[.slice R 1 rc] 36)))
      have HR11 := hid (HR6.out.alloc (.cells #[.slice R 1 rc] 36))
      have D11 := hid (D6.out.alloc D6.out.size (.cells #[.slice R 1 rc] 36))
      refine hK.out _ _ ?_ (fun hHeld => ?_)
      · (try dsimp only)
        exact J11.out.line.cell 0
      clear hK K
      try simp only [Act.put, pA0, pA1, pA2]
      refine wpAnyH_ready (rs := [0]) (by kernel_rfl) (by simp) ?_
      refine AllReadyH.cons rfl (fun K hK => ?_) (AllReadyH.nil)
      · have z12 := J11.out.out.cell 0
        simp only [List.getElem?_toArray, List.getElem?_cons_zero] at z12
        go_simp
        clear z12
        refine hK.out _ _ ?_ (fun hHeld => ?_)
        · (try dsimp only)
          exact J11.out.line.cell 0
        clear hK K
        try simp only [Act.put, pA0, pA1, pA2]
        refine wpAnyH_ready (rs := [4]) (by kernel_rfl) (by simp) ?_
        refine AllReadyH.cons rfl (fun K hK => ?_) (AllReadyH.nil)
        · have hB13 : B ≤ (w6.alloc (.cells #[.slice R 1 rc] 36)).heap.size := Nat.le_trans HBW.out D11.out.size
          refine step_append_lies _ rfl (.tmp 9) (.tmp 12) 39 rfl B 36 i0 (.slice none 0 0) 1 24 TII.und hi0 hz0 hz1 hzz TII.zc TII.sz (.slice none 0 0) 0 [] rfl (World.ownsRow_nil _ _ _ _) _ 1 1 (#[.slice R 1 rc] : Array Value).toList rfl rfl (cells_new _ _ _) (by simp [Value.oneCell']) (by decide) (by unfold maxLen; omega) (by omega) hB13 _ rfl ?_; intro g cap wA howA hgA hatA hltA
          have bA := (Below.refl _ _).grown hgA (Nat.le_refl _) (fun k hk => by simp [Value.ownBlock] at hk)
          have J13 := hid (J11.out.keep bA)
          have HR13 := hid (own_below HR11.out bA)
          have HO13 := hid howA
          have D13 := hid (below_call D11.out bA D11.out.size)
          clear howA hgA hatA hltA bA hB13
          refine hK.out _ _ ?_ (fun hHeld => ?_)
          · (try dsimp only)
            exact J13.out.line.cell 0
          clear hK K
          try simp only [Act.put, List.setIfInBounds_toArray]
          refine wpAnyH_ready (rs := [5]) (by kernel_rfl) (by simp) ?_
          refine AllReadyH.cons rfl (fun K hK => ?_) (AllReadyH.nil)
          · have z14 : World.cell? _ ⟨bx, 0, none⟩ = some (.slice none 0 0) := J13.out.out.cell 0
            have g14 := J13.out.out.free 0
            go_simp
            clear z14 g14
            have J14 := hid (J13.out.out.set 0 (.slice (some ⟨g, 0, none⟩) 1 cap))
            have HL14 := hid (J13.out.line.far (p := ⟨bx, 0, none⟩) (blk_neM J13.out.line J13.out.out (by decide)) (.slice (some ⟨g, 0, none⟩) 1 cap))
            have HO14 := hid (own_grown HO13.out J13.out.out (by decide) (setGrown _ ⟨bx, 0, none⟩ (.slice (some ⟨g, 0, none⟩) 1 cap)))
            have HR14 := hid (own_grown HR13.out J13.out.out (by decide) (setGrown _ ⟨bx, 0, none⟩ (.slice (some ⟨g, 0, none⟩) 1 cap)))
            have HC14 := hid ((Chs.of_below (S := (· = bx)) D13.out).trans (Chs.setCell (S := (· = bx)) (a := ⟨bx, 0, none⟩) rfl (.slice (some ⟨g, 0, none⟩) 1 cap)))
            refine hK.out _ _ ?_ (fun hHeld => ?_)
            · (try dsimp only)
              exact HL14.out.cell 0
            clear hK K
            try simp only [Act.put, List.setIfInBounds_toArray]
            refine wpAnyH_done (by kernel_rfl) ?_ _
            refine NoPanic.normal ?_
            go_wp2_with fail
            go_meet
            case rel => exact ⟨_, cap, R, rc, J14, HO14, hid (own_more HR14.out HBW.out), HC14⟩
 case rest =>
  obtain ⟨O, oc, R, rc, HO, HOO, HR, HC⟩ := hcut
  have k1 := (HC.out.blk H5.out.drew (by have := HLT.out; omega)).cell 0
  simp only [List.getElem?_toArray, List.getElem?_cons_zero] at k1
  gi_wp2
  refine ⟨trivial, (callsIn_wide.2 (elementsF 0 _)).mono ?_⟩
  rintro e w' ⟨rfl, rfl⟩
  have HG := hid ((Below.refl wc.heap.size wc).alloc (Nat.le_refl _) (.cells #[.int .i64 0] 3))
  have G1 := hid (HO.out.alloc (.cells #[.int .i64 0] 3))
  have G2 := hid (HOO.out.alloc (.cells #[.int .i64 0] 3))
  have G3 := hid (HR.out.alloc (.cells #[.int .i64 0] 3))
  have HCW := hid (show Chs (· = bx) w wc from (Chs.of_below B1.out).trans ((Chs.of_below (Below.refl _ W).drew).trans HC.out))
  have G4 := hid (HCW.out.trans (Chs.of_below HG.out))
  have GC := hid (Blk.new wc 3 #[.int .i64 0])
  have N0 := hid (show ¬ bx = wc.heap.size from by have := HO.out.lt; omega)
  have N1 := hid (show ∀ g, (Value.slice O 1 oc).ownBlock = some g → ¬ g = wc.heap.size from fun g e => by have := (HOO.out.lt g e).2; omega)
  have N2 := hid (show ∀ g, (Value.slice R 1 rc).ownBlock = some g → ¬ g = wc.heap.size from fun g e => by have := (HR.out.lt g e).2; omega)
  have N3 := hid (show w.heap.size ≤ wc.heap.size from HCW.out.size)
  have N4 := hid (show 7 < w.heap.size ∧ ¬ bx = 7 from ⟨HT.out.pos, HBX⟩)
  have GT := hid (show Tab (wc.alloc (.cells #[.int .i64 0] 3)) from (HT.out.chs HCW.out (fun e => N4.out.2 e.symm)).below HG.out)
  have HSZ := hid (show (wc.alloc (.cells #[.int .i64 0] 3)).heap.size = wc.heap.size + 1 from by simp)
  clear k1 HG
  gi_wp2
  generalize wc.alloc (.cells #[.int .i64 0] 3) = G at *
  refine wp_range (n := 9) (gf := 132) (c := wc.heap.size) (t := 3) (xs := []) rfl (fun args w => enters Tryz.func132 (by kernel_rfl) rfl args w) GC.out (elems_iter 8 _ 0 [] G rfl GC.out) rfl
   (fun _ W => (((Blk W bx 39 #[.slice O 1 oc] ∧ Chs (· = bx) w W) ∧ W.ownsRow B 36 1 (.slice O 1 oc) 1 [.slice R 1 rc] ∧ W.ownsRow B 3 1 (.slice R 1 rc) 1 [.int .i64 0]) ∧ Tab W))
   (fun _ _ => False) ?_ (fun _ _ _ _ _ hs _ _ => hs) ?_ (fun _ _ h => h.2) ⟨⟨⟨G1.out, G4.out⟩, G2.out, G3.out⟩, GT.out⟩ ?_ ?_ (fun _ _ _ _ h _ => h.elim)
  · have := N3.out
    have := HSZ.out
    exact OwnFrom.and (OwnFrom.and (OwnFrom.and (ownFrom_blk _ _ _ _) (ownFrom_chs (by omega))) (OwnFrom.and (ownFrom_own _ _ _ _ _ _ _) (ownFrom_own _ _ _ _ _ _ _))) (ownFrom_tab (by have := N4.out.1; omega))
  · rintro k W v ⟨⟨⟨h1, h2⟩, h3, h4⟩, h5⟩
    have := N3.out
    have := N4.out.1
    refine ⟨⟨⟨h1.far (p := ⟨wc.heap.size, 0, none⟩) N0.out _, h2.trans2 (p := ⟨wc.heap.size, 0, none⟩) (by simp; omega) v⟩, h3.kept (setGrown W ⟨wc.heap.size, 0, none⟩ v) ?_, h4.kept (setGrown W ⟨wc.heap.size, 0, none⟩ v) ?_⟩, h5.grown (setGrown W ⟨wc.heap.size, 0, none⟩ v) (by simp; omega)⟩
    · exact .inr fun e => N1.out _ e rfl
    · exact .inr fun e => N2.out _ e rfl
  · intro l k x W W2 _ _ _ hx
    simp at hx
  · rintro D W hD ⟨⟨⟨h1, h2⟩, h3, h4⟩, h5⟩ hK
    have G0 := hid h1
    have GA := hid h2
    have GB := hid h3
    have GD := hid h4
    have GK := hid hK
    clear h1 h2 h3 h4 h5 hK
    gi_wp2
    have := N3.out
    have := HSZ.out
    refine ⟨by simp, .inl ⟨_, _, rfl, run_takeDeferred GK.out, ?_⟩⟩
    exact ⟨_, results_none rfl _ _ _, rfl, O, oc, R, rc, (World.putObj_heap_other (by have := N0.out; have := HO.out.lt; omega)).trans G0.out, ownFrom_own (β := Unit) G.heap.size _ _ _ _ _ _ () _ _ (some D) GB.out (grownBy_putObj' W D _) (fun r e => by cases e; exact ⟨hD, _, GK.out, rfl⟩), ownFrom_own (β := Unit) G.heap.size _ _ _ _ _ _ () _ _ (some D) GD.out (grownBy_putObj' W D _) (fun r e => by cases e; exact ⟨hD, _, GK.out, rfl⟩), ownFrom_chs (β := Unit) (B := G.heap.size) (by omega) () _ _ (some D) GA.out (grownBy_putObj' W D _) (fun r e => by cases e; exact ⟨hD, _, GK.out, rfl⟩)⟩
end Go.Proofs.YtapeledneokgpaaGreatDoor
/- Walk of lines' closure at one element. Condition: the library's table of 64 numbers stands in its variable. -/
namespace Go.Proofs.YtapeledneokgpaaGreatDoor
open Go.RowKit Go.Shelf
attribute [local go_sem] Oper.semAt_some
theorem elems_one : Elems 1 [0] := ⟨by decide, by decide, by decide, by show (1 &&& (1 - 1) : Nat) = 0; decide⟩
theorem OwnFrom.ite {B : Nat} {I J : World → Prop} (h : OwnFrom B (fun (_ : Unit) W => I W)) (k : OwnFrom B (fun (_ : Unit) W => J W)) : OwnFrom B (fun (i : Nat) W => if i = 0 then I W else J W) := fun s X Y row hs hg hr => by
 by_cases e : s = 0
 · simp only [if_pos e] at hs ⊢
   exact h () X Y row hs hg hr
 · simp only [if_neg e] at hs ⊢
   exact k () X Y row hs hg hr
theorem LnS.ownFrom {β : Type} (B bo bx bl bg : Nat) (x l : Value) : OwnFrom B (fun (_ : β) W => LnS W bo bx bl bg x l) := fun s X Y row hs hg hr =>
 ⟨ownFrom_blk B _ _ _ s X Y row hs.ord hg hr, ownFrom_blk B _ _ _ s X Y row hs.out hg hr, ownFrom_blk B _ _ _ s X Y row hs.line hg hr, ownFrom_blk B _ _ _ s X Y row hs.grow hg hr⟩
theorem LnS.far {W : World} {bo bx bl bg : Nat} {x l : Value} (h : LnS W bo bx bl bg x l) {p : Addr} (hp : W.heap.size ≤ p.block ∨ (bo ≠ p.block ∧ bx ≠ p.block ∧ bl ≠ p.block ∧ bg ≠ p.block)) (u : Value) : LnS (W.setCell p u) bo bx bl bg x l := by
 have := h.ord.lt; have := h.out.lt; have := h.line.lt; have := h.grow.lt
 exact ⟨h.ord.far (by omega) u, h.out.far (by omega) u, h.line.far (by omega) u, h.grow.far (by omega) u⟩
/-- What came out: one line of one element. -/
def OutS (W : World) (B bx : Nat) : Prop := ∃ O oc R rc, Blk W bx 39 #[.slice O 1 oc] ∧ W.ownsRow B 36 1 (.slice O 1 oc) 1 [.slice R 1 rc] ∧ W.ownsRow B 3 1 (.slice R 1 rc) 1 [.int .i64 0]
theorem OutS.ownFrom {β : Type} (C B bx : Nat) : OwnFrom C (fun (_ : β) W => OutS W B bx) := fun s X Y row hs hg hr => by
 obtain ⟨O, oc, R, rc, h1, h2, h3⟩ := hs
 exact ⟨O, oc, R, rc, ownFrom_blk C _ _ _ s X Y row h1 hg hr, ownFrom_own C _ _ _ _ _ _ s X Y row h2 hg hr, ownFrom_own C _ _ _ _ _ _ s X Y row h3 hg hr⟩
theorem OutS.more {W : World} {B B' bx : Nat} (h : OutS W B bx) (hb : B' ≤ B) : OutS W B' bx := by
 obtain ⟨O, oc, R, rc, h1, h2, h3⟩ := h
 exact ⟨O, oc, R, rc, h1, own_more h2 hb, own_more h3 hb⟩
theorem OutS.far {W : World} {B bx : Nat} (h : OutS W B bx) {p : Addr} (h1 : bx ≠ p.block) (h2 : p.block < B) (u : Value) : OutS (W.setCell p u) B bx := by
 obtain ⟨O, oc, R, rc, k1, k2, k3⟩ := h
 refine ⟨O, oc, R, rc, k1.far h1 u, k2.kept (setGrown W p u) ?_, k3.kept (setGrown W p u) ?_⟩
 · cases hv : (Value.slice O 1 oc).ownBlock with
   | none => exact .inl rfl
   | some g => exact .inr fun e => by cases e; have := (k2.lt _ hv).1; omega
 · cases hv : (Value.slice R 1 rc).ownBlock with
   | none => exact .inl rfl
   | some g => exact .inr fun e => by cases e; have := (k3.lt _ hv).1; omega
set_option maxRecDepth 100000 in
set_option maxHeartbeats 4000000 in
theorem growOne (bo bx bl bg : Nat) (w : World) (h : LnS w bo bx bl bg (.slice none 0 0) (.slice none 0 0)) (hT : Tab w) (HBX : ¬ bx = 7 ∧ ¬ bl = 7) :
 Calls Tryz.prog 82 #[.int .i64 1, .pointer (some ⟨bx, 0, none⟩), .pointer (some ⟨bl, 0, none⟩), .pointer (some ⟨bo, 0, none⟩), .pointer (some ⟨bg, 0, none⟩)] w fun e w' => e = .returned (.tuple #[]) ∧
  OutS w' w.heap.size bx ∧ Chs (fun i => i = bx ∨ i = bl) w w' := by
 refine (callsIn_wide (n := 19)).1 ?_
 refine callsIn_of_wp_marks Tryz.func82 rfl trivial ?_ rfl
 simp only [Tryz.ntmps82, List.size_toArray, List.length_cons, List.length_nil, Nat.reduceAdd, Nat.reduceSub, Array.replicate_succ, Array.replicate_zero, List.push_toArray, List.append_toArray, List.nil_append, List.cons_append]
 have HT := hid hT
 have HL := hid h
 have k0 := (Blk.new w 3 #[.int .i64 1]).cell 0
 simp only [List.getElem?_toArray, List.getElem?_cons_zero] at k0
 clear h hT
 gi_wp2
 refine ⟨trivial, (callsIn_wide.2 (elementsF 1 _)).mono ?_⟩
 rintro e w' ⟨rfl, rfl⟩
 have hb : Below w.heap.size w ((w.alloc (.cells #[.int .i64 1] 3)).alloc (.cells #[.int .i64 1] 3)) := ((Below.refl _ w).alloc (Nat.le_refl _) _).alloc (by simp) _
 have HB := hid hb
 have GL := hid (HL.out.keep hb)
 have GT := hid (HT.out.below hb)
 have G5 := hid ((Blk.new w 3 #[.int .i64 1]).alloc (.cells #[.int .i64 1] 3))
 have GC := hid (Blk.new_at (w.alloc (.cells #[.int .i64 1] 3)) 3 #[.int .i64 1] (n := w.heap.size + 1) (by simp))
 have HSZ := hid (show ((w.alloc (.cells #[.int .i64 1] 3)).alloc (.cells #[.int .i64 1] 3)).heap.size = w.heap.size + 2 from by simp)
 have HP := hid HT.out.pos
 clear hb k0
 gi_wp2
 generalize ((w.alloc (.cells #[.int .i64 1] 3)).alloc (.cells #[.int .i64 1] 3)) = G at *
 refine wp_range (n := 19) (gf := 132) (c := w.heap.size + 1) (t := 3) (xs := [0]) rfl (fun args w => enters Tryz.func132 (by kernel_rfl) rfl args w) GC.out (elems_iter 18 _ 1 [0] G elems_one GC.out) rfl
  (fun k W => ((if k = 0 then LnS W bo bx bl bg (.slice none 0 0) (.slice none 0 0) else OutS W (w.heap.size + 2) bx) ∧ Chs (fun i => i = bx ∨ i = bl) w W) ∧ Blk W w.heap.size 3 #[.int .i64 1] ∧ Tab W)
  (fun _ _ => False) ?_ (fun _ _ _ _ _ hs _ _ => hs) ?_ (fun _ _ h => h.2.2) ⟨⟨by simpa using GL.out, Chs.of_below HB.out⟩, G5.out, GT.out⟩ ?_ ?_ (fun _ _ _ _ h _ => h.elim)
 · have := HSZ.out
   have := HP.out
   exact OwnFrom.and (OwnFrom.and (OwnFrom.ite (LnS.ownFrom _ _ _ _ _ _ _) (OutS.ownFrom _ _ _)) (ownFrom_chs (by omega))) (OwnFrom.and (ownFrom_blk _ _ _ _) (ownFrom_tab (by omega)))
 · rintro k W v ⟨⟨h1, h2⟩, h3, h4⟩
   have := HP.out
   have g1 := HL.out.ord.lt
   have g2 := HL.out.out.lt
   have g3 := HL.out.line.lt
   have g4 := HL.out.grow.lt
   refine ⟨⟨?_, h2.trans2 (p := ⟨w.heap.size + 1, 0, none⟩) (by simp) v⟩, h3.far (p := ⟨w.heap.size + 1, 0, none⟩) (by simp) v, h4.grown (setGrown W ⟨w.heap.size + 1, 0, none⟩ v) (by simp; omega)⟩
   by_cases e : k = 0
   · simp only [if_pos e] at h1 ⊢
     exact h1.far (p := ⟨w.heap.size + 1, 0, none⟩) (Or.inr (by simp; omega)) v
   · simp only [if_neg e] at h1 ⊢
     exact h1.far (p := ⟨w.heap.size + 1, 0, none⟩) (by simp; omega) (by simp) v
 · intro l k x W W2 hl hr hI hx hv
   have hk : k = 0 := by
    have := (List.getElem?_eq_some_iff.1 hx).1
    simp at this
    exact this
   subst hk
   have hx0 : x = 0 := by simpa using hx.symm
   subst hx0
   simp only [if_true] at hI
   obtain ⟨⟨hL, hC⟩, h5, hT2⟩ := hI
   gi_wp2
   refine ⟨trivial, ?_⟩
   gi_wp2
   have o0 := hL.ord.cell 0
   have o1 := hL.ord.cell 1
   have o2 := hL.ord.cell 2
   have o3 := hL.ord.cell 3
   have o4 := hL.ord.cell 4
   have o5 := hL.ord.cell 5
   have o6 := hL.ord.cell 6
   have k5 := h5.cell 0
   simp only [ord1, List.getElem?_toArray, List.getElem?_cons_zero, List.getElem?_cons_succ] at o0 o1 o2 o3 o4 o5 o6 k5
   have HLL := hid hL
   have HC := hid hC
   have H5 := hid h5
   have HT2 := hid hT2
   have HMX : Tryz.prog.follows .mixedOrders = true := by kernel_rfl
   clear hL hC h5 hT2 hx hv
   have hand0 : bits .and .i64 0 1 = 0 := by kernel_rfl
   refine wpIn_mono (Q := fun e a wx => e = .normal ∧ a = ({ tmps := #[.int .i64 1, .pointer (some ⟨bx, 0, none⟩), .pointer (some ⟨bl, 0, none⟩), .pointer (some ⟨bo, 0, none⟩), .pointer (some ⟨bg, 0, none⟩), .pointer (some ⟨w.heap.size, 0, none⟩), .int .i64 0, .int .i64 1, .bool false, undef, undef, undef, undef, undef, .int .i64 1, .func (.func 132) #[] #[.pointer (some ⟨w.heap.size + 1, 0, none⟩)], .int .i64 0, .agg #[.int .i64 1, .int .i64 0, .int .i64 0, .int .i64 0, .int .i64 0, .int .i64 0, .int .i64 0], .int .i64 0, .int .i64 0, .int .i64 1, .int .i64 0, .bool true, undef, undef, undef, undef, undef, undef, undef, undef, undef, undef, undef, undef, undef, undef, undef], defers := [] } : Act) ∧ Below W2.heap.size W2 wx) ?first5 ?rest5
   case first5 =>
    gi_region_with_o (first | (refine ⟨trivial, ?_⟩; gi_at_call 81; refine (CallsIn.inRound l (callsIn_wide.2 (belowOne _))).mono ?_; rintro e w7 ⟨rfl, b7⟩; have B7 := hid b7; have k7 : w7.cell? ⟨w.heap.size, 0, none⟩ = some (.int .i64 1) := cell_keep b7 k5; clear b7) | (gi_at_call 81; refine (CallsIn.inRound l (callsIn_wide.2 (belowOne _))).mono ?_; rintro e w7 ⟨rfl, b7⟩; have B7 := hid b7; have k7 : w7.cell? ⟨w.heap.size, 0, none⟩ = some (.int .i64 1) := cell_keep b7 k5; clear b7))
    all_goals exact ⟨rfl, rfl, (Below.refl _ W2).drew.trans B7.out⟩
   case rest5 =>
    rintro e a wx ⟨rfl, rfl, hb7⟩
    have J7 := hid (HLL.out.keep hb7)
    have K5 := hid (H5.out.keep hb7)
    have T7 := hid (HT2.out.below hb7)
    have C7 := hid (show Chs (fun i => i = bx ∨ i = bl) w wx from HC.out.trans (Chs.of_below hb7))
    have CW7 := hid (show Chs (fun i => i = bx ∨ i = bl) W2 wx from Chs.of_below hb7)
    have z2 := J7.out.line.cell 0
    simp only [List.getElem?_toArray, List.getElem?_cons_zero] at z2
    clear o0 o1 o2 o3 o4 o5 o6 k5 HLL hb7
    obtain ⟨i0, hi0, hz0, hz1, hzz⟩ := info_parts TI27.inf
    dsimp only
    gi_wp2_with (gi_at_builtin; refine wpListIn_append_own _ rfl _ _ 36 rfl w.heap.size 3 i0 (.int .i64 0) 1 8 TI27.und hi0 hz0 hz1 hzz TI27.zc TI27.sz (.slice none 0 0) 0 [] rfl (World.ownsRow_nil _ _ _ _) ⟨wx.heap.size, 0, none⟩ 1 1 [.int .i64 0] rfl rfl (cell_one_new _ _ _) (by simp [Value.oneCell']) (by unfold maxLen; omega) (by omega) (by have := C7.out.size; simp; omega) ?_; intro v1 w8 hown1 hgr _; obtain ⟨L, lc, rfl⟩ := own_form hown1; have b8 := ((Below.refl wx.heap.size wx).alloc (Nat.le_refl _) (.cells #[.int .i64 0] 3)).grown hgr (by simp) (fun k hk => by simp [Value.ownBlock] at hk); have B8 := hid b8; have J8 := hid (J7.out.keep b8); have L8 := hid hown1; have y2 := J8.out.line.cell 0; have f2 := J8.out.line.free 0; simp only [List.getElem?_toArray, List.getElem?_cons_zero] at y2; clear hown1 hgr b8)
    have hbl := HL.out.line.lt
    have J9 := hid (show LnS (w8.setCell ⟨bl, 0, none⟩ (.slice L 1 lc)) bo bx bl bg (.slice none 0 0) (.slice L 1 lc) from
     ⟨J8.out.ord.far (p := ⟨bl, 0, none⟩) (blk_neM J8.out.ord J8.out.line (by decide)) _, J8.out.out.far (p := ⟨bl, 0, none⟩) (blk_neM J8.out.out J8.out.line (by decide)) _, J8.out.line.set 0 _, J8.out.grow.far (p := ⟨bl, 0, none⟩) (blk_neM J8.out.grow J8.out.line (by decide)) _⟩)
    have L9 := hid (own_grown L8.out J8.out.line (by decide) (setGrown w8 ⟨bl, 0, none⟩ (.slice L 1 lc)))
    have CW9 := hid (CW7.out.trans ((Chs.of_below B8.out).trans (Chs.setCell (S := fun i => i = bx ∨ i = bl) (a := ⟨bl, 0, none⟩) (Or.inr rfl) (.slice L 1 lc))))
    have C9 := hid (HC.out.trans CW9.out)
    have K9 := hid ((K5.out.keep B8.out).far (p := ⟨bl, 0, none⟩) (by simp; omega) (.slice L 1 lc))
    have T9 := hid (HT2.out.chs CW9.out (fun e => by rcases e with e | e <;> first | exact HBX.1 e.symm | exact HBX.2 e.symm))
    clear y2 f2 z2 CW7 C7 K5 T7 J7 J8 L8 B8
    generalize w8.setCell ⟨bl, 0, none⟩ (.slice L 1 lc) = V at *
    have HGZ := hid (growZero (w.heap.size + 2) bo bx bl bg L lc V.drew ⟨J9.out.ord.drew, J9.out.out.drew, J9.out.line.drew, J9.out.grow.drew⟩ (Sl.of_own L9.out).drew (T9.out.below (Below.refl _ V).drew) (by obtain ⟨r, hr⟩ := hr; have h1 := (Array.getElem?_eq_some_iff.1 hr).1; have h2 := HSZ.out; have h3 := CW9.out.size; show w.heap.size + 2 ≤ V.heap.size; omega) HBX.1)
    have v0 := J9.out.grow.cell 0
    have v1 := K9.out.cell 0
    simp only [List.getElem?_toArray, List.getElem?_cons_zero] at v0 v1
    have hshl : bits .andNot .i64 1 1 = 0 := by kernel_rfl
    refine wpIn_mono (Q := fun e a wy => e = .normal ∧ a = ({ tmps := #[.int .i64 1, .pointer (some ⟨bx, 0, none⟩), .pointer (some ⟨bl, 0, none⟩), .pointer (some ⟨bo, 0, none⟩), .pointer (some ⟨bg, 0, none⟩), .pointer (some ⟨w.heap.size, 0, none⟩), .int .i64 0, .int .i64 1, .bool false, undef, undef, undef, undef, undef, .int .i64 1, .func (.func 132) #[] #[.pointer (some ⟨w.heap.size + 1, 0, none⟩)], .int .i64 0, .agg #[.int .i64 1, .int .i64 0, .int .i64 0, .int .i64 0, .int .i64 0, .int .i64 0, .int .i64 0], .int .i64 0, .int .i64 0, .int .i64 1, .int .i64 0, .bool true, .slice none 0 0, .int .i64 0, .slice (some ⟨wx.heap.size, 0, none⟩) 1 1, .slice L 1 lc, .func (.func 82) #[] #[.pointer (some ⟨bx, 0, none⟩), .pointer (some ⟨bl, 0, none⟩), .pointer (some ⟨bo, 0, none⟩), .pointer (some ⟨bg, 0, none⟩)], .int .i64 1, .int .i64 0, .int .i64 1, .int .i64 0, .tuple #[], undef, undef, undef, undef, undef], defers := [] } : Act) ∧ OutS wy (w.heap.size + 2) bx ∧ Chs (· = bx) V wy) ?first7 ?rest7
    case first7 =>
     gi_region_with_o (first | (refine ⟨trivial, ?_⟩; gi_at_call 82; refine (CallsIn.inRound l (callsIn_wide.2 HGZ.out)).mono ?_; rintro e w9 ⟨rfl, O, oc, R, rc, q1, q2, q3, q4⟩; have Q1 := hid q1; have Q2 := hid q2; have Q3 := hid q3; have Q4 := hid q4; clear q1 q2 q3 q4) | (gi_at_call 82; refine (CallsIn.inRound l (callsIn_wide.2 HGZ.out)).mono ?_; rintro e w9 ⟨rfl, O, oc, R, rc, q1, q2, q3, q4⟩; have Q1 := hid q1; have Q2 := hid q2; have Q3 := hid q3; have Q4 := hid q4; clear q1 q2 q3 q4))
     all_goals exact ⟨rfl, rfl, ⟨O, oc, R, rc, Q1.out, Q2.out, Q3.out⟩, (Chs.of_below (Below.refl _ V).drew).trans Q4.out⟩
    case rest7 =>
     rintro e a wy ⟨rfl, rfl, hO, hCy⟩
     have hne : ¬ bl = bx := blk_neM J9.out.line J9.out.out (by decide)
     have Y2 := hid (hCy.blk J9.out.line hne)
     have HOO := hid hO
     have CY := hid (CW9.out.trans (hCy.mono fun i e => Or.inl e))
     have KY := hid (hCy.blk K9.out (blk_neM K9.out J9.out.out (by decide)))
     have TY := hid (T9.out.chs hCy (fun e => HBX.1 e.symm))
     have y2 := Y2.out.cell 0
     have f2 := Y2.out.free 0
     simp only [List.getElem?_toArray, List.getElem?_cons_zero] at y2
     have hlc := (Sl.of_own L9.out).cap
     clear hO hCy hshl v0 v1 HGZ hand0
     have hbx := HL.out.out.lt
     have CF := hid (CY.out.trans (Chs.setCell (S := fun i => i = bx ∨ i = bl) (a := ⟨bl, 0, none⟩) (Or.inr rfl) (.slice L 0 lc)))
     have KF := hid (KY.out.far (p := ⟨bl, 0, none⟩) (by simp; omega) (.slice L 0 lc))
     have OF := hid (HOO.out.far (p := ⟨bl, 0, none⟩) (fun e => hne e.symm) (by simp; omega) (.slice L 0 lc))
     have TF := hid (TY.out.grown (setGrown wy ⟨bl, 0, none⟩ (.slice L 0 lc)) (by simp; exact HBX.2))
     dsimp only
     gi_wp2
     have := HSZ.out
     obtain ⟨r, hr⟩ := hr
     have hlw := (Array.getElem?_eq_some_iff.1 hr).1
     exact ⟨⟨CF.out.size, fun k o hk ho _ => (CF.out.block k (lt_of_block ho) (by omega)).trans ho⟩, CF.out.block (w.heap.size + 1) (by omega) (by omega), ⟨OF.out, HC.out.trans CF.out⟩, KF.out, TF.out⟩
 · rintro D W hD ⟨⟨h1, h2⟩, h3, h4⟩ hK
   have h1 : OutS W (w.heap.size + 2) bx := h1
   have G0 := hid h1
   have GA := hid h2
   have GK := hid hK
   clear h1 h2 h3 h4 hK
   gi_wp2
   have := HSZ.out
   refine ⟨by simp, .inl ⟨_, _, rfl, run_takeDeferred GK.out, ?_⟩⟩
   have q1 := OutS.ownFrom (β := Unit) G.heap.size _ _ () _ _ (some D) G0.out (grownBy_putObj' W D (.deferred none)) (fun r e => by cases e; exact ⟨hD, _, GK.out, rfl⟩)
   have q2 := ownFrom_chs (β := Unit) (B := G.heap.size) (by omega) () _ _ (some D) GA.out (grownBy_putObj' W D (.deferred none)) (fun r e => by cases e; exact ⟨hD, _, GK.out, rfl⟩)
   exact ⟨_, results_none rfl _ _ _, rfl, q1.more (by omega), q2⟩
end Go.Proofs.YtapeledneokgpaaGreatDoor
