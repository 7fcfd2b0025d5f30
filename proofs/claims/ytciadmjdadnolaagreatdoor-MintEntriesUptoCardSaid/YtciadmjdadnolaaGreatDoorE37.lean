/- Texts of this proof, one behind the other; each says its condition at its head. -/
import Derived.Test.YtciadmjdadnolaaGreatDoorE36
import Derived.Test.YtciadmjdadnolaaGreatDoorE8
/- Walks of order's lines and Lines, and of roll, at one element. Condition: the library's table of 64 numbers stands in its variable. -/
namespace Go.Proofs.YtciadmjdadnolaaGreatDoor
open Go.RowKit Go.Shelf
set_option maxRecDepth 100000 in
set_option maxHeartbeats 4000000 in
theorem linesOne (w : World) (hT : Tab w) :
 Calls Tryz.prog 145 #[.agg ord1] w fun e w' => ∃ O oc R rc, e = .returned (.slice O 1 oc) ∧ w'.ownsRow w.heap.size 89 1 (.slice O 1 oc) 1 [.slice R 1 rc] ∧ w'.ownsRow w.heap.size 3 1 (.slice R 1 rc) 1 [.int .i64 0] ∧ Below w.heap.size w w' := by
 have he : ∀ args W, (callFunc 194 args).run Tryz.prog W = .ok (.enter 194 args) W := fun args W => enters Tryz.func194 (by kernel_rfl) rfl args W
 have HT := hid hT
 clear hT
 unfold ord1
 go_enter Tryz.func145, Tryz.ntmps145
 go_wp2_with fail
 have HLN := hid (show LnS ((((w.alloc (.cells #[.int .i64 1, .int .i64 0, .int .i64 0, .int .i64 0, .int .i64 0, .int .i64 0, .int .i64 0] 150)).alloc (.cells #[.slice none 0 0] 169)).alloc (.cells #[.slice none 0 0] 89)).alloc (.cells #[.func (.func 194) #[] #[.pointer (some ⟨w.heap.size + 1, 0, none⟩), .pointer (some ⟨w.heap.size + 1 + 1, 0, none⟩), .pointer (some ⟨w.heap.size, 0, none⟩), .pointer (some ⟨w.heap.size + 1 + 1 + 1, 0, none⟩)]] 280)) w.heap.size (w.heap.size + 1) (w.heap.size + 1 + 1) (w.heap.size + 1 + 1 + 1) (.slice none 0 0) (.slice none 0 0) from
  ⟨(((Blk.new w _ _).alloc _).alloc _).alloc _, ((Blk.new_at _ _ _ (by simp)).alloc _).alloc _, (Blk.new_at _ _ _ (by simp)).alloc _, Blk.new_at _ _ _ (by simp)⟩)
 have HLO := hid (show Below w.heap.size w ((((w.alloc (.cells #[.int .i64 1, .int .i64 0, .int .i64 0, .int .i64 0, .int .i64 0, .int .i64 0, .int .i64 0] 150)).alloc (.cells #[.slice none 0 0] 169)).alloc (.cells #[.slice none 0 0] 89)).alloc (.cells #[.func (.func 194) #[] #[.pointer (some ⟨w.heap.size + 1, 0, none⟩), .pointer (some ⟨w.heap.size + 1 + 1, 0, none⟩), .pointer (some ⟨w.heap.size, 0, none⟩), .pointer (some ⟨w.heap.size + 1 + 1 + 1, 0, none⟩)]] 280)) from ((((Below.refl _ w).alloc (Nat.le_refl _) _).alloc (by simp) _).alloc (by simp; omega) _).alloc (by simp; omega) _)
 generalize ((((w.alloc (.cells #[.int .i64 1, .int .i64 0, .int .i64 0, .int .i64 0, .int .i64 0, .int .i64 0, .int .i64 0] 150)).alloc (.cells #[.slice none 0 0] 169)).alloc (.cells #[.slice none 0 0] 89)).alloc (.cells #[.func (.func 194) #[] #[.pointer (some ⟨w.heap.size + 1, 0, none⟩), .pointer (some ⟨w.heap.size + 1 + 1, 0, none⟩), .pointer (some ⟨w.heap.size, 0, none⟩), .pointer (some ⟨w.heap.size + 1 + 1 + 1, 0, none⟩)]] 280)) = W at *
 have HP := hid HT.out.pos
 have HTW := hid (HT.out.below HLO.out)
 have z := HLN.out.grow.cell 0
 have o0 := HLN.out.ord.cell 0
 have o1 := HLN.out.ord.cell 1
 have o2 := HLN.out.ord.cell 2
 have o3 := HLN.out.ord.cell 3
 have o4 := HLN.out.ord.cell 4
 have o5 := HLN.out.ord.cell 5
 have o6 := HLN.out.ord.cell 6
 simp only [ord1, List.getElem?_toArray, List.getElem?_cons_zero, List.getElem?_cons_succ] at z o0 o1 o2 o3 o4 o5 o6
 have HAL := hid (allOne W.drew)
 unfold ord1 at HAL
 go_region_held3 (fun w' => w'.cell? ⟨w.heap.size + 1 + 1 + 1, 0, none⟩ = some (.func (.func 194) #[] #[.pointer (some ⟨w.heap.size + 1, 0, none⟩), .pointer (some ⟨w.heap.size + 1 + 1, 0, none⟩), .pointer (some ⟨w.heap.size, 0, none⟩), .pointer (some ⟨w.heap.size + 1 + 1 + 1, 0, none⟩)]) ∧ w'.cell? ⟨w.heap.size, 0, none⟩ = some (.int .i64 1) ∧ w'.cell? ⟨w.heap.size, 1, none⟩ = some (.int .i64 0) ∧ w'.cell? ⟨w.heap.size, 2, none⟩ = some (.int .i64 0) ∧ w'.cell? ⟨w.heap.size, 3, none⟩ = some (.int .i64 0) ∧ w'.cell? ⟨w.heap.size, 4, none⟩ = some (.int .i64 0) ∧ w'.cell? ⟨w.heap.size, 5, none⟩ = some (.int .i64 0) ∧ w'.cell? ⟨w.heap.size, 6, none⟩ = some (.int .i64 0)) (first | exact ⟨z, o0, o1, o2, o3, o4, o5, o6⟩ | exact HK.out | exact HK2.out) (first
  | (go_at_call 195; refine (HAL.out).mono ?_; rintro e w5 ⟨rfl, b5⟩; have B5 := hid b5; have HK : Hid (w5.cell? ⟨w.heap.size + 1 + 1 + 1, 0, none⟩ = some (.func (.func 194) #[] #[.pointer (some ⟨w.heap.size + 1, 0, none⟩), .pointer (some ⟨w.heap.size + 1 + 1, 0, none⟩), .pointer (some ⟨w.heap.size, 0, none⟩), .pointer (some ⟨w.heap.size + 1 + 1 + 1, 0, none⟩)]) ∧ w5.cell? ⟨w.heap.size, 0, none⟩ = some (.int .i64 1) ∧ w5.cell? ⟨w.heap.size, 1, none⟩ = some (.int .i64 0) ∧ w5.cell? ⟨w.heap.size, 2, none⟩ = some (.int .i64 0) ∧ w5.cell? ⟨w.heap.size, 3, none⟩ = some (.int .i64 0) ∧ w5.cell? ⟨w.heap.size, 4, none⟩ = some (.int .i64 0) ∧ w5.cell? ⟨w.heap.size, 5, none⟩ = some (.int .i64 0) ∧ w5.cell? ⟨w.heap.size, 6, none⟩ = some (.int .i64 0)) := hid (And.intro (cell_keep b5 z) (And.intro (cell_keep b5 o0) (And.intro (cell_keep b5 o1) (And.intro (cell_keep b5 o2) (And.intro (cell_keep b5 o3) (And.intro (cell_keep b5 o4) (And.intro (cell_keep b5 o5) (cell_keep b5 o6)))))))); clear b5)
  | (go_at_call 194; refine (growOne w.heap.size (w.heap.size + 1) (w.heap.size + 1 + 1) (w.heap.size + 1 + 1 + 1) w5 (HLN.out.keep ((Below.refl _ W).drew.trans B5.out)) (HTW.out.below ((Below.refl _ W).drew.trans B5.out)) (by have := HP.out; omega)).mono ?_; rintro e w6 ⟨rfl, hO, hC⟩; have HO := hid hO; have HC := hid hC; have KO := hid (hC.blk (HLN.out.keep ((Below.refl _ W).drew.trans B5.out)).ord (by omega)); have KG := hid (hC.blk (HLN.out.keep ((Below.refl _ W).drew.trans B5.out)).grow (by omega)); have HK2 : Hid (w6.cell? ⟨w.heap.size + 1 + 1 + 1, 0, none⟩ = some (.func (.func 194) #[] #[.pointer (some ⟨w.heap.size + 1, 0, none⟩), .pointer (some ⟨w.heap.size + 1 + 1, 0, none⟩), .pointer (some ⟨w.heap.size, 0, none⟩), .pointer (some ⟨w.heap.size + 1 + 1 + 1, 0, none⟩)]) ∧ w6.cell? ⟨w.heap.size, 0, none⟩ = some (.int .i64 1) ∧ w6.cell? ⟨w.heap.size, 1, none⟩ = some (.int .i64 0) ∧ w6.cell? ⟨w.heap.size, 2, none⟩ = some (.int .i64 0) ∧ w6.cell? ⟨w.heap.size, 3, none⟩ = some (.int .i64 0) ∧ w6.cell? ⟨w.heap.size, 4, none⟩ = some (.int .i64 0) ∧ w6.cell? ⟨w.heap.size, 5, none⟩ = some (.int .i64 0) ∧ w6.cell? ⟨w.heap.size, 6, none⟩ = some (.int .i64 0)) := hid ⟨KG.out.cell 0, KO.out.cell 0, KO.out.cell 1, KO.out.cell 2, KO.out.cell 3, KO.out.cell 4, KO.out.cell 5, KO.out.cell 6⟩; clear hO hC))
 obtain ⟨O, oc, R, rc, h1, h2, h3⟩ := HO.out
 have x0 := h1.cell 0
 simp only [List.getElem?_toArray, List.getElem?_cons_zero] at x0
 have hlow := HC.out.below (HLO.out.drew.trans (B5.out.mono HLO.out.size)) (Nat.le_trans HLO.out.size B5.out.size) (fun i e => by omega)
 have HLW := hid hlow
 have H2 := hid h2
 have H3 := hid h3
 have H5S := hid (show w.heap.size ≤ w5.heap.size from Nat.le_trans HLO.out.size B5.out.size)
 clear hlow h1 h2 h3
 go_wp2
 go_ret
 exact ⟨O, oc, R, rc, rfl, own_more H2.out H5S.out, own_more H3.out H5S.out, HLW.out⟩
end Go.Proofs.YtciadmjdadnolaaGreatDoor
/- Walk of medal at the first state of a call's own. Condition: the line's name reads as one name. -/
namespace Go.Proofs.YtciadmjdadnolaaGreatDoor
open Go.RowKit Go.Maps
/-- The cells of a state with medals, what is above them, and nothing else. -/
def stC (m a : Value) : Array Value := #[m, a, .slice none 0 0, .slice none 0 0, .int .i64 0, .int .i64 0, .int .i64 0, .int .i64 1, .bool true, .slice none 0 0]
set_option maxRecDepth 100000 in
set_option maxHeartbeats 4000000 in
theorem medalF (nb : Nat) (A : Option Addr) (c : Nat) (s : ByteArray) (w : World) (h : Blk w nb 102 (stC (.slice none 0 0) (.slice none 0 0))) (hs : Sl w A 1 c [.string s]) (hnb : ∀ b o, A = some ⟨b, o, none⟩ → ¬ b = nb) :
 Calls Tryz.prog 44 #[.pointer (some ⟨nb, 0, none⟩), .agg #[.slice A 1 c, .slice none 0 0]] w fun e w' => e = .returned (.int .i64 0) ∧ ∃ M mc U uc, Blk w' nb 102 (stC (.slice M 1 mc) (.slice U 1 uc)) ∧ w'.ownsRow w.heap.size 9 1 (.slice M 1 mc) 1 [.string s] ∧ w'.ownsRow w.heap.size 3 1 (.slice U 1 uc) 1 [.int .i64 0] ∧ Chs (· = nb) w w' := by
 obtain ⟨b, o, u, rfl, lb, e1, ca⟩ := hs.at (k := 0) (by omega)
 simp only [List.getElem?_cons_zero, Option.some.injEq, Nat.add_zero] at e1 ca
 subst e1
 have HNB := hnb _ _ rfl
 have HE := hid fun W => enterYes W.heap.size none 0 0 [] s 6 W (Nat.le_refl _) (World.ownsRow_nil _ _ _ _) (by simp) (by omega) (by omega)
 have c0 := h.cell 0
 simp only [stC, List.getElem?_toArray, List.getElem?_cons_zero] at c0
 have HB := hid h
 have HLB := hid lb
 clear h hs hnb
 have HB1 := hid (HB.out.alloc (.cells #[.slice (some ⟨b, o, none⟩) 1 c, .slice none 0 0] 91))
 have k0 := (Blk.new w 91 #[.slice (some ⟨b, o, none⟩) 1 c, .slice none 0 0]).cell 0
 simp only [List.getElem?_toArray, List.getElem?_cons_zero] at k0
 go_enter Tryz.func44, Tryz.ntmps44
 go_wp2_with fail
 have n0 := HB1.out.cell 0
 simp only [stC, List.getElem?_toArray, List.getElem?_cons_zero] at n0
 have ca1 : (w.alloc (.cells #[.slice (some ⟨b, o, none⟩) 1 c, .slice none 0 0] 91)).cell? ⟨b, o, none⟩ = some (.string s) := cell_keep ((Below.refl _ w).alloc (Nat.le_refl _) _) ca
 have BW := hid ((Below.refl w.heap.size w).alloc (Nat.le_refl _) (.cells #[.slice (some ⟨b, o, none⟩) 1 c, .slice none 0 0] 91))
 have WLT := hid (show w.heap.size < (w.alloc (.cells #[.slice (some ⟨b, o, none⟩) 1 c, .slice none 0 0] 91)).heap.size from by simp)
 have NW := hid (show ¬ w.heap.size = nb from by have := HB.out.lt; omega)
 have NB := hid (show ¬ b = nb from HNB)
 clear c0 ca
 generalize w.alloc (.cells #[.slice (some ⟨b, o, none⟩) 1 c, .slice none 0 0] 91) = W at *
 go_cut [4] from 5 to 19 (fun t wx => t = .int .i64 0 ∧ ∃ M mc, Hid (Blk wx nb 102 (stC (.slice M 1 mc) (.slice none 0 0))) ∧ Hid (wx.ownsRow W.heap.size 9 1 (.slice M 1 mc) 1 [.string s]) ∧ Hid (Chs (· = nb) W wx))
 case first =>
  refine wp_region_held_drew (S := (fun w' => w'.cell? ⟨w.heap.size, 0, none⟩ = some (.slice (some ⟨b, o, none⟩) 1 c) ∧ w'.cell? ⟨b, o, none⟩ = some (.string s))) (by kernel_rfl) (by (try dsimp only); (first | exact ⟨k0, ca1⟩ | exact HK.out | exact HK2.out)) (fun hHeld => ?_)
  refine takeD (i := 0) (v := ?_) (some 6) rfl rfl (by kernel_rfl) (by kernel_rfl) (by kernel_rfl) (fun _ _ _ h => h) (Or.inl ⟨by rfl, ?_⟩) (by assumption) ?_; rotate_left; · (intro w hSw; (try dsimp only at hSw); first | (go_simp; done) | (go_simp; with_reducible rfl))
  try simp only [Act.put, List.setIfInBounds_toArray, List.set_cons_zero, List.set_cons_succ]
  refine takeD (i := 1) (v := ?_) (some 7) rfl rfl (by kernel_rfl) (by kernel_rfl) (by kernel_rfl) (fun _ _ _ h => h) (Or.inl ⟨by rfl, ?_⟩) (by assumption) ?_; rotate_left; · (intro w hSw; (try dsimp only at hSw); first | (go_simp; done) | (go_simp; with_reducible rfl))
  try simp only [Act.put, List.setIfInBounds_toArray, List.set_cons_zero, List.set_cons_succ]
  refine takeD (i := 2) (v := ?_) (some 8) rfl rfl (by kernel_rfl) (by kernel_rfl) (by kernel_rfl) (fun _ _ _ h => h) (Or.inl ⟨by rfl, ?_⟩) (by assumption) ?_; rotate_left; · (intro w hSw; (try dsimp only at hSw); first | (go_simp; done) | (go_simp; with_reducible rfl))
  try simp only [Act.put, List.setIfInBounds_toArray, List.set_cons_zero, List.set_cons_succ]
  refine takeD (i := 3) (v := ?_) (some 9) rfl rfl (by kernel_rfl) (by kernel_rfl) (by kernel_rfl) (fun _ _ _ h => h) (Or.inl ⟨by rfl, ?_⟩) (by assumption) ?_; rotate_left; · (intro w hSw; (try dsimp only at hSw); first | (go_simp; done) | (go_simp; with_reducible rfl))
  try simp only [Act.put, List.setIfInBounds_toArray, List.set_cons_zero, List.set_cons_succ]
  refine takeD (i := 5) (v := ?_) (some 11) rfl rfl (by kernel_rfl) (by kernel_rfl) (by kernel_rfl) (fun _ _ _ h => h) (Or.inl ⟨by rfl, ?_⟩) (by assumption) ?_; rotate_left; · (intro w hSw; (try dsimp only at hSw); first | (go_simp; done) | (go_simp; with_reducible rfl))
  try simp only [Act.put, List.setIfInBounds_toArray, List.set_cons_zero, List.set_cons_succ]
  refine takeD (i := 6) (v := ?_) (some 12) rfl rfl (by kernel_rfl) (by kernel_rfl) (by kernel_rfl) (fun _ _ _ h => h) (Or.inl ⟨by rfl, ?_⟩) (by assumption) ?_; rotate_left; · (intro w hSw; (try dsimp only at hSw); first | (go_simp; done) | (go_simp; with_reducible rfl))
  try simp only [Act.put, List.setIfInBounds_toArray, List.set_cons_zero, List.set_cons_succ]
  refine takeD (i := 7) (v := ?_) (some 13) rfl rfl (by kernel_rfl) (by kernel_rfl) (by kernel_rfl) (fun _ _ _ h => h) (Or.inl ⟨by rfl, ?_⟩) (by assumption) ?_; rotate_left; · (intro w hSw; (try dsimp only at hSw); first | (go_simp; done) | (go_simp; with_reducible rfl))
  try simp only [Act.put, List.setIfInBounds_toArray, List.set_cons_zero, List.set_cons_succ]
  refine takeD (i := 8) (v := ?_) (some 14) rfl rfl (by kernel_rfl) (by kernel_rfl) (by kernel_rfl) (fun _ _ _ h => h) (Or.inl ⟨by rfl, ?_⟩) (by assumption) ?_; rotate_left; · (intro w hSw; (try dsimp only at hSw); first | (go_simp; done) | (go_simp; with_reducible rfl))
  try simp only [Act.put, List.setIfInBounds_toArray, List.set_cons_zero, List.set_cons_succ]
  refine wpAnyH_ready (rs := [4]) (by kernel_rfl) (by simp) ?_
  refine AllReadyH.cons rfl (fun K hK => ?_) AllReadyH.nil
  go_simp
  clear n0
  refine hK.out _ _ ?_ (fun hHeld => ?_); · ((try dsimp only); (first | exact ⟨k0, ca1⟩ | exact HK.out | exact HK2.out))
  clear hK K
  try simp only [Act.put, List.setIfInBounds_toArray, List.set_cons_zero, List.set_cons_succ]
  refine wpAnyH_ready (rs := [9]) (by kernel_rfl) (by simp) ?_
  refine AllReadyH.cons rfl (fun K hK => ?_) AllReadyH.nil
  go_simp
  refine (HE.out _).mono ?_; rintro e w5 ⟨⟨M, mc, rfl, hown⟩, hg⟩
  have J5 := hid ((HB1.out.drew.alloc (.cells #[.string s] 9)).grown hg (by simp [Value.ownBlock]))
  have B5 := hid ((((Below.refl W.heap.size W).drew).alloc (Nat.le_refl _) (.cells #[.string s] 9)).grown hg (by simp) (fun k hk => by simp [Value.ownBlock] at hk))
  have O5 := hid hown
  have HK : Hid (w5.cell? ⟨w.heap.size, 0, none⟩ = some (.slice (some ⟨b, o, none⟩) 1 c) ∧ w5.cell? ⟨b, o, none⟩ = some (.string s)) := hid (And.intro (cell_keep B5.out k0) (cell_keep B5.out ca1))
  clear hown hg k0 ca1
  have m0 := J5.out.cell 0
  have f0 := J5.out.free 0
  simp only [stC, List.getElem?_toArray, List.getElem?_cons_zero] at m0
  refine hK.out _ _ ?_ (fun hHeld => ?_); · ((try dsimp only); (first | exact ⟨k0, ca1⟩ | exact HK.out | exact HK2.out))
  clear hK K
  try simp only [Act.put, List.setIfInBounds_toArray, List.set_cons_zero, List.set_cons_succ]
  refine takeD (i := 10) (v := ?_) (some 5) rfl rfl (by kernel_rfl) (by kernel_rfl) (by kernel_rfl) (fun _ _ _ h => h) (Or.inl ⟨by rfl, ?_⟩) (by assumption) ?_; rotate_left; · (intro w hSw; (try dsimp only at hSw); first | (go_simp; done) | (go_simp; with_reducible rfl))
  try simp only [Act.put, List.setIfInBounds_toArray, List.set_cons_zero, List.set_cons_succ]
  refine takeD (i := 11) (v := ?_) (some 16) rfl rfl (by kernel_rfl) (by kernel_rfl) (by kernel_rfl) (fun _ _ _ h => h) (Or.inl ⟨by rfl, ?_⟩) (by assumption) ?_; rotate_left; · (intro w hSw; (try dsimp only at hSw); first | (go_simp; done) | (go_simp; with_reducible rfl))
  try simp only [Act.put, List.setIfInBounds_toArray, List.set_cons_zero, List.set_cons_succ]
  refine takeD (i := 12) (v := ?_) (some 17) rfl rfl (by kernel_rfl) (by kernel_rfl) (by kernel_rfl) (fun _ _ _ h => h) (Or.inl ⟨by rfl, ?_⟩) (by assumption) ?_; rotate_left; · (intro w hSw; (try dsimp only at hSw); first | (go_simp; done) | (go_simp; with_reducible rfl))
  try simp only [Act.put, List.setIfInBounds_toArray, List.set_cons_zero, List.set_cons_succ]
  refine takeD (i := 13) (v := ?_) (some 18) rfl rfl (by kernel_rfl) (by kernel_rfl) (by kernel_rfl) (fun _ _ _ h => h) (Or.inl ⟨by rfl, ?_⟩) (by assumption) ?_; rotate_left; · (intro w hSw; (try dsimp only at hSw); first | (go_simp; done) | (go_simp; with_reducible rfl))
  try simp only [Act.put, List.setIfInBounds_toArray, List.set_cons_zero, List.set_cons_succ]
  refine takeD (i := 14) (v := ?_) (some 19) rfl rfl (by kernel_rfl) (by kernel_rfl) (by kernel_rfl) (fun _ _ _ h => h) (Or.inl ⟨by rfl, ?_⟩) (by assumption) ?_; rotate_left; · (intro w hSw; (try dsimp only at hSw); first | (go_simp; done) | (go_simp; with_reducible rfl))
  try simp only [Act.put, List.setIfInBounds_toArray, List.set_cons_zero, List.set_cons_succ]
  refine wpAnyH_ready (rs := [15]) (by kernel_rfl) (by simp) ?_
  refine AllReadyH.cons rfl (fun K hK => ?_) AllReadyH.nil
  go_simp
  have J6 := hid (J5.out.set 0 (.slice M 1 mc))
  have O6 := hid (own_grown O5.out J5.out (by decide) (setGrown w5 ⟨nb, 0, none⟩ (.slice M 1 mc)))
  have C6 := hid (show Chs (· = nb) W w5 from Chs.of_below B5.out)
  have C7 := hid (C6.out.trans (Chs.setCell (S := (· = nb)) (a := ⟨nb, 0, none⟩) rfl (.slice M 1 mc)))
  have HK2 : Hid ((w5.setCell ⟨nb, 0, none⟩ (.slice M 1 mc)).cell? ⟨w.heap.size, 0, none⟩ = some (.slice (some ⟨b, o, none⟩) 1 c) ∧ (w5.setCell ⟨nb, 0, none⟩ (.slice M 1 mc)).cell? ⟨b, o, none⟩ = some (.string s)) := hid (And.intro (cell_far _ NW.out HK.out.1) (cell_far _ NB.out HK.out.2))
  clear m0 f0 HK
  refine hK.out _ _ ?_ (fun hHeld => ?_); · ((try dsimp only); (first | exact ⟨k0, ca1⟩ | exact HK.out | exact HK2.out))
  clear hK K
  try simp only [Act.put, List.setIfInBounds_toArray, List.set_cons_zero, List.set_cons_succ]
  refine takeD (i := 16) (v := ?_) (some 4) rfl rfl (by kernel_rfl) (by kernel_rfl) (by kernel_rfl) (fun _ _ _ h => h) (Or.inl ⟨by rfl, ?_⟩) (by assumption) ?_; rotate_left; · (intro w hSw; (try dsimp only at hSw); first | (go_simp; done) | (go_simp; with_reducible rfl))
  try simp only [Act.put, List.setIfInBounds_toArray, List.set_cons_zero, List.set_cons_succ]
  refine wpAnyH_done (by kernel_rfl) ?_ _
  go_wp2_with fail
  go_meet
  case rel => exact ⟨rfl, M, mc, J6, O6, C7⟩
 case rest =>
  obtain ⟨rfl, M, mc, HJ, HO, HC⟩ := hcut
  have d1 := HJ.out.cell 1
  simp only [stC, List.getElem?_toArray, List.getElem?_cons_zero, List.getElem?_cons_succ] at d1
  go_wp2_with (at_builtin; refine push1P TI27 wc #[.int .i64 0] wc.heap.size 0 (.slice none 0 0) [] (World.ownsRow_nil _ _ _ _) _ _ wc.heap.size rfl rfl rfl rfl rfl rfl (by simp [Value.oneCell']) (by omega) (by omega) (Nat.le_refl _) ?_; intro v1 w8 hown1 hgr; obtain ⟨U, uc, rfl⟩ := own_form hown1; have HJ8 := hid ((HJ.out.alloc (.cells #[.int .i64 0] 3)).grown hgr (by simp [Value.ownBlock])); have HL8 := hid (((Below.refl wc.heap.size wc).alloc (Nat.le_refl _) (.cells #[.int .i64 0] 3)).grown hgr (by simp) (fun k hk => by simp [Value.ownBlock] at hk)); have HU8 := hid hown1; have e1 := HJ8.out.cell 1; have g1 := HJ8.out.free 1; simp only [stC, List.getElem?_toArray, List.getElem?_cons_zero, List.getElem?_cons_succ] at e1; clear hown1 hgr d1)
  go_ret
  have hJ := HJ8.out.set 1 (.slice U 1 uc)
  have hM := own_grown (own_below HO.out HL8.out) HJ8.out (by decide) (setGrown w8 ⟨nb, 1, none⟩ (.slice U 1 uc))
  have hU := own_grown HU8.out HJ8.out (by decide) (setGrown w8 ⟨nb, 1, none⟩ (.slice U 1 uc))
  have hC := ((Chs.of_below (S := (· = nb)) BW.out).trans HC.out).trans ((Chs.of_below (S := (· = nb)) HL8.out).trans (Chs.setCell (S := (· = nb)) (a := ⟨nb, 1, none⟩) rfl (.slice U 1 uc)))
  exact ⟨rfl, M, mc, U, uc, hJ, own_more hM BW.out.size, own_more hU (Nat.le_trans BW.out.size HC.out.size), hC⟩
end Go.Proofs.YtciadmjdadnolaaGreatDoor
/- Walk of do at the first state and the line 'medal gold'. Condition: the library's MaxLen stands in its variable. -/
namespace Go.Proofs.YtciadmjdadnolaaGreatDoor
open Go.RowKit Go.Maps
abbrev sMG : ByteArray := ⟨#[109, 101, 100, 97, 108, 32, 103, 111, 108, 100]⟩
abbrev sMedal : ByteArray := ⟨#[109, 101, 100, 97, 108]⟩
abbrev sGold : ByteArray := ⟨#[103, 111, 108, 100]⟩
abbrev sRoll : ByteArray := ⟨#[114, 111, 108, 108]⟩
theorem parts_MG : Parts sMG [sMedal, sGold] := parts_of (by decide) (by kernel_rfl) (by kernel_rfl)
theorem parts_R : Parts sRoll [sRoll] := parts_of (by decide) (by kernel_rfl) (by kernel_rfl)
theorem word_MG : Word sMG sMedal := word_of (by decide) (by kernel_rfl)
theorem word_R : Word sRoll sRoll := word_of (by decide) (by kernel_rfl)
theorem nm_gold : IsNm sGold := ⟨fun i h => by
 have h : i < 4 := h
 rcases (show i = 0 ∨ i = 1 ∨ i = 2 ∨ i = 3 by omega) with rfl | rfl | rfl | rfl <;> rfl, by decide, by decide⟩
theorem no_empty {l : List ByteArray} (h : (l.all fun x => decide (0 < x.size)) = true) : ByteArray.empty ∉ l := fun hm => by
 have := List.all_eq_true.1 h _ hm
 simp at this
theorem no_odd {s : ByteArray} (h : (s.data.toList.all fun b => !odd8 b) = true) : ∀ b ∈ s.data.toList, odd8 b = false := fun b hb => by
 have := List.all_eq_true.1 h b hb
 simpa using this
theorem line_MG (w : World) (hm : MaxL w) : Calls Tryz.prog 43 #[.string sMG] w fun e w' => e = .returned (.bool true) ∧ Below w.heap.size w w' := lineF sMG [sMedal, sGold] parts_MG (no_empty (by kernel_rfl)) (no_odd (by kernel_rfl)) (by decide) (by decide) w hm
theorem line_R (w : World) (hm : MaxL w) : Calls Tryz.prog 43 #[.string sRoll] w fun e w' => e = .returned (.bool true) ∧ Below w.heap.size w w' := lineF sRoll [sRoll] parts_R (no_empty (by kernel_rfl)) (no_odd (by kernel_rfl)) (by decide) (by decide) w hm
theorem read_MG (f1 f2 : Value) : ReadSays (.int .i64 1) (.int .i64 0) f1 f2 sMG 1 [.string sGold] := fun w hm => readNames 1 f1 f2 sMG sMedal [sGold] parts_MG rfl (fun x hx => by simp at hx; subst hx; exact nm_gold) (by decide) (by decide) w hm
theorem read_R (f1 f2 : Value) : ReadSays (.int .i64 0) (.int .i64 0) f1 f2 sRoll 0 [] := fun w hm => (readBare f1 f2 sRoll sRoll parts_R w hm).mono fun _ _ ⟨h1, h2⟩ => ⟨none, 0, h1, World.ownsRow_nil _ _ _ _, h2⟩
theorem key_str (s : ByteArray) (h : s.size ≤ 1000) : ∃ kl, keyOf Tryz.prog 9 (.string s) = some kl := ⟨_, Go.WideMaps.keyOf_string_mk Tryz.underlying9 (by unfold maxLen; omega)⟩
/-- A state of one medal, gold. -/
structure StG (W : World) (nb B : Nat) (M : Option Addr) (mc : Nat) (U : Option Addr) (uc : Nat) : Prop where
 blk : Blk W nb 102 (stC (.slice M 1 mc) (.slice U 1 uc))
 med : W.ownsRow B 9 1 (.slice M 1 mc) 1 [.string sGold]
 abv : W.ownsRow B 3 1 (.slice U 1 uc) 1 [.int .i64 0]
 low : B ≤ nb
theorem StG.keep {W W' : World} {nb B : Nat} {M : Option Addr} {mc : Nat} {U : Option Addr} {uc : Nat} (h : StG W nb B M mc U uc) (hb : Below W.heap.size W W') : StG W' nb B M mc U uc := ⟨h.blk.keep hb, own_below h.med hb, own_below h.abv hb, h.low⟩
set_option maxRecDepth 100000 in
set_option maxHeartbeats 4000000 in
theorem doMG (sb : Nat) (w : World) (hm : MaxL w) (h : Blk w sb 102 begC) :
 Calls Tryz.prog 21 #[.pointer (some ⟨sb, 0, none⟩), .string sMG] w fun e w' => ∃ nb M mc U uc, e = .returned (.tuple #[.pointer (some ⟨nb, 0, none⟩), .int .i64 0]) ∧ StG w' nb w.heap.size M mc U uc ∧ Below w.heap.size w w' := by
 have HC := hid (changesF w)
 have HM := hid hm
 have HS := hid h
 have he : ∀ args W, (callFunc 44 args).run Tryz.prog W = .ok (.enter 44 args) W := fun args W => enters Tryz.func44 (by kernel_rfl) rfl args W
 clear hm h
 go_enter Tryz.func21, Tryz.ntmps21
 go_wp2_with fail
 refine (HC.out).mono ?_; rintro e w1 ⟨bm, rfl, hmap, hb, b1⟩
 have HB1 := hid b1
 have HF := hid (findDo bm (asS changesL) sMG sMedal 1 0 44 1 [.string sGold] w1 (HM.out.keep b1) hmap word_MG (by kernel_rfl) (key_str _ (by decide)) (read_MG _ _) line_MG)
 clear hmap hb b1 HC
 go_wp2_with fail
 refine (HF.out).mono ?_; rintro e w2 ⟨A, c, rfl, ho, b2⟩
 have HO := hid ho
 have HB2 := hid (below_call HB1.out b2 HB1.out.size)
 clear ho b2 HF
 go_wp2_with fail
 have HR0 := hid ((Blk.new w2 88 #[.int .i64 1, .int .i64 0, .func (.func 44) #[] #[], .nilFunc]).alloc (.cells #[.slice A 1 c, .slice none 0 0] 91))
 have HL0 := hid (Blk.new_at (w2.alloc (.cells #[.int .i64 1, .int .i64 0, .func (.func 44) #[] #[], .nilFunc] 88)) 91 #[.slice A 1 c, .slice none 0 0] (n := w2.heap.size + 1) (by simp))
 have b3 := (HB2.out.alloc HB2.out.size (.cells #[.int .i64 1, .int .i64 0, .func (.func 44) #[] #[], .nilFunc] 88)).alloc (by have := HB2.out.size; simp; omega) (.cells #[.slice A 1 c, .slice none 0 0] 91)
 have HB3 := hid b3
 have HO3 := hid ((HO.out.alloc (.cells #[.int .i64 1, .int .i64 0, .func (.func 44) #[] #[], .nilFunc] 88)).alloc (.cells #[.slice A 1 c, .slice none 0 0] 91))
 clear HO b3
 generalize hW3 : ((w2.alloc (.cells #[.int .i64 1, .int .i64 0, .func (.func 44) #[] #[], .nilFunc] 88)).alloc (.cells #[.slice A 1 c, .slice none 0 0] 91)) = W3 at *
 clear hW3
 have HCL := hid (cloneBeg sb W3 (HS.out.keep HB3.out))
 refine (HCL.out).mono ?_; rintro e w4 ⟨nb, rfl, hnb, hsz, b4⟩
 have HN4 := hid hnb
 have HSZ := hid hsz
 have HB4 := hid (below_call HB3.out b4 HB3.out.size)
 have HO4 := hid (own_below HO3.out b4)
 have HA := hid (show ∀ b o, A = some ⟨b, o, none⟩ → ¬ b = nb from fun b o e hbn => by
  have := (HO3.out.lt b (by rw [e]; rfl)).2
  omega)
 have r2 := (HR0.out.keep b4).cell 2
 have l0 := (HL0.out.keep b4).cell 0
 have l1 := (HL0.out.keep b4).cell 1
 simp only [List.getElem?_toArray, List.getElem?_cons_zero, List.getElem?_cons_succ] at r2 l0 l1
 have HMD := hid (medalF nb A c sGold w4 hnb (Sl.of_own HO4.out) HA.out)
 clear hnb hsz b4 HCL
 go_wp2_with fail
 refine (HMD.out).mono ?_; rintro e w5 ⟨rfl, M, mc, U, uc, hb5, hm5, hu5, hc5⟩
 have HX := hid (show StG w5 nb w.heap.size M mc U uc from ⟨hb5, own_more hm5 HB4.out.size, own_more hu5 HB4.out.size, Nat.le_trans HB3.out.size HSZ.out⟩)
 have HB5 := hid (hc5.below HB4.out HB4.out.size (fun i e => by rw [e]; exact Nat.le_trans HB3.out.size HSZ.out))
 clear hb5 hm5 hu5 hc5 r2 l0 l1
 go_wp2
 go_ret2
 exact ⟨nb, M, mc, U, uc, rfl, HX.out, HB5.out⟩
end Go.Proofs.YtciadmjdadnolaaGreatDoor
/- Walk of a mint's Do at 'medal gold', on a mint opened on three new copies. Condition: the library's MaxLen stands in its variable. -/
namespace Go.Proofs.YtciadmjdadnolaaGreatDoor
open Go.RowKit Go.Maps
/-- The entries of a copy ahead of the line, and behind it. -/
def ent0 : Ents := fun _ => none
def ent1 : Ents := putE ent0 0 (1, sMG)
/-- What stands while the line is put into d of the copies. -/
structure DoS (w W : World) (m sb nb : Nat) (a r : Value) (L : List (Nat × Nat)) (d : Nat) (M : Option Addr) (mc : Nat) (U : Option Addr) (uc : Nat) : Prop where
 mint : MintB W m a 1 sb (.slice none 0 0) false
 new : StG W nb w.heap.size M mc U uc
 own2 : W.ownsRow w.heap.size 42 1 r 3 (ptrs (L.map (·.1)))
 cp : ∀ i p, L[i]? = some p → CpM W p.1 p.2 1 false (if i < d then ent1 else ent0)
 low : Below w.heap.size w W
 hm : w.heap.size ≤ m
 hL : ∀ p ∈ L, w.heap.size ≤ p.1 ∧ w.heap.size ≤ p.2
 nod1 : (L.map (·.1)).Nodup
 nod2 : (L.map (·.2)).Nodup
section
variable {w W W' : World} {m sb nb d : Nat} {a r : Value} {L : List (Nat × Nat)} {M : Option Addr} {mc : Nat} {U : Option Addr} {uc : Nat}
theorem DoS.below (h : DoS w W m sb nb a r L d M mc U uc) (hb : Below W.heap.size W W') : DoS w W' m sb nb a r L d M mc U uc :=
 ⟨h.mint.keep hb, h.new.keep hb, own_below h.own2 hb, fun i p hp => (h.cp i p hp).keep hb, below_call h.low hb h.low.size, h.hm, h.hL, h.nod1, h.nod2⟩
theorem DoS.drew (h : DoS w W m sb nb a r L d M mc U uc) : DoS w W.drew m sb nb a r L d M mc U uc := h.below (Below.refl _ W).drew
/-- A copy's block or map is no block of other cells. -/
theorem cpm_ne {W : World} {cb mb b : Nat} {mark : Int} {away : Bool} {e : Ents} {t : TypeId} {cs : Array Value} (h : CpM W cb mb mark away e) (k : Blk W b t cs) (hne : t ≠ 73) : ¬ (b = cb ∨ b = mb) := by
 rintro (e' | e')
 · exact blk_neM k h.blk hne e'
 · exact h.map.ne_blk k e'
theorem own_chs {S : Nat → Prop} {W W' : World} {base : Nat} {e : TypeId} {size n : Nat} {v : Value} {xs : List Value} (h : W.ownsRow base e size v n xs) (hc : Chs S W W') (h1 : ∀ g, v.ownBlock = some g → ¬ S g) : W'.ownsRow base e size v n xs := by
 refine ⟨h.1, ?_⟩
 rcases h.2 with hn | ⟨g, cap, cur, hv, hb, hgg, rest⟩
 · exact .inl hn
 · subst hv
   exact .inr ⟨g, cap, cur, rfl, hb, (hc.block g (lt_of_block hgg) (h1 g rfl)).trans hgg, rest⟩
theorem own_cpm {W : World} {cb mb : Nat} {mark : Int} {away : Bool} {en : Ents} {base : Nat} {e : TypeId} {size n : Nat} {v : Value} {xs : List Value} (h : W.ownsRow base e size v n xs) (k : CpM W cb mb mark away en) (hne : 73 ≠ e) : ∀ g, v.ownBlock = some g → ¬ (g = cb ∨ g = mb) := by
 rintro g hg (e' | e')
 · exact own_ne_blk h k.blk hne (by rw [hg, e'])
 · exact own_ne_map h k.map (by rw [hg, e'])
theorem DoS.put {p : Nat × Nat} (h : DoS w W m sb nb a r L d M mc U uc) (hp : L[d]? = some p) (hc : CpM W' p.1 p.2 1 false ent1) (hg : Chs (fun b => b = p.1 ∨ b = p.2) W W') : DoS w W' m sb nb a r L (d + 1) M mc U uc := by
 have k := h.cp d p hp
 have hB := h.hL p (List.mem_of_getElem? hp)
 refine ⟨hg.blk h.mint (cpm_ne k h.mint (by decide)), ⟨hg.blk h.new.blk (cpm_ne k h.new.blk (by decide)), own_chs h.new.med hg (own_cpm h.new.med k (by decide)), own_chs h.new.abv hg (own_cpm h.new.abv k (by decide)), h.new.low⟩, own_chs h.own2 hg (own_cpm h.own2 k (by decide)), fun i q hq => ?_,
  hg.below h.low h.low.size (fun i e => by rcases e with e | e <;> rw [e] <;> first | exact hB.1 | exact hB.2), h.hm, h.hL, h.nod1, h.nod2⟩
 by_cases e : i = d
 · subst e
   rw [hp] at hq
   cases hq
   rw [if_pos (by omega)]
   exact hc
 · have cq := h.cp i q hq
   have h1 : q.1 ≠ p.1 := fun e' => by
    have hi : (L.map (·.1))[i]? = some q.1 := by rw [List.getElem?_map, hq]; rfl
    have hd : (L.map (·.1))[d]? = some q.1 := by rw [List.getElem?_map, hp, e']; rfl
    exact e ((List.getElem?_inj (List.getElem?_eq_some_iff.1 hi).1 h.nod1).1 (by rw [hi, hd]))
   have h2 : q.2 ≠ p.2 := fun e' => by
    have hi : (L.map (·.2))[i]? = some q.2 := by rw [List.getElem?_map, hq]; rfl
    have hd : (L.map (·.2))[d]? = some q.2 := by rw [List.getElem?_map, hp, e']; rfl
    exact e ((List.getElem?_inj (List.getElem?_eq_some_iff.1 hi).1 h.nod2).1 (by rw [hi, hd]))
   have h3 : q.2 ≠ p.1 := fun e' => cq.map.ne_blk k.blk e'.symm
   have h4 : q.1 ≠ p.2 := fun e' => k.map.ne_blk cq.blk e'
   have := hg.cpm cq (fun e => by rcases e with e | e <;> first | exact h1 e | exact h4 e) (fun e => by rcases e with e | e <;> first | exact h3 e | exact h2 e)
   by_cases hid : i < d
   · rw [if_pos hid] at this
     rw [if_pos (by omega)]; exact this
   · rw [if_neg hid] at this
     rw [if_neg (by omega)]; exact this
end
theorem putMG {W : World} {cb mb : Nat} (h : CpM W cb mb 1 false ent0) :
 Calls Tryz.prog 24 #[.pointer (some ⟨cb, 0, none⟩), .int .i64 0, .int .i64 1, .string sMG] W fun x w' => x = .returned (.int .i64 0) ∧ CpM w' cb mb 1 false ent1 ∧ Chs (fun b => b = cb ∨ b = mb) W w' := by
 refine (putF 0 1 sMG cb mb 1 false ent0 W h).mono fun e w' ⟨h1, h2, h3⟩ => ?_
 have h0 : putR false 1 0 1 sMG = 0 := by decide
 rw [h0] at h1 h2
 rcases h2 with ⟨h2, _⟩ | ⟨_, h2⟩
 · exact absurd rfl h2
 · exact ⟨h1, h2, h3⟩
set_option maxRecDepth 100000 in
set_option maxHeartbeats 4000000 in
theorem mintDo (w W0 : World) (m sb : Nat) (A : Option Addr) (c : Nat) (L : List (Nat × Nat)) (hml : MaxL w) (hlow : Below w.heap.size w W0) (hm : w.heap.size ≤ m) (hmint : MintB W0 m (.slice A 3 c) 1 sb (.slice none 0 0) false) (hst : Blk W0 sb 102 begC)
 (hown : W0.ownsRow w.heap.size 42 1 (.slice A 3 c) 3 (ptrs (L.map (·.1)))) (hcp : ∀ (i : Nat) (p : Nat × Nat), L[i]? = some p → CpM W0 p.1 p.2 1 false ent0) (hL : ∀ p ∈ L, w.heap.size ≤ p.1 ∧ w.heap.size ≤ p.2) (nod1 : (L.map (·.1)).Nodup) (nod2 : (L.map (·.2)).Nodup) :
 Calls Tryz.prog 8 #[.pointer (some ⟨m, 0, none⟩), .string sMG] W0 fun e w' => ∃ nb M mc U uc D dc, e = .returned (.tuple #[.string sMedal, .int .i64 0]) ∧ MintB w' m (.slice A 3 c) 1 nb (.slice D 1 dc) false ∧ StG w' nb w.heap.size M mc U uc ∧ Below w.heap.size w w' := by
 have hlen : L.length = 3 := by have := hown.1; simpa [ptrs] using this
 have HLEN := hid hlen
 have HN := hid (mintNone m _ _ sb _ _ W0 hmint)
 have HDO := hid (doMG sb W0 (hml.keep hlow) hst)
 have c2 := hmint.cell 2
 have c4 := hmint.cell 4
 simp only [List.getElem?_toArray, List.getElem?_cons_zero, List.getElem?_cons_succ] at c2 c4
 have HMI := hid hmint
 have HOWN := hid hown
 have HCP := hid hcp
 have HLW := hid hlow
 have HML := hid hml
 have HM := hid hm
 have HL := hid hL
 have N1 := hid nod1
 have N2 := hid nod2
 clear hml hlow hm hmint hst hown hcp hL nod1 nod2 hlen
 go_enter Tryz.func8, Tryz.ntmps8
 go_wp2_with fail
 refine (HN.out).mono ?_; rintro e w' ⟨rfl, rfl⟩
 go_wp2_with fail
 refine (HDO.out).mono ?_; rintro e w1 ⟨nb, M, mc, U, uc, rfl, hst1, b1⟩
 have HS1 := hid (show StG w1 nb w.heap.size M mc U uc from ⟨hst1.blk, own_more hst1.med HLW.out.size, own_more hst1.abv HLW.out.size, Nat.le_trans HLW.out.size hst1.low⟩)
 have HMI1 := hid (HMI.out.keep b1)
 have HOWN1 := hid (own_below HOWN.out b1)
 have HCP1 := hid fun (i : Nat) (p : Nat × Nat) (hp : L[i]? = some p) => (HCP.out i p hp).keep b1
 have HB1 := hid (below_call HLW.out b1 HLW.out.size)
 have d0 := HMI1.out.cell 0
 simp only [List.getElem?_toArray, List.getElem?_cons_zero] at d0
 have HIR := hid (inReachF A 3 c (L.map fun p => (p.1, false)) w1 (by omega) (by rw [List.map_map]; exact Sl.of_own HOWN1.out) (fun q hq => by
  obtain ⟨p, hp, rfl⟩ := List.mem_map.1 hq
  obtain ⟨i, hi⟩ := List.getElem?_of_mem hp
  have h := (HCP1.out i p hi).blk.cell 2
  simpa using h))
 rw [onL_all] at HIR
 have hll : (L.map (·.1)).length = 3 := by rw [List.length_map]; exact HLEN.out
 rw [hll] at HIR
 clear hst1 b1 c2 c4 HN HDO HMI HOWN HCP hll
 go_wp2_with fail
 refine (HIR.out).mono ?_; rintro e w2 ⟨A2, c2, rfl, ho2, b2⟩
 have J2 := hid (show DoS w w2 m sb nb (.slice A 3 c) (.slice A2 3 c2) L 0 M mc U uc from
  ⟨HMI1.out.keep b2, HS1.out.keep b2, own_more ho2 HB1.out.size, fun i p hp => by rw [if_neg (by omega)]; exact (HCP1.out i p hp).keep b2, below_call HB1.out b2 HB1.out.size, HM.out, HL.out, N1.out, N2.out⟩)
 have e0 := J2.out.mint.cell 0
 have e1 := J2.out.mint.cell 1
 have e3 := J2.out.mint.cell 3
 simp only [List.getElem?_toArray, List.getElem?_cons_zero, List.getElem?_cons_succ] at e0 e1 e3
 clear ho2 b2 d0 HIR HMI1 HOWN1 HCP1 HS1 HB1
 go_wp2_with fail
 refine (mostF A 3 c 3 w2 (by omega) (by omega)).mono ?_; rintro x w' ⟨rfl, rfl⟩
 go_wp2
 clear e0 e1 e3
 go_loopg [9, 59] 3 (fun gk v i wr => ∃ d : Nat, gk + d = 3 ∧ i = .int .i64 d ∧ v = .int .i64 d ∧ Hid (DoS w wr m sb nb (.slice A 3 c) (.slice A2 3 c2) L d M mc U uc))
 case atStart => exact ⟨0, rfl, rfl, rfl, J2⟩
 case round =>
  clear J2
  obtain ⟨d, hd, rfl, rfl, HJ⟩ := hrel
  have HD := hid hd
  by_cases hlt : d < 3
  · have HLT := hid hlt
    obtain ⟨b2, o2, u2, hA2, lb2, e2, ca2⟩ := (Sl.of_own HJ.out.own2).at hlt
    subst hA2
    obtain ⟨y2, hy2, rfl⟩ := Option.map_eq_some_iff.1 (show ((L.map (·.1))[d]?).map (fun b => Value.pointer (some ⟨b, 0, none⟩)) = some u2 by rw [← List.getElem?_map]; exact e2)
    rw [List.getElem?_map] at hy2
    obtain ⟨p, hp, rfl⟩ := Option.map_eq_some_iff.1 hy2
    have HP := hid hp
    have hcp := HJ.out.drew.cp d p hp
    rw [if_neg (by omega)] at hcp
    have HPU := hid (putMG hcp)
    have z1 := HJ.out.mint.cell 1
    have z3 := HJ.out.mint.cell 3
    simp only [List.getElem?_toArray, List.getElem?_cons_zero, List.getElem?_cons_succ] at z1 z3
    have hcap := (Sl.of_own HJ.out.own2).cap
    clear hd e2 hy2 lb2 hp hcp
    go_wp2_with fail
    go_region_held3 (fun w' => w'.cell? ⟨m, 1, none⟩ = some (.int .i64 1) ∧ w'.cell? ⟨m, 3, none⟩ = some (.slice none 0 0)) (first | assumption | (exact ⟨z1, z3⟩) | (exact HK.out)) (first
     | (go_at_call 24; refine (HPU.out).mono ?_; rintro e w5 ⟨rfl, hc5, hg5⟩; have J5 := hid (HJ.out.drew.put HP.out hc5 hg5); have HK := hid (And.intro (J5.out.mint.cell 1) (J5.out.mint.cell 3)); simp only [List.getElem?_toArray, List.getElem?_cons_zero, List.getElem?_cons_succ] at HK; clear hc5 hg5))
    all_goals go_wp2
    all_goals go_roundg (gk - 1)
    case measure => have := HD.out; have := HLT.out; omega
    case rel => exact ⟨d + 1, by have := HD.out; have := HLT.out; omega, by go_num, by go_num, J5⟩
  · obtain rfl : d = 3 := by have := HD.out; omega
    clear hd hlt
    have z0 := HJ.out.mint.cell 0
    have z2 := HJ.out.mint.cell 2
    have z3 := HJ.out.mint.cell 3
    have g2 := HJ.out.mint.free 2
    simp only [List.getElem?_toArray, List.getElem?_cons_zero, List.getElem?_cons_succ] at z0 z2 z3
    go_wp2_with fail
    refine (mostF A 3 c 3 wr (by omega) (by omega)).mono ?_; rintro x w' ⟨rfl, rfl⟩
    have M6 := hid (show MintB (wr.setCell ⟨m, 2, none⟩ (.pointer (some ⟨nb, 0, none⟩))) m (.slice A 3 c) 1 nb (.slice none 0 0) false from HJ.out.mint.set 2 _)
    have S6 := hid (show StG (wr.setCell ⟨m, 2, none⟩ (.pointer (some ⟨nb, 0, none⟩))) nb w.heap.size M mc U uc from
     ⟨HJ.out.new.blk.far (p := ⟨m, 2, none⟩) (blk_neM HJ.out.new.blk HJ.out.mint (by decide)) _, own_grown HJ.out.new.med HJ.out.mint (by decide) (setGrown wr ⟨m, 2, none⟩ _), own_grown HJ.out.new.abv HJ.out.mint (by decide) (setGrown wr ⟨m, 2, none⟩ _), HJ.out.new.low⟩)
    have L6 := hid (HJ.out.low.setCell (p := ⟨m, 2, none⟩) HJ.out.hm (.pointer (some ⟨nb, 0, none⟩)))
    have hs6 : (wr.setCell ⟨m, 2, none⟩ (.pointer (some ⟨nb, 0, none⟩))).heap.size = wr.heap.size := by simp
    have HS6 := hid hs6
    clear hs6
    go_wp2_with (at_builtin; refine push1P TS22 (wr.setCell ⟨m, 2, none⟩ (.pointer (some ⟨nb, 0, none⟩))) #[.string sMG] wr.heap.size 0 (.slice none 0 0) [] (World.ownsRow_nil _ _ _ _) _ _ wr.heap.size HS6.out rfl rfl rfl rfl rfl (by simp [Value.oneCell']) (by omega) (by omega) (by rw [HS6.out]; exact Nat.le_refl _) ?_; intro v1 w8 hown1 hgr; obtain ⟨D, dc, rfl⟩ := own_form hown1; have b8 := ((Below.refl (wr.setCell ⟨m, 2, none⟩ (.pointer (some ⟨nb, 0, none⟩))).heap.size (wr.setCell ⟨m, 2, none⟩ (.pointer (some ⟨nb, 0, none⟩)))).alloc (Nat.le_refl _) (.cells #[.string sMG] 9)).grown hgr (by simp) (fun k hk => by simp [Value.ownBlock] at hk); have M8 := hid (M6.out.keep b8); have S8 := hid (S6.out.keep b8); have L8 := hid (below_call L6.out b8 L6.out.size); have q3 := M8.out.cell 3; have g3 := M8.out.free 3; simp only [List.getElem?_toArray, List.getElem?_cons_zero, List.getElem?_cons_succ] at q3; have M9 := hid (show MintB (w8.setCell ⟨m, 3, none⟩ (.slice D 1 dc)) m (.slice A 3 c) 1 nb (.slice D 1 dc) false from M8.out.set 3 _); have S9 := hid (show StG (w8.setCell ⟨m, 3, none⟩ (.slice D 1 dc)) nb w.heap.size M mc U uc from ⟨S8.out.blk.far (p := ⟨m, 3, none⟩) (blk_neM S8.out.blk M8.out (by decide)) _, own_grown S8.out.med M8.out (by decide) (setGrown w8 ⟨m, 3, none⟩ _), own_grown S8.out.abv M8.out (by decide) (setGrown w8 ⟨m, 3, none⟩ _), S8.out.low⟩); have L9 := hid (L8.out.setCell (p := ⟨m, 3, none⟩) HM.out (.slice D 1 dc)); have HWD := hid (word_MG _ (HML.out.keep L9.out)); clear hown1 hgr b8)
    refine (HWD.out).mono ?_; rintro e w' ⟨rest, ok, kk, rfl, rfl⟩
    have M10 := hid (M9.out.drewN kk)
    have S10 := hid (S9.out.keep (below_drewN (Below.refl _ _) kk))
    have L10 := hid (below_drewN L9.out kk)
    clear HWD
    go_wp2
    go_ret2
    exact ⟨nb, M, mc, U, uc, D, dc, rfl, M10.out, S10.out, L10.out⟩
end Go.Proofs.YtciadmjdadnolaaGreatDoor
