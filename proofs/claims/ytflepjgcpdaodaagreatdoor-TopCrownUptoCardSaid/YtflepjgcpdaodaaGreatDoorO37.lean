/- Texts of this proof, one behind the other; each says its condition at its head. -/
import Derived.Test.YtflepjgcpdaodaaGreatDoorO36
import Derived.Test.YtflepjgcpdaodaaGreatDoorO31
import Derived.Test.YtflepjgcpdaodaaGreatDoorO27
import Derived.Test.YtflepjgcpdaodaaGreatDoorO30
/- Walks of order's lines and Lines, and of roll, at one element. Condition: the library's table of 64 numbers stands in its variable. -/
namespace Go.Proofs.YtflepjgcpdaodaaGreatDoor
open Go.RowKit Go.Shelf
set_option maxRecDepth 100000 in
set_option maxHeartbeats 4000000 in
theorem linesOne (w : World) (hT : Tab w) :
 Calls Tryz.prog 129 #[.agg ord1] w fun e w' => ∃ O oc R rc, e = .returned (.slice O 1 oc) ∧ w'.ownsRow w.heap.size 27 1 (.slice O 1 oc) 1 [.slice R 1 rc] ∧ w'.ownsRow w.heap.size 3 1 (.slice R 1 rc) 1 [.int .i64 0] ∧ Below w.heap.size w w' := by
 have he : ∀ args W, (callFunc 172 args).run Tryz.prog W = .ok (.enter 172 args) W := fun args W => enters Tryz.func172 (by kernel_rfl) rfl args W
 have HT := hid hT
 clear hT
 unfold ord1
 go_enter Tryz.func129, Tryz.ntmps129
 go_wp2_with fail
 have HLN := hid (show LnS ((((w.alloc (.cells #[.int .i64 1, .int .i64 0, .int .i64 0, .int .i64 0, .int .i64 0, .int .i64 0, .int .i64 0] 179)).alloc (.cells #[.slice none 0 0] 136)).alloc (.cells #[.slice none 0 0] 27)).alloc (.cells #[.func (.func 172) #[] #[.pointer (some ⟨w.heap.size + 1, 0, none⟩), .pointer (some ⟨w.heap.size + 1 + 1, 0, none⟩), .pointer (some ⟨w.heap.size, 0, none⟩), .pointer (some ⟨w.heap.size + 1 + 1 + 1, 0, none⟩)]] 250)) w.heap.size (w.heap.size + 1) (w.heap.size + 1 + 1) (w.heap.size + 1 + 1 + 1) (.slice none 0 0) (.slice none 0 0) from
  ⟨(((Blk.new w _ _).alloc _).alloc _).alloc _, ((Blk.new_at _ _ _ (by simp)).alloc _).alloc _, (Blk.new_at _ _ _ (by simp)).alloc _, Blk.new_at _ _ _ (by simp)⟩)
 have HLO := hid (show Below w.heap.size w ((((w.alloc (.cells #[.int .i64 1, .int .i64 0, .int .i64 0, .int .i64 0, .int .i64 0, .int .i64 0, .int .i64 0] 179)).alloc (.cells #[.slice none 0 0] 136)).alloc (.cells #[.slice none 0 0] 27)).alloc (.cells #[.func (.func 172) #[] #[.pointer (some ⟨w.heap.size + 1, 0, none⟩), .pointer (some ⟨w.heap.size + 1 + 1, 0, none⟩), .pointer (some ⟨w.heap.size, 0, none⟩), .pointer (some ⟨w.heap.size + 1 + 1 + 1, 0, none⟩)]] 250)) from ((((Below.refl _ w).alloc (Nat.le_refl _) _).alloc (by simp) _).alloc (by simp; omega) _).alloc (by simp; omega) _)
 generalize ((((w.alloc (.cells #[.int .i64 1, .int .i64 0, .int .i64 0, .int .i64 0, .int .i64 0, .int .i64 0, .int .i64 0] 179)).alloc (.cells #[.slice none 0 0] 136)).alloc (.cells #[.slice none 0 0] 27)).alloc (.cells #[.func (.func 172) #[] #[.pointer (some ⟨w.heap.size + 1, 0, none⟩), .pointer (some ⟨w.heap.size + 1 + 1, 0, none⟩), .pointer (some ⟨w.heap.size, 0, none⟩), .pointer (some ⟨w.heap.size + 1 + 1 + 1, 0, none⟩)]] 250)) = W at *
 have HP := hid HT.out.pos
 have HTW := hid (HT.out.below HLO.out)
 have z := HLN.out.grow.cell 0
 have o0 := HLN.out.ord.cell 0
 have o1 := HLN.out.ord.cell 1
 have o2 := HLN.out.ord.cell 2
 have o3 := HLN.out.ord.cell 3
 have o4 := HLN.out.ord.cell 4
 have o5 := HLN.out.ord.cell 5
 have o6 := HLN.out.ord.cell 6
 simp only [ord1, List.getElem?_toArray, List.getElem?_cons_zero, List.getElem?_cons_succ] at z o0 o1 o2 o3 o4 o5 o6
 have HAL := hid (allOne W.drew)
 unfold ord1 at HAL
 go_region_held3 (fun w' => w'.cell? ⟨w.heap.size + 1 + 1 + 1, 0, none⟩ = some (.func (.func 172) #[] #[.pointer (some ⟨w.heap.size + 1, 0, none⟩), .pointer (some ⟨w.heap.size + 1 + 1, 0, none⟩), .pointer (some ⟨w.heap.size, 0, none⟩), .pointer (some ⟨w.heap.size + 1 + 1 + 1, 0, none⟩)]) ∧ w'.cell? ⟨w.heap.size, 0, none⟩ = some (.int .i64 1) ∧ w'.cell? ⟨w.heap.size, 1, none⟩ = some (.int .i64 0) ∧ w'.cell? ⟨w.heap.size, 2, none⟩ = some (.int .i64 0) ∧ w'.cell? ⟨w.heap.size, 3, none⟩ = some (.int .i64 0) ∧ w'.cell? ⟨w.heap.size, 4, none⟩ = some (.int .i64 0) ∧ w'.cell? ⟨w.heap.size, 5, none⟩ = some (.int .i64 0) ∧ w'.cell? ⟨w.heap.size, 6, none⟩ = some (.int .i64 0)) (first | exact ⟨z, o0, o1, o2, o3, o4, o5, o6⟩ | exact HK.out | exact HK2.out) (first
  | (go_at_call 174; refine (HAL.out).mono ?_; rintro e w5 ⟨rfl, b5⟩; have B5 := hid b5; have HK : Hid (w5.cell? ⟨w.heap.size + 1 + 1 + 1, 0, none⟩ = some (.func (.func 172) #[] #[.pointer (some ⟨w.heap.size + 1, 0, none⟩), .pointer (some ⟨w.heap.size + 1 + 1, 0, none⟩), .pointer (some ⟨w.heap.size, 0, none⟩), .pointer (some ⟨w.heap.size + 1 + 1 + 1, 0, none⟩)]) ∧ w5.cell? ⟨w.heap.size, 0, none⟩ = some (.int .i64 1) ∧ w5.cell? ⟨w.heap.size, 1, none⟩ = some (.int .i64 0) ∧ w5.cell? ⟨w.heap.size, 2, none⟩ = some (.int .i64 0) ∧ w5.cell? ⟨w.heap.size, 3, none⟩ = some (.int .i64 0) ∧ w5.cell? ⟨w.heap.size, 4, none⟩ = some (.int .i64 0) ∧ w5.cell? ⟨w.heap.size, 5, none⟩ = some (.int .i64 0) ∧ w5.cell? ⟨w.heap.size, 6, none⟩ = some (.int .i64 0)) := hid (And.intro (cell_keep b5 z) (And.intro (cell_keep b5 o0) (And.intro (cell_keep b5 o1) (And.intro (cell_keep b5 o2) (And.intro (cell_keep b5 o3) (And.intro (cell_keep b5 o4) (And.intro (cell_keep b5 o5) (cell_keep b5 o6)))))))); clear b5)
  | (go_at_call 172; refine (growOne w.heap.size (w.heap.size + 1) (w.heap.size + 1 + 1) (w.heap.size + 1 + 1 + 1) w5 (HLN.out.keep ((Below.refl _ W).drew.trans B5.out)) (HTW.out.below ((Below.refl _ W).drew.trans B5.out)) (by have := HP.out; omega)).mono ?_; rintro e w6 ⟨rfl, hO, hC⟩; have HO := hid hO; have HC := hid hC; have KO := hid (hC.blk (HLN.out.keep ((Below.refl _ W).drew.trans B5.out)).ord (by omega)); have KG := hid (hC.blk (HLN.out.keep ((Below.refl _ W).drew.trans B5.out)).grow (by omega)); have HK2 : Hid (w6.cell? ⟨w.heap.size + 1 + 1 + 1, 0, none⟩ = some (.func (.func 172) #[] #[.pointer (some ⟨w.heap.size + 1, 0, none⟩), .pointer (some ⟨w.heap.size + 1 + 1, 0, none⟩), .pointer (some ⟨w.heap.size, 0, none⟩), .pointer (some ⟨w.heap.size + 1 + 1 + 1, 0, none⟩)]) ∧ w6.cell? ⟨w.heap.size, 0, none⟩ = some (.int .i64 1) ∧ w6.cell? ⟨w.heap.size, 1, none⟩ = some (.int .i64 0) ∧ w6.cell? ⟨w.heap.size, 2, none⟩ = some (.int .i64 0) ∧ w6.cell? ⟨w.heap.size, 3, none⟩ = some (.int .i64 0) ∧ w6.cell? ⟨w.heap.size, 4, none⟩ = some (.int .i64 0) ∧ w6.cell? ⟨w.heap.size, 5, none⟩ = some (.int .i64 0) ∧ w6.cell? ⟨w.heap.size, 6, none⟩ = some (.int .i64 0)) := hid ⟨KG.out.cell 0, KO.out.cell 0, KO.out.cell 1, KO.out.cell 2, KO.out.cell 3, KO.out.cell 4, KO.out.cell 5, KO.out.cell 6⟩; clear hO hC))
 obtain ⟨O, oc, R, rc, h1, h2, h3⟩ := HO.out
 have x0 := h1.cell 0
 simp only [List.getElem?_toArray, List.getElem?_cons_zero] at x0
 have hlow := HC.out.below (HLO.out.drew.trans (B5.out.mono HLO.out.size)) (Nat.le_trans HLO.out.size B5.out.size) (fun i e => by omega)
 have HLW := hid hlow
 have H2 := hid h2
 have H3 := hid h3
 have H5S := hid (show w.heap.size ≤ w5.heap.size from Nat.le_trans HLO.out.size B5.out.size)
 clear hlow h1 h2 h3
 go_wp2
 go_ret
 exact ⟨O, oc, R, rc, rfl, own_more H2.out H5S.out, own_more H3.out H5S.out, HLW.out⟩
end Go.Proofs.YtflepjgcpdaodaaGreatDoor
/- Walks of the question roll at one medal, and of awake. Condition: the library's variables stand. -/
namespace Go.Proofs.YtflepjgcpdaodaaGreatDoor
open Go.RowKit Go.Maps
def sMGold : ByteArray := ⟨#[109, 101, 100, 97, 108, 32, 103, 111, 108, 100]⟩
def sRoll2 : ByteArray := ⟨#[114, 111, 108, 108]⟩
abbrev sGd : ByteArray := ⟨#[103, 111, 108, 100]⟩
/-- The books behind one medal. -/
def sG : Bk := ⟨[sGd], [0], [], [], 0, 0, 0, 1, []⟩
set_option maxRecDepth 100000 in
set_option maxHeartbeats 4000000 in
theorem linesG (A : Option Addr) (c : Nat) (w : World) (hs : Sl w A 1 c [.int .i64 0]) (hT : Tab w) :
 Calls Tryz.prog 100 #[.slice A 1 c] w fun e w' => ∃ O oc R rc, e = .returned (.tuple #[.slice O 1 oc, .int .i64 0]) ∧ w'.ownsRow w.heap.size 27 1 (.slice O 1 oc) 1 [.slice R 1 rc] ∧ w'.ownsRow w.heap.size 3 1 (.slice R 1 rc) 1 [.int .i64 0] ∧ Below w.heap.size w w' := by
 have HR := hid (ordRead 1 (fun _ _ => false) A c w (by omega) (by omega) ⟨fun _ _ => rfl, fun _ _ _ _ _ _ h _ => h⟩ hs hT)
 rw [show ordC 1 (fun _ _ => false) = ord1 from rfl] at HR
 have HT := hid hT
 clear hs hT
 unfold ord1 at HR
 go_enter Tryz.func100, Tryz.ntmps100
 go_wp2_with fail
 refine (HR.out).mono ?_; rintro e w1 ⟨rfl, b1⟩
 have HL := hid (linesOne (w1.alloc (.cells #[.int .i64 1, .int .i64 0, .int .i64 0, .int .i64 0, .int .i64 0, .int .i64 0, .int .i64 0] 179)) ((HT.out.below b1).below ((Below.refl _ w1).alloc (Nat.le_refl _) _)))
 have HB := hid (b1.alloc b1.size (.cells #[.int .i64 1, .int .i64 0, .int .i64 0, .int .i64 0, .int .i64 0, .int .i64 0, .int .i64 0] 179))
 unfold ord1 at HL
 clear b1 HR
 go_wp2_with fail
 refine (HL.out).mono ?_; rintro e w2 ⟨O, oc, R, rc, rfl, h2, h3, b2⟩
 have H2 := hid (own_more h2 HB.out.size)
 have H3 := hid (own_more h3 HB.out.size)
 have HB2 := hid (below_call HB.out b2 HB.out.size)
 clear h2 h3 b2 HL
 go_wp2
 go_ret2
 exact ⟨O, oc, R, rc, rfl, H2.out, H3.out, HB2.out⟩
set_option maxRecDepth 100000 in
set_option maxHeartbeats 4000000 in
theorem rollG : AskC 63 sG [] [] (⟨#[114, 111, 108, 108, 32, 103, 111, 108, 100]⟩, 0) := by
 intro w G nb A0 q0 D0 d0 h hA hD hE hT
 obtain ⟨M, mc, U, uc, Q, pc, T, tc, E, ec, g1, g2, g3, _, _, _, _, _, _, _, _, _⟩ := h.ex
 have B1 := (Below.refl w.heap.size w).alloc (Nat.le_refl _) (.cells #[.slice A0 0 q0, .slice D0 0 d0] 84)
 have HB := hid B1
 have HT := hid (hT.below HB.out)
 have HS1 := hid (g1.keep B1)
 have HS2 := hid (g2.below B1)
 have HS3 := hid (g3.below B1)
 clear h hA hD hE hT g1 g2 g3 B1
 go_enter Tryz.func63, Tryz.ntmps63
 have c0 := HS1.out.cell 0
 have c1 := HS1.out.cell 1
 simp only [stV, sG, List.length_cons, List.length_nil, List.getElem?_toArray, List.getElem?_cons_zero, List.getElem?_cons_succ] at c0 c1
 simp only [sG, List.length_cons, List.length_nil] at HS1 HS2 HS3
 go_wp2_with fail
 generalize w.alloc (.cells #[.slice A0 0 q0, .slice D0 0 d0] 84) = W at *
 have HL := hid (linesG U uc W HS3.out HT.out)
 refine (HL.out).mono ?_; rintro e w2 ⟨O, oc, R, rc, rfl, h2, h3, b2⟩
 have HC0 := hid (cell_keep b2 c0)
 have HM2 := hid (HS2.out.below b2)
 have H3 := hid h3
 have H2 := hid h2
 have HB2 := hid (below_call HB.out b2 HB.out.size)
 clear c0 c1 h2 h3 b2 HL HS1 HS2 HS3 HT HB
 go_wp2_with fail
 have c0 := HC0.out
 obtain ⟨bo, oo, u, hO, lb, e1, ca⟩ := (Sl.of_own H2.out).at (k := 0) (by omega)
 subst hO
 simp only [List.getElem?_cons_zero, Option.some.injEq, Nat.add_zero] at e1 ca
 subst e1
 have hnm := namedF ⟨#[114, 111, 108, 108]⟩ M 1 mc [sGd] R 1 rc [0] w2.drew (HM2.out).drew (Sl.of_own H3.out).drew (fun i hi => by simp at hi; omega) (by decide) (fun s hs => by simp at hs; subst hs; decide) (by omega)
 rw [show nmd ⟨#[114, 111, 108, 108]⟩ [sGd] [0] = ⟨#[114, 111, 108, 108, 32, 103, 111, 108, 100]⟩ from by kernel_rfl] at hnm
 have HNM := hid hnm
 have hcap := (Sl.of_own H2.out).cap
 clear lb hnm
 go_region_held3 (fun w' => w'.cell? ⟨nb, 0, none⟩ = some (.slice M 1 mc) ∧ w'.cell? ⟨bo, oo, none⟩ = some (.slice R 1 rc)) (first | exact ⟨c0, ca⟩ | assumption) (first
  | (go_at_call 101; refine (HNM.out).mono ?_; rintro e w5 ⟨rfl, rfl⟩))
 all_goals go_wp2
 all_goals go_ret2
 exact ⟨rfl, HB2.out.drew⟩
theorem doL_gold : doL bk0 sMGold = (sG, 0) := by kernel_rfl
/-- A mint with one medal is asked for the roll. -/
theorem mintRollQ (R : Nat → Prop) (m : Nat) (d : Value) (L : List (Nat × Nat)) (k : Int) (J : List ByteArray) (out : Bool) (w : World) (hm : MinM w R m d L k sG J out) (he : EnvN w) (hT : Tab w) :
 Calls Tryz.prog 9 #[.pointer (some ⟨m, 0, none⟩), .string sRoll2] w (AskR w (⟨#[114, 111, 108, 108, 32, 103, 111, 108, 100]⟩, 0)) := by
 refine mintAskF R m d L k sG J out sRoll2 _ w hm fun sb hst => ?_
 exact askYes 0 0 63 (by decide) R sb sG sRoll2 [] [] _ (by decide) w he hT hst (by kernel_rfl) (fun args W => enters Tryz.func63 (by kernel_rfl) rfl args W) (by kernel_rfl) (by kernel_rfl) rollG
/-- A mint is opened on new copies. -/
theorem openFresh (w w2 : World) (A2 : Option Addr) (c2 : Nat) (L : List (Nat × Nat)) (hB : Below w.heap.size w w2) (he : EnvN w) (hT : Tab w) (hs : Sl w2 A2 3 c2 (ptrs (L.map (·.1)))) (hn : NewC w2 w.heap.size L) (hl : L.length = 3) :
 Calls Tryz.prog 17 #[.slice A2 3 c2] w2 fun r w3 => ∃ m d R, r = .returned (.tuple #[.pointer (some ⟨m, 0, none⟩), .int .i64 0]) ∧ MinM w3 R m d L 1 bk0 [] false ∧ CpsM w3 L (likeC 1 []) ∧ Chs (inL L) w2 w3 ∧ (∀ i, R i ∨ footM m d i → w2.heap.size ≤ i) ∧ ∀ i, inL L i → w.heap.size ≤ i ∧ i < w2.heap.size := by
 have HLB : ∀ i, inL L i → w.heap.size ≤ i ∧ i < w2.heap.size := fun i hi => by
  rcases hi with hi | hi
  · obtain ⟨p, hp, rfl⟩ := List.mem_map.1 hi
    exact ⟨(hn.cpm p hp).2.1, (hn.cpm p hp).1.lt.1⟩
  · obtain ⟨p, hp, rfl⟩ := List.mem_map.1 hi
    exact ⟨(hn.cpm p hp).2.2, (hn.cpm p hp).1.lt.2⟩
 have hcps := cps_new hn hl
 have hr0 : runL stepL bk0 [] = some bk0 := rfl
 have htop : topM (likeC 0 []) = 0 := top_like 0 [] (by omega)
 have hrd : readM (likeC 0 []) = (bk0, []) := read_like 0 [] bk0 (by omega) (by simp) hr0
 have hop : openM (likeC 0 []) = likeC 1 [] := open_like 0 [] bk0 (by omega) (by simp) hr0
 have HOP := openG3 w w2 A2 c2 L (likeC 0 []) hB he hT hs hcps (fun i hi => (HLB i hi).1) (by rw [htop]; omega) (fun i y hy => by rw [best_like, ent_nil] at hy; cases hy)
 unfold OpenR at HOP
 rw [htop, hrd, hop, like_reach] at HOP
 refine HOP.mono ?_
 rintro e w3 hor
 rcases hor with ⟨hno, _, _⟩ | ⟨_, m, d, R, rfl, hmm, hcc, hch, hft⟩
 · omega
 exact ⟨m, d, R, rfl, hmm, hcc, hch, hft, HLB⟩
theorem doM_gold : doM (likeC 1 []) 1 bk0 [] false sMGold = (likeC 1 [sMGold], sG, [sMGold], false, 0) := by
 rw [like_do 1 bk0 [] sMGold (by decide), doL_gold]
 rfl
theorem word_gold : wordOf sMGold = ⟨#[109, 101, 100, 97, 108]⟩ := by kernel_rfl
set_option maxRecDepth 100000 in
set_option maxHeartbeats 4000000 in
theorem awakeG (w : World) (he : EnvN w) (hT : Tab w) :
 Calls Tryz.prog 15 #[] w fun e w' => e = .returned (.bool true) ∧ Below w.heap.size w w' := by
 have HC := hid (copies3 w)
 have HT := hid hT
 have HE := hid he
 clear hT he
 go_enter Tryz.func15, Tryz.ntmps15
 go_wp2_with fail
 refine (HC.out).mono ?_; rintro e w1 ⟨a, r, rfl, ⟨L, M, h1, h2, h3, h4, h5⟩, b1⟩
 obtain ⟨A, c, rfl⟩ := own_form h1
 have HB1 := hid b1
 have hl3 : L.length = 3 := by have := h1.1; simpa [ptrs] using this
 have HL3 := hid hl3
 have HO := hid (openFresh w w1 A c L b1 HE.out HT.out (Sl.of_own h1) h3 hl3)
 clear h1 h2 h3 h4 h5 b1 HC hl3
 go_wp2_with fail
 refine (HO.out).mono ?_; rintro e w2 ⟨m, d, R, rfl, hmm, hcc, hch, hft, hlb⟩
 have hlow : Below w.heap.size w w2 := hch.below HB1.out HB1.out.size (fun i hi => (hlb i hi).1)
 have HLO := hid hlow
 have hdo := doGW w w2 R m d L (likeC 1 []) 1 bk0 [] false sMGold hlow HE.out HT.out hmm hcc (fun i hi => ⟨fun hr => by have := hft i (.inl hr); have := (hlb i hi).2; omega, fun hr => by have := hft i (.inr hr); have := (hlb i hi).2; omega⟩) (by simp) BkI.begin (by decide) (by omega) (by omega) (by have := HL3.out; omega) (fun i hi => (hlb i hi).1) (fun i hi => by have := hft i (.inr hi); have := HB1.out.size; omega)
 rw [doM_gold, word_gold] at hdo
 have HDO := hid hdo
 have HFT := hid hft
 have HLB := hid hlb
 clear hmm hcc hch hft hlb hlow hdo HO
 go_wp2_with fail
 refine (HDO.out).mono ?_; rintro e w3 ⟨⟨word, rfl, hw⟩, R', d', hmi, hc3, hch3, hr3, hf3⟩
 obtain rfl := hw trivial
 have hlow3 : Below w.heap.size w w3 := hch3.below HLO.out HLO.out.size (fun i hi => by
  rcases hi with hi | hi
  · exact (HLB.out i hi).1
  · have := HFT.out i (.inr hi); have := HB1.out.size; omega)
 have HB3 := hid hlow3
 have hrq := mintRollQ R' m d' L 1 [sMGold] false w3 hmi (HE.out.keep hlow3) (HT.out.below hlow3)
 unfold AskR sRoll2 at hrq
 have HA := hid hrq
 clear hmi hc3 hch3 hr3 hf3 hlow3 hrq hw HDO
 go_wp2_with fail
 refine (HA.out).mono ?_; rintro e w4 ⟨rfl, b4⟩
 have HB4 := hid (below_call HB3.out b4 HB3.out.size)
 clear b4 HA
 go_wp2
 go_ret
 exact ⟨rfl, HB4.out⟩
end Go.Proofs.YtflepjgcpdaodaaGreatDoor
