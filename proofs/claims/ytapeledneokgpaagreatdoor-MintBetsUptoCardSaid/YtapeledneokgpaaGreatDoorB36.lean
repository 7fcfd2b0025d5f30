/- Texts of this proof, one behind the other; each says its condition at its head. -/
import Derived.Test.YtapeledneokgpaaGreatDoorB35
import Derived.Test.YtapeledneokgpaaGreatDoorB33
import Derived.Test.YtapeledneokgpaaGreatDoorB27
import Derived.Test.YtapeledneokgpaaGreatDoorB30
import Derived.Test.YtapeledneokgpaaGreatDoorB34
/- Walks of order's lines and Lines, and of roll, at one element. Condition: the library's table of 64 numbers stands in its variable. -/
namespace Go.Proofs.YtapeledneokgpaaGreatDoor
open Go.RowKit Go.Shelf
set_option maxRecDepth 100000 in
set_option maxHeartbeats 4000000 in
theorem linesOne (w : World) (hT : Tab w) :
 Calls Tryz.prog 47 #[.agg ord1] w fun e w' => ∃ O oc R rc, e = .returned (.slice O 1 oc) ∧ w'.ownsRow w.heap.size 36 1 (.slice O 1 oc) 1 [.slice R 1 rc] ∧ w'.ownsRow w.heap.size 3 1 (.slice R 1 rc) 1 [.int .i64 0] ∧ Below w.heap.size w w' := by
 have he : ∀ args W, (callFunc 82 args).run Tryz.prog W = .ok (.enter 82 args) W := fun args W => enters Tryz.func82 (by kernel_rfl) rfl args W
 have HT := hid hT
 clear hT
 unfold ord1
 go_enter Tryz.func47, Tryz.ntmps47
 go_wp2_with fail
 have HLN := hid (show LnS ((((w.alloc (.cells #[.int .i64 1, .int .i64 0, .int .i64 0, .int .i64 0, .int .i64 0, .int .i64 0, .int .i64 0] 87)).alloc (.cells #[.slice none 0 0] 39)).alloc (.cells #[.slice none 0 0] 36)).alloc (.cells #[.func (.func 82) #[] #[.pointer (some ⟨w.heap.size + 1, 0, none⟩), .pointer (some ⟨w.heap.size + 1 + 1, 0, none⟩), .pointer (some ⟨w.heap.size, 0, none⟩), .pointer (some ⟨w.heap.size + 1 + 1 + 1, 0, none⟩)]] 148)) w.heap.size (w.heap.size + 1) (w.heap.size + 1 + 1) (w.heap.size + 1 + 1 + 1) (.slice none 0 0) (.slice none 0 0) from
  ⟨(((Blk.new w _ _).alloc _).alloc _).alloc _, ((Blk.new_at _ _ _ (by simp)).alloc _).alloc _, (Blk.new_at _ _ _ (by simp)).alloc _, Blk.new_at _ _ _ (by simp)⟩)
 have HLO := hid (show Below w.heap.size w ((((w.alloc (.cells #[.int .i64 1, .int .i64 0, .int .i64 0, .int .i64 0, .int .i64 0, .int .i64 0, .int .i64 0] 87)).alloc (.cells #[.slice none 0 0] 39)).alloc (.cells #[.slice none 0 0] 36)).alloc (.cells #[.func (.func 82) #[] #[.pointer (some ⟨w.heap.size + 1, 0, none⟩), .pointer (some ⟨w.heap.size + 1 + 1, 0, none⟩), .pointer (some ⟨w.heap.size, 0, none⟩), .pointer (some ⟨w.heap.size + 1 + 1 + 1, 0, none⟩)]] 148)) from ((((Below.refl _ w).alloc (Nat.le_refl _) _).alloc (by simp) _).alloc (by simp; omega) _).alloc (by simp; omega) _)
 generalize ((((w.alloc (.cells #[.int .i64 1, .int .i64 0, .int .i64 0, .int .i64 0, .int .i64 0, .int .i64 0, .int .i64 0] 87)).alloc (.cells #[.slice none 0 0] 39)).alloc (.cells #[.slice none 0 0] 36)).alloc (.cells #[.func (.func 82) #[] #[.pointer (some ⟨w.heap.size + 1, 0, none⟩), .pointer (some ⟨w.heap.size + 1 + 1, 0, none⟩), .pointer (some ⟨w.heap.size, 0, none⟩), .pointer (some ⟨w.heap.size + 1 + 1 + 1, 0, none⟩)]] 148)) = W at *
 have HP := hid HT.out.pos
 have HTW := hid (HT.out.below HLO.out)
 have z := HLN.out.grow.cell 0
 have o0 := HLN.out.ord.cell 0
 have o1 := HLN.out.ord.cell 1
 have o2 := HLN.out.ord.cell 2
 have o3 := HLN.out.ord.cell 3
 have o4 := HLN.out.ord.cell 4
 have o5 := HLN.out.ord.cell 5
 have o6 := HLN.out.ord.cell 6
 simp only [ord1, List.getElem?_toArray, List.getElem?_cons_zero, List.getElem?_cons_succ] at z o0 o1 o2 o3 o4 o5 o6
 have HAL := hid (allOne W.drew)
 unfold ord1 at HAL
 go_region_held3 (fun w' => w'.cell? ⟨w.heap.size + 1 + 1 + 1, 0, none⟩ = some (.func (.func 82) #[] #[.pointer (some ⟨w.heap.size + 1, 0, none⟩), .pointer (some ⟨w.heap.size + 1 + 1, 0, none⟩), .pointer (some ⟨w.heap.size, 0, none⟩), .pointer (some ⟨w.heap.size + 1 + 1 + 1, 0, none⟩)]) ∧ w'.cell? ⟨w.heap.size, 0, none⟩ = some (.int .i64 1) ∧ w'.cell? ⟨w.heap.size, 1, none⟩ = some (.int .i64 0) ∧ w'.cell? ⟨w.heap.size, 2, none⟩ = some (.int .i64 0) ∧ w'.cell? ⟨w.heap.size, 3, none⟩ = some (.int .i64 0) ∧ w'.cell? ⟨w.heap.size, 4, none⟩ = some (.int .i64 0) ∧ w'.cell? ⟨w.heap.size, 5, none⟩ = some (.int .i64 0) ∧ w'.cell? ⟨w.heap.size, 6, none⟩ = some (.int .i64 0)) (first | exact ⟨z, o0, o1, o2, o3, o4, o5, o6⟩ | exact HK.out | exact HK2.out) (first
  | (go_at_call 83; refine (HAL.out).mono ?_; rintro e w5 ⟨rfl, b5⟩; have B5 := hid b5; have HK : Hid (w5.cell? ⟨w.heap.size + 1 + 1 + 1, 0, none⟩ = some (.func (.func 82) #[] #[.pointer (some ⟨w.heap.size + 1, 0, none⟩), .pointer (some ⟨w.heap.size + 1 + 1, 0, none⟩), .pointer (some ⟨w.heap.size, 0, none⟩), .pointer (some ⟨w.heap.size + 1 + 1 + 1, 0, none⟩)]) ∧ w5.cell? ⟨w.heap.size, 0, none⟩ = some (.int .i64 1) ∧ w5.cell? ⟨w.heap.size, 1, none⟩ = some (.int .i64 0) ∧ w5.cell? ⟨w.heap.size, 2, none⟩ = some (.int .i64 0) ∧ w5.cell? ⟨w.heap.size, 3, none⟩ = some (.int .i64 0) ∧ w5.cell? ⟨w.heap.size, 4, none⟩ = some (.int .i64 0) ∧ w5.cell? ⟨w.heap.size, 5, none⟩ = some (.int .i64 0) ∧ w5.cell? ⟨w.heap.size, 6, none⟩ = some (.int .i64 0)) := hid (And.intro (cell_keep b5 z) (And.intro (cell_keep b5 o0) (And.intro (cell_keep b5 o1) (And.intro (cell_keep b5 o2) (And.intro (cell_keep b5 o3) (And.intro (cell_keep b5 o4) (And.intro (cell_keep b5 o5) (cell_keep b5 o6)))))))); clear b5)
  | (go_at_call 82; refine (growOne w.heap.size (w.heap.size + 1) (w.heap.size + 1 + 1) (w.heap.size + 1 + 1 + 1) w5 (HLN.out.keep ((Below.refl _ W).drew.trans B5.out)) (HTW.out.below ((Below.refl _ W).drew.trans B5.out)) (by have := HP.out; omega)).mono ?_; rintro e w6 ⟨rfl, hO, hC⟩; have HO := hid hO; have HC := hid hC; have KO := hid (hC.blk (HLN.out.keep ((Below.refl _ W).drew.trans B5.out)).ord (by omega)); have KG := hid (hC.blk (HLN.out.keep ((Below.refl _ W).drew.trans B5.out)).grow (by omega)); have HK2 : Hid (w6.cell? ⟨w.heap.size + 1 + 1 + 1, 0, none⟩ = some (.func (.func 82) #[] #[.pointer (some ⟨w.heap.size + 1, 0, none⟩), .pointer (some ⟨w.heap.size + 1 + 1, 0, none⟩), .pointer (some ⟨w.heap.size, 0, none⟩), .pointer (some ⟨w.heap.size + 1 + 1 + 1, 0, none⟩)]) ∧ w6.cell? ⟨w.heap.size, 0, none⟩ = some (.int .i64 1) ∧ w6.cell? ⟨w.heap.size, 1, none⟩ = some (.int .i64 0) ∧ w6.cell? ⟨w.heap.size, 2, none⟩ = some (.int .i64 0) ∧ w6.cell? ⟨w.heap.size, 3, none⟩ = some (.int .i64 0) ∧ w6.cell? ⟨w.heap.size, 4, none⟩ = some (.int .i64 0) ∧ w6.cell? ⟨w.heap.size, 5, none⟩ = some (.int .i64 0) ∧ w6.cell? ⟨w.heap.size, 6, none⟩ = some (.int .i64 0)) := hid ⟨KG.out.cell 0, KO.out.cell 0, KO.out.cell 1, KO.out.cell 2, KO.out.cell 3, KO.out.cell 4, KO.out.cell 5, KO.out.cell 6⟩; clear hO hC))
 obtain ⟨O, oc, R, rc, h1, h2, h3⟩ := HO.out
 have x0 := h1.cell 0
 simp only [List.getElem?_toArray, List.getElem?_cons_zero] at x0
 have hlow := HC.out.below (HLO.out.drew.trans (B5.out.mono HLO.out.size)) (Nat.le_trans HLO.out.size B5.out.size) (fun i e => by omega)
 have HLW := hid hlow
 have H2 := hid h2
 have H3 := hid h3
 have H5S := hid (show w.heap.size ≤ w5.heap.size from Nat.le_trans HLO.out.size B5.out.size)
 clear hlow h1 h2 h3
 go_wp2
 go_ret
 exact ⟨O, oc, R, rc, rfl, own_more H2.out H5S.out, own_more H3.out H5S.out, HLW.out⟩
end Go.Proofs.YtapeledneokgpaaGreatDoor
/- Walks of the question roll at one medal, and of awake. Condition: the library's variables stand. -/
namespace Go.Proofs.YtapeledneokgpaaGreatDoor
open Go.RowKit Go.Maps
def sMGold : ByteArray := ⟨#[109, 101, 100, 97, 108, 32, 103, 111, 108, 100]⟩
def sRoll2 : ByteArray := ⟨#[114, 111, 108, 108]⟩
abbrev sGd : ByteArray := ⟨#[103, 111, 108, 100]⟩
/-- The books behind one medal. -/
def sG : Bk := ⟨[sGd], [0], [], [], 0, 0, 0, 1, []⟩
set_option maxRecDepth 100000 in
set_option maxHeartbeats 4000000 in
theorem linesG (A : Option Addr) (c : Nat) (w : World) (hs : Sl w A 1 c [.int .i64 0]) (hT : Tab w) :
 Calls Tryz.prog 15 #[.slice A 1 c] w fun e w' => ∃ O oc R rc, e = .returned (.tuple #[.slice O 1 oc, .int .i64 0]) ∧ w'.ownsRow w.heap.size 36 1 (.slice O 1 oc) 1 [.slice R 1 rc] ∧ w'.ownsRow w.heap.size 3 1 (.slice R 1 rc) 1 [.int .i64 0] ∧ Below w.heap.size w w' := by
 have HR := hid (ordRead 1 (fun _ _ => false) A c w (by omega) (by omega) ⟨fun _ _ => rfl, fun _ _ _ _ _ _ h _ => h⟩ hs hT)
 rw [show ordC 1 (fun _ _ => false) = ord1 from rfl] at HR
 have HT := hid hT
 clear hs hT
 unfold ord1 at HR
 go_enter Tryz.func15, Tryz.ntmps15
 go_wp2_with fail
 refine (HR.out).mono ?_; rintro e w1 ⟨rfl, b1⟩
 have HL := hid (linesOne (w1.alloc (.cells #[.int .i64 1, .int .i64 0, .int .i64 0, .int .i64 0, .int .i64 0, .int .i64 0, .int .i64 0] 87)) ((HT.out.below b1).below ((Below.refl _ w1).alloc (Nat.le_refl _) _)))
 have HB := hid (b1.alloc b1.size (.cells #[.int .i64 1, .int .i64 0, .int .i64 0, .int .i64 0, .int .i64 0, .int .i64 0, .int .i64 0] 87))
 unfold ord1 at HL
 clear b1 HR
 go_wp2_with fail
 refine (HL.out).mono ?_; rintro e w2 ⟨O, oc, R, rc, rfl, h2, h3, b2⟩
 have H2 := hid (own_more h2 HB.out.size)
 have H3 := hid (own_more h3 HB.out.size)
 have HB2 := hid (below_call HB.out b2 HB.out.size)
 clear h2 h3 b2 HL
 go_wp2
 go_ret2
 exact ⟨O, oc, R, rc, rfl, H2.out, H3.out, HB2.out⟩
set_option maxRecDepth 100000 in
set_option maxHeartbeats 4000000 in
theorem rollG : AskC 118 sG [] [] (⟨#[114, 111, 108, 108, 32, 103, 111, 108, 100]⟩, 0) := by
 intro w G nb A0 q0 D0 d0 h hA hD hE hT
 obtain ⟨M, mc, U, uc, Q, pc, T, tc, E, ec, g1, g2, g3, _, _, _, _, _, _, _, _, _⟩ := h.ex
 have B1 := (Below.refl w.heap.size w).alloc (Nat.le_refl _) (.cells #[.slice A0 0 q0, .slice D0 0 d0] 139)
 have HB := hid B1
 have HT := hid (hT.below HB.out)
 have HS1 := hid (g1.keep B1)
 have HS2 := hid (g2.below B1)
 have HS3 := hid (g3.below B1)
 clear h hA hD hE hT g1 g2 g3 B1
 go_enter Tryz.func118, Tryz.ntmps118
 have c0 := HS1.out.cell 0
 have c1 := HS1.out.cell 1
 simp only [stV, sG, List.length_cons, List.length_nil, List.getElem?_toArray, List.getElem?_cons_zero, List.getElem?_cons_succ] at c0 c1
 simp only [sG, List.length_cons, List.length_nil] at HS1 HS2 HS3
 go_wp2_with fail
 generalize w.alloc (.cells #[.slice A0 0 q0, .slice D0 0 d0] 139) = W at *
 have HL := hid (linesG U uc W HS3.out HT.out)
 refine (HL.out).mono ?_; rintro e w2 ⟨O, oc, R, rc, rfl, h2, h3, b2⟩
 have HC0 := hid (cell_keep b2 c0)
 have HM2 := hid (HS2.out.below b2)
 have H3 := hid h3
 have H2 := hid h2
 have HB2 := hid (below_call HB.out b2 HB.out.size)
 clear c0 c1 h2 h3 b2 HL HS1 HS2 HS3 HT HB
 go_wp2_with fail
 have c0 := HC0.out
 obtain ⟨bo, oo, u, hO, lb, e1, ca⟩ := (Sl.of_own H2.out).at (k := 0) (by omega)
 subst hO
 simp only [List.getElem?_cons_zero, Option.some.injEq, Nat.add_zero] at e1 ca
 subst e1
 have hnm := namedF ⟨#[114, 111, 108, 108]⟩ M 1 mc [sGd] R 1 rc [0] w2.drew (HM2.out).drew (Sl.of_own H3.out).drew (fun i hi => by simp at hi; omega) (by decide) (fun s hs => by simp at hs; subst hs; decide) (by omega)
 rw [show nmd ⟨#[114, 111, 108, 108]⟩ [sGd] [0] = ⟨#[114, 111, 108, 108, 32, 103, 111, 108, 100]⟩ from by kernel_rfl] at hnm
 have HNM := hid hnm
 have hcap := (Sl.of_own H2.out).cap
 clear lb hnm
 go_region_held3 (fun w' => w'.cell? ⟨nb, 0, none⟩ = some (.slice M 1 mc) ∧ w'.cell? ⟨bo, oo, none⟩ = some (.slice R 1 rc)) (first | exact ⟨c0, ca⟩ | assumption) (first
  | (go_at_call 167; refine (HNM.out).mono ?_; rintro e w5 ⟨rfl, rfl⟩))
 all_goals go_wp2
 all_goals go_ret2
 exact ⟨rfl, HB2.out.drew⟩
theorem doL_gold : doL bk0 sMGold = (sG, 0) := by kernel_rfl
/-- A mint with one medal is asked for the roll. -/
theorem mintRollQ (R : Nat → Prop) (m : Nat) (d : Value) (L : List (Nat × Nat)) (k : Int) (J : List ByteArray) (out : Bool) (w : World) (hm : MinM w R m d L k sG J out) (he : EnvN w) (hT : Tab w) :
 Calls Tryz.prog 12 #[.pointer (some ⟨m, 0, none⟩), .string sRoll2] w (AskR w (⟨#[114, 111, 108, 108, 32, 103, 111, 108, 100]⟩, 0)) := by
 refine mintAskF R m d L k sG J out sRoll2 _ w hm fun sb hst => ?_
 exact askYes 0 0 118 (by decide) R sb sG sRoll2 [] [] _ (by decide) w he hT hst (by kernel_rfl) (fun args W => enters Tryz.func118 (by kernel_rfl) rfl args W) (by kernel_rfl) (by kernel_rfl) rollG
/-- A mint is opened on new copies. -/
theorem openFresh (w w2 : World) (A2 : Option Addr) (c2 : Nat) (L : List (Nat × Nat)) (hB : Below w.heap.size w w2) (he : EnvN w) (hT : Tab w) (hs : Sl w2 A2 3 c2 (ptrs (L.map (·.1)))) (hn : NewC w2 w.heap.size L) (hl : L.length = 3) :
 Calls Tryz.prog 35 #[.slice A2 3 c2] w2 fun r w3 => ∃ m d R, r = .returned (.tuple #[.pointer (some ⟨m, 0, none⟩), .int .i64 0]) ∧ MinM w3 R m d L 1 bk0 [] false ∧ CpsM w3 L (likeC 1 []) ∧ Chs (inL L) w2 w3 ∧ (∀ i, R i ∨ footM m d i → w2.heap.size ≤ i) ∧ ∀ i, inL L i → w.heap.size ≤ i ∧ i < w2.heap.size := by
 have HLB : ∀ i, inL L i → w.heap.size ≤ i ∧ i < w2.heap.size := fun i hi => by
  rcases hi with hi | hi
  · obtain ⟨p, hp, rfl⟩ := List.mem_map.1 hi
    exact ⟨(hn.cpm p hp).2.1, (hn.cpm p hp).1.lt.1⟩
  · obtain ⟨p, hp, rfl⟩ := List.mem_map.1 hi
    exact ⟨(hn.cpm p hp).2.2, (hn.cpm p hp).1.lt.2⟩
 have hcps := cps_new hn hl
 have hr0 : runL stepL bk0 [] = some bk0 := rfl
 have htop : topM (likeC 0 []) = 0 := top_like 0 [] (by omega)
 have hrd : readM (likeC 0 []) = (bk0, []) := read_like 0 [] bk0 (by omega) (by simp) hr0
 have hop : openM (likeC 0 []) = likeC 1 [] := open_like 0 [] bk0 (by omega) (by simp) hr0
 have HOP := openG3 w w2 A2 c2 L (likeC 0 []) hB he hT hs hcps (fun i hi => (HLB i hi).1) (by rw [htop]; omega) (fun i y hy => by rw [best_like, ent_nil] at hy; cases hy)
 unfold OpenR at HOP
 rw [htop, hrd, hop, like_reach] at HOP
 refine HOP.mono ?_
 rintro e w3 hor
 rcases hor with ⟨hno, _, _⟩ | ⟨_, m, d, R, rfl, hmm, hcc, hch, hft⟩
 · omega
 exact ⟨m, d, R, rfl, hmm, hcc, hch, hft, HLB⟩
theorem doM_gold : doM (likeC 1 []) 1 bk0 [] false sMGold = (likeC 1 [sMGold], sG, [sMGold], false, 0) := by
 rw [like_do 1 bk0 [] sMGold (by decide), doL_gold]
 rfl
theorem word_gold : wordOf sMGold = ⟨#[109, 101, 100, 97, 108]⟩ := by kernel_rfl
set_option maxRecDepth 100000 in
set_option maxHeartbeats 4000000 in
theorem awakeG (w : World) (he : EnvN w) (hT : Tab w) :
 Calls Tryz.prog 25 #[] w fun e w' => e = .returned (.bool true) ∧ Below w.heap.size w w' := by
 have HC := hid (copies3 w)
 have HT := hid hT
 have HE := hid he
 clear hT he
 go_enter Tryz.func25, Tryz.ntmps25
 go_wp2_with fail
 refine (HC.out).mono ?_; rintro e w1 ⟨a, r, rfl, ⟨L, M, h1, h2, h3, h4, h5⟩, b1⟩
 obtain ⟨A, c, rfl⟩ := own_form h1
 have HB1 := hid b1
 have hl3 : L.length = 3 := by have := h1.1; simpa [ptrs] using this
 have HL3 := hid hl3
 have HO := hid (openFresh w w1 A c L b1 HE.out HT.out (Sl.of_own h1) h3 hl3)
 clear h1 h2 h3 h4 h5 b1 HC hl3
 go_wp2_with fail
 refine (HO.out).mono ?_; rintro e w2 ⟨m, d, R, rfl, hmm, hcc, hch, hft, hlb⟩
 have hlow : Below w.heap.size w w2 := hch.below HB1.out HB1.out.size (fun i hi => (hlb i hi).1)
 have HLO := hid hlow
 have hdo := doGW w w2 R m d L (likeC 1 []) 1 bk0 [] false sMGold hlow HE.out HT.out hmm hcc (fun i hi => ⟨fun hr => by have := hft i (.inl hr); have := (hlb i hi).2; omega, fun hr => by have := hft i (.inr hr); have := (hlb i hi).2; omega⟩) (by simp) BkI.begin (by decide) (by omega) (by omega) (by have := HL3.out; omega) (fun i hi => (hlb i hi).1) (fun i hi => by have := hft i (.inr hi); have := HB1.out.size; omega)
 rw [doM_gold, word_gold] at hdo
 have HDO := hid hdo
 have HFT := hid hft
 have HLB := hid hlb
 clear hmm hcc hch hft hlb hlow hdo HO
 go_wp2_with fail
 refine (HDO.out).mono ?_; rintro e w3 ⟨⟨word, rfl, hw⟩, R', d', hmi, hc3, hch3, hr3, hf3⟩
 obtain rfl := hw trivial
 have hlow3 : Below w.heap.size w w3 := hch3.below HLO.out HLO.out.size (fun i hi => by
  rcases hi with hi | hi
  · exact (HLB.out i hi).1
  · have := HFT.out i (.inr hi); have := HB1.out.size; omega)
 have HB3 := hid hlow3
 have hrq := mintRollQ R' m d' L 1 [sMGold] false w3 hmi (HE.out.keep hlow3) (HT.out.below hlow3)
 unfold AskR sRoll2 at hrq
 have HA := hid hrq
 clear hmi hc3 hch3 hr3 hf3 hlow3 hrq hw HDO
 go_wp2_with fail
 refine (HA.out).mono ?_; rintro e w4 ⟨rfl, b4⟩
 have HB4 := hid (below_call HB3.out b4 HB3.out.size)
 clear b4 HA
 go_wp2
 go_ret
 exact ⟨rfl, HB4.out⟩
end Go.Proofs.YtapeledneokgpaaGreatDoor
/- Walk of planchettop's takes. Condition: the library's variables stand. -/
namespace Go.Proofs.YtapeledneokgpaaGreatDoor
open Go.RowKit Go.Maps
end Go.Proofs.YtapeledneokgpaaGreatDoor
/- Walk of strings.HasPrefix, and what it says of a text's parts. Condition: short texts. -/
namespace Go.Proofs.YtapeledneokgpaaGreatDoor
open Go.RowKit Go.Maps
/-- Whether a text begins with another one. -/
def preB (x p : ByteArray) : Bool := decide (p.size ≤ x.size) && ((x.extract 0 p.size).toList == p.toList)
set_option maxRecDepth 100000 in
set_option maxHeartbeats 1000000 in
theorem prefixI (x p : ByteArray) (w : World) :
 Calls Tryz.prog 53 #[.string x, .string p] w fun e w' => e = .returned (.bool (preB x p)) ∧ w = w' := by
 unfold preB
 by_cases h : p.size ≤ x.size
 · have g1 : decide ((p.size : Int) ≤ (x.size : Int)) = true := decide_eq_true (by omega)
   have g2 : decide (p.size ≤ x.size) = true := decide_eq_true h
   rw [g2, Bool.true_and]
   generalize hq : ((x.extract 0 p.size).toList == p.toList) = q
   go_enter Tryz.func53, Tryz.ntmps53
   go_wp2
   go_ret
   exact ⟨rfl, rfl⟩
 · have g1 : decide ((p.size : Int) ≤ (x.size : Int)) = false := decide_eq_false (by omega)
   have g2 : decide (p.size ≤ x.size) = false := decide_eq_false h
   rw [g2, Bool.false_and]
   go_enter Tryz.func53, Tryz.ntmps53
   go_wp2
   go_ret
   exact ⟨rfl, rfl⟩
set_option maxRecDepth 100000 in
set_option maxHeartbeats 1000000 in
theorem prefixF (x p : ByteArray) (w : World) :
 Calls Tryz.prog 22 #[.string x, .string p] w fun e w' => e = .returned (.bool (preB x p)) ∧ w = w' := by
 have HI := hid (prefixI x p w)
 generalize preB x p = q at *
 go_enter Tryz.func22, Tryz.ntmps22
 go_wp2_with fail
 refine (HI.out).mono ?_; rintro e w2 ⟨rfl, rfl⟩
 go_wp2
 go_ret
 exact ⟨rfl, rfl⟩
theorem preB_iff {x p : ByteArray} : preB x p = true ↔ p.data.toList <+: x.data.toList := by
 unfold preB
 rw [Bool.and_eq_true, decide_eq_true_eq, beq_iff_eq, ByteArray.toList_eq, ByteArray.toList_eq, List.prefix_iff_eq_take]
 have h1 : (x.extract 0 p.size).data.toList = x.data.toList.take p.size := by
  rw [ByteArray.data_extract, Array.toList_extract, List.extract_eq_take_drop]
  simp
 have h2 : p.data.toList.length = p.size := by rw [Array.length_toList]; rfl
 have h3 : x.data.toList.length = x.size := by rw [Array.length_toList]; rfl
 rw [h1, h2]
 constructor
 · rintro ⟨_, h⟩; exact h.symm
 · intro h
   refine ⟨?_, h.symm⟩
   have := congrArg List.length h
   rw [h2, List.length_take, h3] at this
   omega
/-- A text is its parts with blanks between. -/
theorem spl_join : ∀ s h t, spl s = h :: t → s = h ++ t.flatMap (fun v => 32 :: v)
 | [], h, t, e => by
  have e : [[]] = h :: t := e
  cases e
  rfl
 | c :: r, h, t, e => by
  rw [spl_cons] at e
  split at e
  · rename_i hc
    cases e
    obtain ⟨h', t', e'⟩ := spl_hd r
    rw [e', List.flatMap_cons, hc]
    show 32 :: r = [] ++ (32 :: h' ++ _)
    rw [List.nil_append, List.cons_append, ← spl_join r h' t' e']
  · obtain ⟨h', t', e'⟩ := spl_hd r
    rw [e'] at e
    obtain ⟨e1, e2⟩ := List.cons.inj e
    rw [← e1, ← e2, List.cons_append, ← spl_join r h' t' e']
set_option maxRecDepth 100000 in
theorem itoaB_no : (List.range 1000).all (fun n => (itoaB n).data.toList.all fun c => !decide (c = 32)) = true := by kernel_rfl
set_option maxRecDepth 100000 in
theorem itoaB_num : (List.range 1000).all (fun n => decide (numOf (itoaB n) = some n)) = true := by kernel_rfl
theorem itoa_blank {n : Nat} (h : n < 1000) : ∀ c ∈ (itoaB n).data.toList, c ≠ 32 := fun c hc => by
 have := List.all_eq_true.1 (List.all_eq_true.1 itoaB_no n (List.mem_range.2 h)) c hc
 simpa using this
theorem itoa_num {n : Nat} (h : n < 1000) : numOf (itoaB n) = some n := of_decide_eq_true (List.all_eq_true.1 itoaB_num n (List.mem_range.2 h))
theorem numOf_itoa {a : ByteArray} {v : Nat} (h : numOf a = some v) : a = itoaB v := by
 unfold numOf at h
 split at h
 · split at h
   · rename_i v' _ hc
     cases h
     unfold itoaB
     rw [show ((v'.toNat : Nat) : Int) = v' by omega]
     exact hc.2.2.symm
   · cases h
 · cases h
/-- What a bet at an event begins with. -/
def betP (e : Nat) : ByteArray := ⟨#[98, 101, 116, 32]⟩ ++ itoaB e ++ ⟨#[32]⟩
theorem betP_data (e : Nat) : (betP e).data.toList = [98, 101, 116] ++ 32 :: ((itoaB e).data.toList ++ [32]) := by
 unfold betP
 rw [ByteArray.data_append, ByteArray.data_append, Array.toList_append, Array.toList_append]
 rfl
theorem pre_spl {x : ByteArray} {e : Nat} (he : e < 1000) (h : preB x (betP e) = true) : ∃ r, (parts x).map (fun v => v.data.toList) = [98, 101, 116] :: (itoaB e).data.toList :: r := by
 obtain ⟨r, hr⟩ := preB_iff.1 h
 rw [betP_data] at hr
 refine ⟨spl r, ?_⟩
 have hx : x.data.toList = [98, 101, 116] ++ 32 :: ((itoaB e).data.toList ++ 32 :: r) := by rw [← hr]; simp
 rw [parts_spl, hx, spl_app, spl_app, spl_no [98, 101, 116] (by decide), spl_no _ (itoa_blank he)]
 rfl
theorem pre_other {x : ByteArray} {e : Nat} (he : e < 1000) (h : wordOf x ≠ sBet) : preB x (betP e) = false := by
 cases hp : preB x (betP e) with
 | false => rfl
 | true =>
  obtain ⟨r, hr⟩ := pre_spl he hp
  rw [parts_head x, List.map_cons] at hr
  injection hr with h1 _
  exact absurd (by
   have e1 : (wordOf x).data = ⟨[98, 101, 116]⟩ := by rw [← h1]
   show wordOf x = ⟨#[98, 101, 116]⟩
   exact congrArg ByteArray.mk e1) h
theorem pre_bet {x a c : ByteArray} {v e : Nat} (he : e < 1000) (hp : parts x = [sBet, a, c]) (ha : numOf a = some v) : preB x (betP e) = decide (v = e) := by
 rw [Bool.eq_iff_iff, decide_eq_true_iff]
 constructor
 · intro h
   obtain ⟨r, hr⟩ := pre_spl he h
   rw [hp] at hr
   simp only [List.map_cons, List.cons.injEq] at hr
   have hd : a = itoaB e := by
    have e1 : a.data = (itoaB e).data := by
     have := hr.2.1
     exact Array.toList_inj.1 this
    exact congrArg ByteArray.mk e1
   rw [hd, itoa_num he] at ha
   exact (Option.some.inj ha).symm
 · rintro rfl
   rw [preB_iff, betP_data, ← numOf_itoa ha]
   have hs : spl x.data.toList = [98, 101, 116] :: [a.data.toList, c.data.toList] := by
    rw [← parts_spl, hp]
    rfl
   have := spl_join _ _ _ hs
   rw [this]
   exact ⟨c.data.toList, by simp⟩
/-- Whether there is a bet at an event. -/
def thB (e : Nat) (l : List (Int × Int)) : Bool := l.any fun u => u.1 == (e : Int)
theorem th_step {s s' : Bk} {x : ByteArray} {e : Nat} (he : e < 1000) (h : PrcL s x s') : thB e s'.bets = (thB e s.bets || preB x (betP e)) := by
 cases h with
 | other h1 h2 => rw [h2, pre_other he h1, Bool.or_false]
 | bet a c v k hw hp ha hc hb hbe _ =>
  rw [hbe, pre_bet he hp ha]
  unfold thB
  rw [List.any_append]
  congr 1
  simp only [List.any_cons, List.any_nil, Bool.or_false]
  rw [Bool.eq_iff_iff, beq_iff_eq, decide_eq_true_iff]
  omega
theorem parts_numd (word : ByteArray) : ∀ (l : List Nat) (v : ByteArray), (∀ i ∈ l, i < 1000) → parts (numd v l) = parts v ++ l.map itoaB
 | [], v, _ => by simp [numd]
 | i :: l, v, hl => by
  have h1 : numd v (i :: l) = numd (v ++ (⟨#[32]⟩ ++ itoaB i)) l := rfl
  rw [h1, parts_numd word l _ fun j hj => hl j (by simp [hj]), parts_snoc _ _ (itoa_blank (hl i (by simp)))]
  simp
/-- The line of a bet. -/
def betX (e c : Nat) : ByteArray := ⟨#[98, 101, 116, 32]⟩ ++ itoaB e ++ ⟨#[32]⟩ ++ itoaB c
set_option maxRecDepth 100000 in
theorem betX_all : (List.range 6).all (fun i => (List.range 13).all fun c => decide (lineL 0 2 (betX (i + 1) c) = some ([], [((i + 1 : Nat) : Int), (c : Int)])) && decide ((wordOf (betX (i + 1) c)).data.toList = [98, 101, 116]) && decide ((betX (i + 1) c).size ≤ 100)) = true := by kernel_rfl
theorem betX_do {e c : Nat} (h1 : 1 ≤ e) (h2 : e ≤ 6) (hc : c < 13) (s : Bk) : doL s (betX e c) = betL s e c ∧ (betX e c).size ≤ 100 := by
 have h := List.all_eq_true.1 (List.all_eq_true.1 betX_all (e - 1) (List.mem_range.2 (by omega))) c (List.mem_range.2 hc)
 rw [show e - 1 + 1 = e by omega] at h
 simp only [Bool.and_eq_true, decide_eq_true_eq] at h
 obtain ⟨⟨h3, h4⟩, h5⟩ := h
 refine ⟨?_, h5⟩
 unfold doL
 rw [if_pos h4, h3]
/-- A bet is taken just where there is none, at a price of its event. -/
theorem bet_may {s : Bk} (hb : BkT s) (hs : SndI s) {e c : Nat} (h1 : 1 ≤ e) (h2 : e ≤ 6) (hc : c < 13) : (doL s (betX e c)).2 = if (decide (c ∈ priceL (allB s.bets) e) && !thB e s.bets) = true then 0 else 5 := by
 rw [(betX_do h1 h2 hc s).1]
 unfold betL
 rw [if_neg (by omega)]
 have hth : (s.bets.any fun y => ((e : Nat) : Int) == y.1) = thB e s.bets := by
  unfold thB
  congr 1
  funext y
  rw [Bool.eq_iff_iff, beq_iff_eq, beq_iff_eq]
  exact eq_comm
 rw [hth]
 cases ht : thB e s.bets with
 | true => simp
 | false =>
  rw [if_neg Bool.false_ne_true]
  have hsn := hb.bk.1.bet.snoc (v := e) (c := c) (by omega) (by omega) (by omega) (by omega) (by rw [hth]; exact ht)
  have hp := bet_price (allB_ok hb.bk.1.bet) (hsn.ok (by simp)) hs hc
  by_cases hm : c ∈ priceL (allB s.bets) e
  · have := hp.2 hm
    rw [if_neg (by simpa using this)]
    simp [hm]
  · have hn : cornersL (s.bets ++ [((e : Int), (c : Int))]) = [] := Classical.byContradiction fun h => hm (hp.1 h)
    rw [hn]
    simp [hm]
end Go.Proofs.YtapeledneokgpaaGreatDoor
