/- Texts of this proof, one behind the other; each says its condition at its head. -/
import Derived.Test.YtapeledneokgpaaGreatDoorP35
import Derived.Test.YtapeledneokgpaaGreatDoorP33
import Derived.Test.YtapeledneokgpaaGreatDoorP27
import Derived.Test.YtapeledneokgpaaGreatDoorP30
import Derived.Test.YtapeledneokgpaaGreatDoorP34
/- Walks of order's lines and Lines, and of roll, at one element. Condition: the library's table of 64 numbers stands in its variable. -/
namespace Go.Proofs.YtapeledneokgpaaGreatDoor
open Go.RowKit Go.Shelf
set_option maxRecDepth 100000 in
set_option maxHeartbeats 4000000 in
theorem linesOne (w : World) (hT : Tab w) :
 Calls Tryz.prog 47 #[.agg ord1] w fun e w' => ∃ O oc R rc, e = .returned (.slice O 1 oc) ∧ w'.ownsRow w.heap.size 36 1 (.slice O 1 oc) 1 [.slice R 1 rc] ∧ w'.ownsRow w.heap.size 3 1 (.slice R 1 rc) 1 [.int .i64 0] ∧ Below w.heap.size w w' := by
 have he : ∀ args W, (callFunc 82 args).run Tryz.prog W = .ok (.enter 82 args) W := fun args W => enters Tryz.func82 (by kernel_rfl) rfl args W
 have HT := hid hT
 clear hT
 unfold ord1
 go_enter Tryz.func47, Tryz.ntmps47
 go_wp2_with fail
 have HLN := hid (show LnS ((((w.alloc (.cells #[.int .i64 1, .int .i64 0, .int .i64 0, .int .i64 0, .int .i64 0, .int .i64 0, .int .i64 0] 87)).alloc (.cells #[.slice none 0 0] 39)).alloc (.cells #[.slice none 0 0] 36)).alloc (.cells #[.func (.func 82) #[] #[.pointer (some ⟨w.heap.size + 1, 0, none⟩), .pointer (some ⟨w.heap.size + 1 + 1, 0, none⟩), .pointer (some ⟨w.heap.size, 0, none⟩), .pointer (some ⟨w.heap.size + 1 + 1 + 1, 0, none⟩)]] 148)) w.heap.size (w.heap.size + 1) (w.heap.size + 1 + 1) (w.heap.size + 1 + 1 + 1) (.slice none 0 0) (.slice none 0 0) from
  ⟨(((Blk.new w _ _).alloc _).alloc _).alloc _, ((Blk.new_at _ _ _ (by simp)).alloc _).alloc _, (Blk.new_at _ _ _ (by simp)).alloc _, Blk.new_at _ _ _ (by simp)⟩)
 have HLO := hid (show Below w.heap.size w ((((w.alloc (.cells #[.int .i64 1, .int .i64 0, .int .i64 0, .int .i64 0, .int .i64 0, .int .i64 0, .int .i64 0] 87)).alloc (.cells #[.slice none 0 0] 39)).alloc (.cells #[.slice none 0 0] 36)).alloc (.cells #[.func (.func 82) #[] #[.pointer (some ⟨w.heap.size + 1, 0, none⟩), .pointer (some ⟨w.heap.size + 1 + 1, 0, none⟩), .pointer (some ⟨w.heap.size, 0, none⟩), .pointer (some ⟨w.heap.size + 1 + 1 + 1, 0, none⟩)]] 148)) from ((((Below.refl _ w).alloc (Nat.le_refl _) _).alloc (by simp) _).alloc (by simp; omega) _).alloc (by simp; omega) _)
 generalize ((((w.alloc (.cells #[.int .i64 1, .int .i64 0, .int .i64 0, .int .i64 0, .int .i64 0, .int .i64 0, .int .i64 0] 87)).alloc (.cells #[.slice none 0 0] 39)).alloc (.cells #[.slice none 0 0] 36)).alloc (.cells #[.func (.func 82) #[] #[.pointer (some ⟨w.heap.size + 1, 0, none⟩), .pointer (some ⟨w.heap.size + 1 + 1, 0, none⟩), .pointer (some ⟨w.heap.size, 0, none⟩), .pointer (some ⟨w.heap.size + 1 + 1 + 1, 0, none⟩)]] 148)) = W at *
 have HP := hid HT.out.pos
 have HTW := hid (HT.out.below HLO.out)
 have z := HLN.out.grow.cell 0
 have o0 := HLN.out.ord.cell 0
 have o1 := HLN.out.ord.cell 1
 have o2 := HLN.out.ord.cell 2
 have o3 := HLN.out.ord.cell 3
 have o4 := HLN.out.ord.cell 4
 have o5 := HLN.out.ord.cell 5
 have o6 := HLN.out.ord.cell 6
 simp only [ord1, List.getElem?_toArray, List.getElem?_cons_zero, List.getElem?_cons_succ] at z o0 o1 o2 o3 o4 o5 o6
 have HAL := hid (allOne W.drew)
 unfold ord1 at HAL
 go_region_held3 (fun w' => w'.cell? ⟨w.heap.size + 1 + 1 + 1, 0, none⟩ = some (.func (.func 82) #[] #[.pointer (some ⟨w.heap.size + 1, 0, none⟩), .pointer (some ⟨w.heap.size + 1 + 1, 0, none⟩), .pointer (some ⟨w.heap.size, 0, none⟩), .pointer (some ⟨w.heap.size + 1 + 1 + 1, 0, none⟩)]) ∧ w'.cell? ⟨w.heap.size, 0, none⟩ = some (.int .i64 1) ∧ w'.cell? ⟨w.heap.size, 1, none⟩ = some (.int .i64 0) ∧ w'.cell? ⟨w.heap.size, 2, none⟩ = some (.int .i64 0) ∧ w'.cell? ⟨w.heap.size, 3, none⟩ = some (.int .i64 0) ∧ w'.cell? ⟨w.heap.size, 4, none⟩ = some (.int .i64 0) ∧ w'.cell? ⟨w.heap.size, 5, none⟩ = some (.int .i64 0) ∧ w'.cell? ⟨w.heap.size, 6, none⟩ = some (.int .i64 0)) (first | exact ⟨z, o0, o1, o2, o3, o4, o5, o6⟩ | exact HK.out | exact HK2.out) (first
  | (go_at_call 83; refine (HAL.out).mono ?_; rintro e w5 ⟨rfl, b5⟩; have B5 := hid b5; have HK : Hid (w5.cell? ⟨w.heap.size + 1 + 1 + 1, 0, none⟩ = some (.func (.func 82) #[] #[.pointer (some ⟨w.heap.size + 1, 0, none⟩), .pointer (some ⟨w.heap.size + 1 + 1, 0, none⟩), .pointer (some ⟨w.heap.size, 0, none⟩), .pointer (some ⟨w.heap.size + 1 + 1 + 1, 0, none⟩)]) ∧ w5.cell? ⟨w.heap.size, 0, none⟩ = some (.int .i64 1) ∧ w5.cell? ⟨w.heap.size, 1, none⟩ = some (.int .i64 0) ∧ w5.cell? ⟨w.heap.size, 2, none⟩ = some (.int .i64 0) ∧ w5.cell? ⟨w.heap.size, 3, none⟩ = some (.int .i64 0) ∧ w5.cell? ⟨w.heap.size, 4, none⟩ = some (.int .i64 0) ∧ w5.cell? ⟨w.heap.size, 5, none⟩ = some (.int .i64 0) ∧ w5.cell? ⟨w.heap.size, 6, none⟩ = some (.int .i64 0)) := hid (And.intro (cell_keep b5 z) (And.intro (cell_keep b5 o0) (And.intro (cell_keep b5 o1) (And.intro (cell_keep b5 o2) (And.intro (cell_keep b5 o3) (And.intro (cell_keep b5 o4) (And.intro (cell_keep b5 o5) (cell_keep b5 o6)))))))); clear b5)
  | (go_at_call 82; refine (growOne w.heap.size (w.heap.size + 1) (w.heap.size + 1 + 1) (w.heap.size + 1 + 1 + 1) w5 (HLN.out.keep ((Below.refl _ W).drew.trans B5.out)) (HTW.out.below ((Below.refl _ W).drew.trans B5.out)) (by have := HP.out; omega)).mono ?_; rintro e w6 ⟨rfl, hO, hC⟩; have HO := hid hO; have HC := hid hC; have KO := hid (hC.blk (HLN.out.keep ((Below.refl _ W).drew.trans B5.out)).ord (by omega)); have KG := hid (hC.blk (HLN.out.keep ((Below.refl _ W).drew.trans B5.out)).grow (by omega)); have HK2 : Hid (w6.cell? ⟨w.heap.size + 1 + 1 + 1, 0, none⟩ = some (.func (.func 82) #[] #[.pointer (some ⟨w.heap.size + 1, 0, none⟩), .pointer (some ⟨w.heap.size + 1 + 1, 0, none⟩), .pointer (some ⟨w.heap.size, 0, none⟩), .pointer (some ⟨w.heap.size + 1 + 1 + 1, 0, none⟩)]) ∧ w6.cell? ⟨w.heap.size, 0, none⟩ = some (.int .i64 1) ∧ w6.cell? ⟨w.heap.size, 1, none⟩ = some (.int .i64 0) ∧ w6.cell? ⟨w.heap.size, 2, none⟩ = some (.int .i64 0) ∧ w6.cell? ⟨w.heap.size, 3, none⟩ = some (.int .i64 0) ∧ w6.cell? ⟨w.heap.size, 4, none⟩ = some (.int .i64 0) ∧ w6.cell? ⟨w.heap.size, 5, none⟩ = some (.int .i64 0) ∧ w6.cell? ⟨w.heap.size, 6, none⟩ = some (.int .i64 0)) := hid ⟨KG.out.cell 0, KO.out.cell 0, KO.out.cell 1, KO.out.cell 2, KO.out.cell 3, KO.out.cell 4, KO.out.cell 5, KO.out.cell 6⟩; clear hO hC))
 obtain ⟨O, oc, R, rc, h1, h2, h3⟩ := HO.out
 have x0 := h1.cell 0
 simp only [List.getElem?_toArray, List.getElem?_cons_zero] at x0
 have hlow := HC.out.below (HLO.out.drew.trans (B5.out.mono HLO.out.size)) (Nat.le_trans HLO.out.size B5.out.size) (fun i e => by omega)
 have HLW := hid hlow
 have H2 := hid h2
 have H3 := hid h3
 have H5S := hid (show w.heap.size ≤ w5.heap.size from Nat.le_trans HLO.out.size B5.out.size)
 clear hlow h1 h2 h3
 go_wp2
 go_ret
 exact ⟨O, oc, R, rc, rfl, own_more H2.out H5S.out, own_more H3.out H5S.out, HLW.out⟩
end Go.Proofs.YtapeledneokgpaaGreatDoor
/- Walks of the question roll at one medal, and of awake. Condition: the library's variables stand. -/
namespace Go.Proofs.YtapeledneokgpaaGreatDoor
open Go.RowKit Go.Maps
def sMGold : ByteArray := ⟨#[109, 101, 100, 97, 108, 32, 103, 111, 108, 100]⟩
def sRoll2 : ByteArray := ⟨#[114, 111, 108, 108]⟩
abbrev sGd : ByteArray := ⟨#[103, 111, 108, 100]⟩
/-- The books behind one medal. -/
def sG : Bk := ⟨[sGd], [0], [], [], 0, 0, 0, 1, []⟩
set_option maxRecDepth 100000 in
set_option maxHeartbeats 4000000 in
theorem linesG (A : Option Addr) (c : Nat) (w : World) (hs : Sl w A 1 c [.int .i64 0]) (hT : Tab w) :
 Calls Tryz.prog 15 #[.slice A 1 c] w fun e w' => ∃ O oc R rc, e = .returned (.tuple #[.slice O 1 oc, .int .i64 0]) ∧ w'.ownsRow w.heap.size 36 1 (.slice O 1 oc) 1 [.slice R 1 rc] ∧ w'.ownsRow w.heap.size 3 1 (.slice R 1 rc) 1 [.int .i64 0] ∧ Below w.heap.size w w' := by
 have HR := hid (ordRead 1 (fun _ _ => false) A c w (by omega) (by omega) ⟨fun _ _ => rfl, fun _ _ _ _ _ _ h _ => h⟩ hs hT)
 rw [show ordC 1 (fun _ _ => false) = ord1 from rfl] at HR
 have HT := hid hT
 clear hs hT
 unfold ord1 at HR
 go_enter Tryz.func15, Tryz.ntmps15
 go_wp2_with fail
 refine (HR.out).mono ?_; rintro e w1 ⟨rfl, b1⟩
 have HL := hid (linesOne (w1.alloc (.cells #[.int .i64 1, .int .i64 0, .int .i64 0, .int .i64 0, .int .i64 0, .int .i64 0, .int .i64 0] 87)) ((HT.out.below b1).below ((Below.refl _ w1).alloc (Nat.le_refl _) _)))
 have HB := hid (b1.alloc b1.size (.cells #[.int .i64 1, .int .i64 0, .int .i64 0, .int .i64 0, .int .i64 0, .int .i64 0, .int .i64 0] 87))
 unfold ord1 at HL
 clear b1 HR
 go_wp2_with fail
 refine (HL.out).mono ?_; rintro e w2 ⟨O, oc, R, rc, rfl, h2, h3, b2⟩
 have H2 := hid (own_more h2 HB.out.size)
 have H3 := hid (own_more h3 HB.out.size)
 have HB2 := hid (below_call HB.out b2 HB.out.size)
 clear h2 h3 b2 HL
 go_wp2
 go_ret2
 exact ⟨O, oc, R, rc, rfl, H2.out, H3.out, HB2.out⟩
set_option maxRecDepth 100000 in
set_option maxHeartbeats 4000000 in
theorem rollG : AskC 118 sG [] [] (⟨#[114, 111, 108, 108, 32, 103, 111, 108, 100]⟩, 0) := by
 intro w G nb A0 q0 D0 d0 h hA hD hE hT
 obtain ⟨M, mc, U, uc, Q, pc, T, tc, E, ec, g1, g2, g3, _, _, _, _, _, _, _, _, _⟩ := h.ex
 have B1 := (Below.refl w.heap.size w).alloc (Nat.le_refl _) (.cells #[.slice A0 0 q0, .slice D0 0 d0] 139)
 have HB := hid B1
 have HT := hid (hT.below HB.out)
 have HS1 := hid (g1.keep B1)
 have HS2 := hid (g2.below B1)
 have HS3 := hid (g3.below B1)
 clear h hA hD hE hT g1 g2 g3 B1
 go_enter Tryz.func118, Tryz.ntmps118
 have c0 := HS1.out.cell 0
 have c1 := HS1.out.cell 1
 simp only [stV, sG, List.length_cons, List.length_nil, List.getElem?_toArray, List.getElem?_cons_zero, List.getElem?_cons_succ] at c0 c1
 simp only [sG, List.length_cons, List.length_nil] at HS1 HS2 HS3
 go_wp2_with fail
 generalize w.alloc (.cells #[.slice A0 0 q0, .slice D0 0 d0] 139) = W at *
 have HL := hid (linesG U uc W HS3.out HT.out)
 refine (HL.out).mono ?_; rintro e w2 ⟨O, oc, R, rc, rfl, h2, h3, b2⟩
 have HC0 := hid (cell_keep b2 c0)
 have HM2 := hid (HS2.out.below b2)
 have H3 := hid h3
 have H2 := hid h2
 have HB2 := hid (below_call HB.out b2 HB.out.size)
 clear c0 c1 h2 h3 b2 HL HS1 HS2 HS3 HT HB
 go_wp2_with fail
 have c0 := HC0.out
 obtain ⟨bo, oo, u, hO, lb, e1, ca⟩ := (Sl.of_own H2.out).at (k := 0) (by omega)
 subst hO
 simp only [List.getElem?_cons_zero, Option.some.injEq, Nat.add_zero] at e1 ca
 subst e1
 have hnm := namedF ⟨#[114, 111, 108, 108]⟩ M 1 mc [sGd] R 1 rc [0] w2.drew (HM2.out).drew (Sl.of_own H3.out).drew (fun i hi => by simp at hi; omega) (by decide) (fun s hs => by simp at hs; subst hs; decide) (by omega)
 rw [show nmd ⟨#[114, 111, 108, 108]⟩ [sGd] [0] = ⟨#[114, 111, 108, 108, 32, 103, 111, 108, 100]⟩ from by kernel_rfl] at hnm
 have HNM := hid hnm
 have hcap := (Sl.of_own H2.out).cap
 clear lb hnm
 go_region_held3 (fun w' => w'.cell? ⟨nb, 0, none⟩ = some (.slice M 1 mc) ∧ w'.cell? ⟨bo, oo, none⟩ = some (.slice R 1 rc)) (first | exact ⟨c0, ca⟩ | assumption) (first
  | (go_at_call 167; refine (HNM.out).mono ?_; rintro e w5 ⟨rfl, rfl⟩))
 all_goals go_wp2
 all_goals go_ret2
 exact ⟨rfl, HB2.out.drew⟩
theorem doL_gold : doL bk0 sMGold = (sG, 0) := by kernel_rfl
/-- A mint with one medal is asked for the roll. -/
theorem mintRollQ (R : Nat → Prop) (m : Nat) (d : Value) (L : List (Nat × Nat)) (k : Int) (J : List ByteArray) (out : Bool) (w : World) (hm : MinM w R m d L k sG J out) (he : EnvN w) (hT : Tab w) :
 Calls Tryz.prog 12 #[.pointer (some ⟨m, 0, none⟩), .string sRoll2] w (AskR w (⟨#[114, 111, 108, 108, 32, 103, 111, 108, 100]⟩, 0)) := by
 refine mintAskF R m d L k sG J out sRoll2 _ w hm fun sb hst => ?_
 exact askYes 0 0 118 (by decide) R sb sG sRoll2 [] [] _ (by decide) w he hT hst (by kernel_rfl) (fun args W => enters Tryz.func118 (by kernel_rfl) rfl args W) (by kernel_rfl) (by kernel_rfl) rollG
end Go.Proofs.YtapeledneokgpaaGreatDoor
/- Walk of planchettop's takes. Condition: the library's variables stand. -/
namespace Go.Proofs.YtapeledneokgpaaGreatDoor
open Go.RowKit Go.Maps
theorem run_gold : runD bk0 [] ([sMGold].take 60) = (sG, [sMGold]) := by
 show (if (doL bk0 sMGold).2 ≠ 0 then runD bk0 [] [] else runD (doL bk0 sMGold).1 ([] ++ [sMGold]) []) = (sG, [sMGold])
 rw [doL_gold]
 rfl
set_option maxRecDepth 100000 in
set_option maxHeartbeats 4000000 in
theorem takesF (w : World) (he : EnvN w) (hT : Tab w) :
 Calls Tryz.prog 13 #[] w fun e w' => e = .returned (.bool true) ∧ Below w.heap.size w w' := by
 have hb := (Below.refl w.heap.size w).alloc (Nat.le_refl _) (.cells #[.string sMGold] 9)
 have HB0 := hid hb
 have HT := hid hT
 have HE := hid he
 have hs : Sl (w.alloc (.cells #[.string sMGold] 9)) (some ⟨w.heap.size, 0, none⟩) 1 1 (strV [sMGold]) := Sl.of_own (blk_own (base := 0) (Blk.new w 9 #[.string sMGold]) (Nat.zero_le _) rfl (by omega))
 have hof := openedT (w.alloc (.cells #[.string sMGold] 9)) (some ⟨w.heap.size, 0, none⟩) 1 1 [sMGold] (he.keep hb) (hT.below hb) hs (fun x hx => by simp at hx; subst hx; decide)
 rw [run_gold] at hof
 have HOF := hid hof
 unfold sMGold at HOF
 clear hof hs hb he hT
 go_enter Tryz.func13, Tryz.ntmps13
 go_wp2_with fail
 refine (HOF.out).mono ?_; rintro e w1 ⟨K, m, A, c, L, rfl, hop⟩
 obtain ⟨R, d, hmm, hft⟩ := hop.mm
 have hlow := below_call HB0.out hop.low HB0.out.size
 have HB1 := hid hlow
 have hrq := mintRollQ R m d L 1 _ false w1 hmm (HE.out.keep hlow) (HT.out.below hlow)
 unfold AskR sRoll2 at hrq
 have HA := hid hrq
 clear hop hmm hft hlow hrq HOF
 go_wp2_with fail
 refine (HA.out).mono ?_; rintro e w4 ⟨rfl, b4⟩
 have HB4 := hid (below_call HB1.out b4 HB1.out.size)
 clear b4 HA
 go_wp2
 go_ret
 exact ⟨rfl, HB4.out⟩
end Go.Proofs.YtapeledneokgpaaGreatDoor
/- Walks of words and numbers of planchettop. Conditions: the numbers are below a thousand; the library's variables stand. -/
namespace Go.Proofs.YtapeledneokgpaaGreatDoor
open Go.RowKit Go.Maps
set_option maxRecDepth 100000 in
set_option maxHeartbeats 2000000 in
theorem wordsF (A : Option Addr) (m c : Nat) (l : List Nat) (w : World) (ht : Sl w A m c (nV l)) (hl : ∀ i ∈ l, i < 1000) (hm2 : m ≤ 1000) (he : EnvN w) :
 Calls Tryz.prog 18 #[.slice A m c] w fun x w' => x = .returned (.string (numd ByteArray.empty l)) ∧ Below w.heap.size w w' := by
 have HT := hid ht
 have HLL := hid (show l.length = m by have := ht.len; unfold nV at this; simpa using this)
 have HI := hid hl
 have HEN := hid he
 clear ht hl he
 go_enter Tryz.func18, Tryz.ntmps18
 go_wp2
 go_loopg [3, 8] m (fun gk v i wr => ∃ k : Nat, gk + k = m ∧ i = .int .i64 k ∧ v = .string (numd ByteArray.empty (l.take k)) ∧ Hid ((numd ByteArray.empty (l.take k)).size ≤ 1000 + 4 * k) ∧ Hid (Below w.heap.size w wr))
 case atStart => exact ⟨0, by omega, rfl, rfl, hid (by show (0 : Nat) ≤ _; omega), hid (Below.refl _ _)⟩
 case round =>
  obtain ⟨k, hk, rfl, rfl, HSZ, HB⟩ := hrel
  have HK := hid hk
  by_cases hlt : k < m
  · have HLT := hid hlt
    obtain ⟨b, o, u, rfl, lb, e1, ca⟩ := (HT.out.below HB.out).at hlt
    unfold nV at e1
    rw [List.getElem?_map] at e1
    obtain ⟨i, hi, rfl⟩ := Option.map_eq_some_iff.1 e1
    have hin := HI.out i (List.mem_of_getElem? hi)
    have HST := hid (show numd ByteArray.empty (l.take (k + 1)) = numd ByteArray.empty (l.take k) ++ (⟨#[32]⟩ ++ itoaB i) by
     rw [List.take_add_one, hi, Option.toList_some, numd_snoc])
    have hz := itoaB_size hin
    have HIT := hid (itoaAny (i : Nat) (by omega) (by omega) wr (HEN.out.keep HB.out))
    have hsz := HSZ.out
    have hdef : (⟨(Lib.itoa (i : Int)).toArray⟩ : ByteArray) = itoaB i := rfl
    rw [hdef] at HIT
    generalize numd ByteArray.empty (l.take k) = v at *
    generalize itoaB i = s at *
    have h1s : (⟨#[32]⟩ ++ s : ByteArray).size = 1 + s.size := by rw [ByteArray.size_append]; rfl
    have cat1 : ∀ W : World, (Op.stringOp .add ⟨#[32]⟩ s).run Tryz.prog W = .ok (.string (⟨#[32]⟩ ++ s)) W := fun W => run_string_add_sum W _ _ (by have : (ByteArray.mk #[32]).size = 1 := rfl; omega)
    have cat2 : ∀ W : World, (Op.stringOp .add v (⟨#[32]⟩ ++ s)).run Tryz.prog W = .ok (.string (v ++ (⟨#[32]⟩ ++ s))) W := fun W => run_string_add_sum W _ _ (by omega)
    have HS2 := hid (show (v ++ (⟨#[32]⟩ ++ s)).size ≤ 1000 + 4 * (k + 1) by rw [ByteArray.size_append]; omega)
    clear hk e1 hi lb hsz hdef
    go_wp2_with fail
    refine (HIT.out).mono ?_; rintro e w2 ⟨rfl, b2⟩
    have HB2 := hid (below_call HB.out b2 HB.out.size)
    clear HIT b2
    go_wp2
    go_roundg (gk - 1)
    case measure => have := HK.out; have := HLT.out; omega
    case rel => exact ⟨k + 1, by have := HK.out; have := HLT.out; omega, by go_num, by rw [HST.out], by rw [HST.out]; exact HS2, HB2⟩
  · obtain rfl : k = m := by have := HK.out; omega
    have e : l.take k = l := List.take_of_length_le (by have := HLL.out; omega)
    rw [e]
    clear hk e
    go_wp2
    go_ret
    exact ⟨rfl, HB.out⟩
theorem atoi_num {x : ByteArray} {v : Nat} (h : numOf x = some v) : Lib.atoiAll x.data.toList = .ok (v : Int) := by
 unfold numOf at h
 split at h
 · rename_i v' hv
   split at h
   · rename_i hc
     cases h
     rw [hv, show ((v'.toNat : Nat) : Int) = v' by omega]
   · cases h
 · cases h
theorem atoiNum (x : ByteArray) (v : Nat) (h : numOf x = some v) (hx : x.size ≤ 1000000000) (w : World) (he : EnvN w) :
 Calls Tryz.prog 60 #[.string x] w fun e w' => e = .returned (.tuple #[.int .i64 (v : Nat), .nilIface]) ∧ Below w.heap.size w w' := by
 refine (atoiAny x hx w he).mono ?_
 rintro e w' ⟨v', r, rfl, ⟨rfl, h2⟩ | ⟨N, rfl, h2⟩, hb⟩
 · rw [atoi_num h] at h2
   cases h2
   exact ⟨rfl, hb⟩
 · rw [h] at h2; cases h2
set_option maxRecDepth 100000 in
set_option maxHeartbeats 2000000 in
theorem numbersF (A : Option Addr) (m c : Nat) (l : List ByteArray) (ns : List Nat) (w : World) (ht : Sl w A m c (strV l)) (hl : l.map numOf = ns.map some) (hz : ∀ x ∈ l, x.size ≤ 1000) (hm2 : m ≤ 1000) (he : EnvN w) :
 Calls Tryz.prog 29 #[.slice A m c] w fun x w' => ∃ O oc, x = .returned (.slice O m oc) ∧ w'.ownsRow w.heap.size 3 1 (.slice O m oc) m (nV ns) ∧ Below w.heap.size w w' := by
 have HT := hid ht
 have hll : l.length = m := by have := ht.len; unfold strV at this; simpa using this
 have HLL := hid hll
 have HI := hid hl
 have HZ := hid hz
 have HEN := hid he
 have hnl : ns.length = m := by have := congrArg List.length hl; simp at this; omega
 have HNL := hid hnl
 clear ht hl he hz hnl hll
 go_enter Tryz.func29, Tryz.ntmps29
 go_wp2
 go_loopg [3, 10] m (fun gk v i wr => ∃ (k : Nat) (O : Option Addr) (oc : Nat), gk + k = m ∧ i = .int .i64 k ∧ v = .slice O k oc ∧ Hid (wr.ownsRow w.heap.size 3 1 (.slice O k oc) k (nV (ns.take k))) ∧ Hid (Below w.heap.size w wr))
 case atStart => exact ⟨0, none, 0, by omega, rfl, rfl, hid (World.ownsRow_nil _ _ _ _), hid (Below.refl _ _)⟩
 case round =>
  obtain ⟨k, O, oc, hk, rfl, rfl, HO, HB⟩ := hrel
  have HK := hid hk
  by_cases hlt : k < m
  · have HLT := hid hlt
    obtain ⟨b, o, u, rfl, lb, e1, ca⟩ := (HT.out.below HB.out).at hlt
    obtain ⟨x, hx, rfl⟩ := strV_at e1
    have hkn : k < ns.length := by rw [HNL.out]; exact hlt
    have hnx : numOf x = some ns[k] := by
     have h1 : (l.map numOf)[k]? = some (numOf x) := by rw [List.getElem?_map, hx]; rfl
     rw [HI.out, List.getElem?_map, List.getElem?_eq_getElem hkn] at h1
     exact (Option.some.inj h1).symm
    have HST := hid (show ns.take (k + 1) = ns.take k ++ [ns[k]] by rw [List.take_add_one, List.getElem?_eq_getElem hkn]; rfl)
    have HAT := hid (atoiNum x _ hnx (by have := HZ.out x (List.mem_of_getElem? hx); omega) wr (HEN.out.keep HB.out))
    generalize ns[k] = v at *
    clear hk e1 hx lb hnx
    go_wp2_with fail
    refine (HAT.out).mono ?_; rintro e w2 ⟨rfl, b2⟩
    have HB2 := hid (below_call HB.out b2 HB.out.size)
    have HO2 := hid (own_below HO.out b2)
    clear HAT b2 HO
    go_wp2_with (at_builtin; refine push1L TI27 w2 #[.int .i64 (v : Nat)] w.heap.size _ _ _ HO2.out _ _ w2.heap.size rfl rfl rfl rfl rfl rfl (by simp [Value.oneCell']) (by omega) (by omega) HB2.out.size ?_; intro v1 w8 hown1 hgr hap; obtain ⟨O8, c8, rfl⟩ := own_form hown1; have HO8 := hid (show w8.ownsRow w.heap.size 3 1 (.slice O8 (k + 1) c8) (k + 1) (nV (ns.take k ++ [v])) from by rw [← nV_push]; exact hown1); have HB8 := hid (HB2.out.grown hgr HB2.out.size (fun g hg => (HO2.out.lt g hg).1)); clear hown1 hgr hap)
    go_roundg (gk - 1)
    case measure => have := HK.out; have := HLT.out; omega
    case rel => exact ⟨k + 1, O8, c8, by have := HK.out; have := HLT.out; omega, by go_num, rfl, by rw [HST.out]; exact HO8, HB8⟩
  · obtain rfl : k = m := by have := HK.out; omega
    rw [List.take_of_length_le (by have := HNL.out; omega)] at HO
    clear hk hlt
    go_wp2
    go_ret
    exact ⟨_, _, rfl, HO.out, HB.out⟩
end Go.Proofs.YtapeledneokgpaaGreatDoor
