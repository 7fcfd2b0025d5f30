/- Walks of order's Lines at one element, of roll, and of ask and Ask at 'roll'. Conditions: the library's table of 64 numbers and MaxLen stand in their variables. -/
import Derived.Test.YtkjinamjdjijcaaGreatDoorLines1
import Derived.Test.YtkjinamjdjijcaaGreatDoorDo2
namespace Go.Proofs.YtkjinamjdjijcaaGreatDoor
open Go.RowKit Go.Maps

set_option maxRecDepth 100000 in
set_option maxHeartbeats 4000000 in
theorem linesF (A : Option Addr) (c : Nat) (w : World) (hs : Sl w A 1 c [.int .i64 0]) (hT : Tab w) :
    Calls Tryz.prog 96 #[.slice A 1 c] w fun e w' => ∃ O oc R rc, e = .returned (.tuple #[.slice O 1 oc, .int .i64 0]) ∧ w'.ownsRow w.heap.size 98 1 (.slice O 1 oc) 1 [.slice R 1 rc] ∧ w'.ownsRow w.heap.size 3 1 (.slice R 1 rc) 1 [.int .i64 0] ∧ Below w.heap.size w w' := by
  have HR := hid (orderRead1 A c w hs hT)
  have HT := hid hT
  clear hs hT
  unfold ord1 at HR
  go_enter Tryz.func96, Tryz.ntmps96
  go_wp2_with fail
  refine (HR.out).mono ?_; rintro e w1 ⟨rfl, b1⟩
  have HL := hid (linesOne (w1.alloc (.cells #[.int .i64 1, .int .i64 0, .int .i64 0, .int .i64 0, .int .i64 0, .int .i64 0, .int .i64 0] 174)) ((HT.out.below b1).below ((Below.refl _ w1).alloc (Nat.le_refl _) _)))
  have HB := hid (b1.alloc b1.size (.cells #[.int .i64 1, .int .i64 0, .int .i64 0, .int .i64 0, .int .i64 0, .int .i64 0, .int .i64 0] 174))
  unfold ord1 at HL
  clear b1 HR
  go_wp2_with fail
  refine (HL.out).mono ?_; rintro e w2 ⟨O, oc, R, rc, rfl, h2, h3, b2⟩
  have H2 := hid (own_more h2 HB.out.size)
  have H3 := hid (own_more h3 HB.out.size)
  have HB2 := hid (below_call HB.out b2 HB.out.size)
  clear h2 h3 b2 HL
  go_wp2
  go_ret2
  exact ⟨O, oc, R, rc, rfl, H2.out, H3.out, HB2.out⟩
set_option maxRecDepth 100000 in
set_option maxHeartbeats 4000000 in
theorem rollF (A0 : Option Addr) (q0 : Nat) (nb B : Nat) (M : Option Addr) (mc : Nat) (U : Option Addr) (uc : Nat) (w : World) (h : StG w nb B M mc U uc) (hT : Tab w) :
    Calls Tryz.prog 62 #[.pointer (some ⟨nb, 0, none⟩), .agg #[.slice A0 0 q0, .slice none 0 0]] w fun e w' => e = .returned (.tuple #[.string ⟨#[114, 111, 108, 108, 32, 103, 111, 108, 100]⟩, .int .i64 0]) ∧ Below w.heap.size w w' := by
  have HS := hid (h.keep ((Below.refl _ w).alloc (Nat.le_refl _) (.cells #[.slice A0 0 q0, .slice none 0 0] 108)))
  have HB := hid ((Below.refl w.heap.size w).alloc (Nat.le_refl _) (.cells #[.slice A0 0 q0, .slice none 0 0] 108))
  have HT := hid (hT.below HB.out)
  clear h hT
  go_enter Tryz.func62, Tryz.ntmps62
  have c0 := HS.out.blk.cell 0
  have c1 := HS.out.blk.cell 1
  simp only [stC, List.getElem?_toArray, List.getElem?_cons_zero, List.getElem?_cons_succ] at c0 c1
  go_wp2_with fail
  generalize w.alloc (.cells #[.slice A0 0 q0, .slice none 0 0] 108) = W at *
  have HL := hid (linesF U uc W (Sl.of_own HS.out.abv) HT.out)
  clear c0 c1
  refine (HL.out).mono ?_; rintro e w2 ⟨O, oc, R, rc, rfl, h2, h3, b2⟩
  have HS2 := hid (HS.out.keep b2)
  have H3 := hid h3
  have H2 := hid h2
  have HB2 := hid (below_call HB.out b2 HB.out.size)
  clear h2 h3 b2 HL HS HT HB
  go_wp2_with fail
  have c0 := HS2.out.blk.cell 0
  simp only [stC, List.getElem?_toArray, List.getElem?_cons_zero] at c0
  obtain ⟨bo, oo, u, hO, lb, e1, ca⟩ := (Sl.of_own H2.out).at (k := 0) (by omega)
  subst hO
  simp only [List.getElem?_cons_zero, Option.some.injEq, Nat.add_zero] at e1 ca
  subst e1
  have hnm := namedF ⟨#[114, 111, 108, 108]⟩ M 1 mc [sGold] R 1 rc [0] w2.drew (Sl.of_own HS2.out.med).drew (Sl.of_own H3.out).drew (fun i hi => by simp at hi; omega) (by decide) (fun s hs => by simp at hs; subst hs; decide) (by omega)
  rw [show nmd ⟨#[114, 111, 108, 108]⟩ [sGold] [0] = ⟨#[114, 111, 108, 108, 32, 103, 111, 108, 100]⟩ from by kernel_rfl] at hnm
  have HNM := hid hnm
  have hcap := (Sl.of_own H2.out).cap
  clear lb hnm
  go_region_held3 (fun w' => w'.cell? ⟨nb, 0, none⟩ = some (.slice M 1 mc) ∧ w'.cell? ⟨bo, oo, none⟩ = some (.slice R 1 rc)) (first | exact ⟨c0, ca⟩ | assumption) (first
    | (go_at_call 97; refine (HNM.out).mono ?_; rintro e w5 ⟨rfl, rfl⟩))
  all_goals go_wp2
  all_goals go_ret2
  exact ⟨rfl, HB2.out.drew⟩
set_option maxRecDepth 100000 in
set_option maxHeartbeats 4000000 in
theorem askR (nb B : Nat) (M : Option Addr) (mc : Nat) (U : Option Addr) (uc : Nat) (w : World) (h : StG w nb B M mc U uc) (hT : Tab w) (hm : MaxL w) :
    Calls Tryz.prog 37 #[.pointer (some ⟨nb, 0, none⟩), .string sRoll] w fun e w' => e = .returned (.tuple #[.string ⟨#[114, 111, 108, 108, 32, 103, 111, 108, 100]⟩, .int .i64 0]) ∧ Below w.heap.size w w' := by
  have HC := hid (questionsF w)
  have HM := hid hm
  have HS := hid h
  have HT := hid hT
  have he : ∀ args W, (callFunc 62 args).run Tryz.prog W = .ok (.enter 62 args) W := fun args W => enters Tryz.func62 (by kernel_rfl) rfl args W
  clear hm h hT
  go_enter Tryz.func37, Tryz.ntmps37
  go_wp2_with fail
  refine (HC.out).mono ?_; rintro e w1 ⟨bm, rfl, hmap, hb, b1⟩
  have HB1 := hid b1
  have HF := hid (findAsk bm (asS questionsL) sRoll sRoll 0 0 62 0 [] w1 (HM.out.keep b1) hmap word_R (by kernel_rfl) (key_str _ (by decide)) (read_R _ _) line_R)
  clear hmap hb b1 HC
  go_wp2_with fail
  refine (HF.out).mono ?_; rintro e w2 ⟨A, c, rfl, ho, b2⟩
  have HB2 := hid (below_call HB1.out b2 HB1.out.size)
  clear ho b2 HF
  have b3 := (HB2.out.alloc HB2.out.size (.cells #[.int .i64 0, .int .i64 0, .nilFunc, .func (.func 62) #[] #[]] 106)).alloc (by have := HB2.out.size; simp; omega) (.cells #[.slice A 0 c, .slice none 0 0] 108)
  have HRO := hid (rollF A c nb B M mc U uc _ (HS.out.keep b3) (HT.out.below b3))
  have HB3 := hid b3
  clear b3
  go_wp2_with fail
  refine (HRO.out).mono ?_; rintro e w4 ⟨rfl, b4⟩
  have HB4 := hid (below_call HB3.out b4 HB3.out.size)
  clear b4
  go_wp2
  go_ret2
  exact ⟨rfl, HB4.out⟩
set_option maxRecDepth 100000 in
set_option maxHeartbeats 4000000 in
theorem mintAsk (m : Nat) (a : Value) (k : Int) (nb B : Nat) (d : Value) (M : Option Addr) (mc : Nat) (U : Option Addr) (uc : Nat) (w : World) (hmi : MintB w m a k nb d false) (h : StG w nb B M mc U uc) (hT : Tab w) (hm : MaxL w) :
    Calls Tryz.prog 17 #[.pointer (some ⟨m, 0, none⟩), .string sRoll] w fun e w' => e = .returned (.tuple #[.string ⟨#[114, 111, 108, 108, 32, 103, 111, 108, 100]⟩, .int .i64 0]) ∧ Below w.heap.size w w' := by
  have HN := hid (mintNone m a k nb d false w hmi)
  have HA := hid (askR nb B M mc U uc w h hT hm)
  have c2 := hmi.cell 2
  simp only [List.getElem?_toArray, List.getElem?_cons_zero, List.getElem?_cons_succ] at c2
  clear hmi h hT hm
  go_enter Tryz.func17, Tryz.ntmps17
  go_wp2_with fail
  refine (HN.out).mono ?_; rintro e w' ⟨rfl, rfl⟩
  go_wp2_with fail
  refine (HA.out).mono ?_; rintro e w2 ⟨rfl, b2⟩
  have HB2 := hid b2
  clear b2
  go_wp2
  go_ret2
  exact ⟨rfl, HB2.out⟩
end Go.Proofs.YtkjinamjdjijcaaGreatDoor
