/- Walk of awake: a mint on three new copies takes a medal, and rolls it. Conditions: the library's table of 64 numbers and MaxLen stand in their variables. -/
import Derived.Test.YtkjinamjdjijcaaGreatDoorRoll
namespace Go.Proofs.YtkjinamjdjijcaaGreatDoor
open Go.RowKit Go.Maps

set_option maxRecDepth 100000 in
set_option maxHeartbeats 4000000 in
theorem awakeF (w : World) (hT : Tab w) (hm : MaxL w) :
    Calls Tryz.prog 8 #[] w fun e w' => e = .returned (.bool true) ∧ Below w.heap.size w w' := by
  have HC := hid (copies3 w)
  have HT := hid hT
  have HM := hid hm
  clear hT hm
  go_enter Tryz.func8, Tryz.ntmps8
  go_wp2_with fail
  refine (HC.out).mono ?_; rintro e w1 ⟨a, r, rfl, ⟨L, M, h1, h2, h3, h4, h5⟩, b1⟩
  obtain ⟨A, c, rfl⟩ := own_form h1
  have HB1 := hid b1
  have HL := hid h3
  have HLEN := hid (show L.length = 3 from by have := h1.1; simpa [ptrs] using this)
  have HO := hid (openNew A 3 c L w.heap.size w1 (Or.inl rfl) (Sl.of_own h1) h3)
  clear h1 h2 h3 h4 h5 b1 HC
  go_wp2_with fail
  refine (HO.out).mono ?_; rintro e w2 ⟨m, sb, a2, r2, rfl, hop⟩
  obtain ⟨A2, c2, rfl⟩ := own_form hop.own1
  have hlow : Below w.heap.size w w2 := hop.chs.below HB1.out HB1.out.size (fun i hi => by
    obtain ⟨p, hp, rfl⟩ := List.mem_map.1 hi
    exact (HL.out.cpm p hp).2.1)
  have HLO := hid hlow
  have HDO := hid (mintDo w w2 m sb A2 c2 L HM.out hlow (Nat.le_trans HB1.out.size hop.hm) hop.mint hop.st (own_more hop.own1 HB1.out.size) (fun i p hp => by
    have := hop.cp i p hp
    rwa [if_pos (by have := (List.getElem?_eq_some_iff.1 hp).1; have := HLEN.out; omega)] at this) (fun p hp => (HL.out.cpm p hp).2) HL.out.nod1 HL.out.nod2)
  clear hop hlow HO
  go_wp2_with fail
  refine (HDO.out).mono ?_; rintro e w3 ⟨nb, M1, mc, U, uc, D, dc, rfl, hmi, hst, b3⟩
  have HA := hid (mintAsk m _ 1 nb w.heap.size _ M1 mc U uc w3 hmi hst (HT.out.below b3) (HM.out.keep b3))
  have HB3 := hid b3
  clear hmi hst b3 HDO
  go_wp2_with fail
  refine (HA.out).mono ?_; rintro e w4 ⟨rfl, b4⟩
  have HB4 := hid (below_call HB3.out b4 HB3.out.size)
  clear b4 HA
  go_wp2
  go_ret
  exact ⟨rfl, HB4.out⟩
end Go.Proofs.YtkjinamjdjijcaaGreatDoor
