/- Walk of evade.Spread. Conditions: the slice reads as numbers; the table of the library stands. -/
import Derived.Test.YtjddbglbodkihaaDoorPropW
import Derived.Test.YtjddbglbodkihaaDoorPartW
namespace Go.Proofs.YtjddbglbodkihaaDoor
open Go.RowKit

set_option maxRecDepth 100000 in
set_option maxHeartbeats 2000000 in
theorem spreadNo (m : Nat) (A : Option Addr) (k c : Nat) (xs : List Int) (w : World) (hm2 : 2 ≤ m) (hm : m ≤ 4) (hs : Sl w A k c (xs.map (Value.int .i64))) (H : ¬ SetsP (nP m : Nat) xs) :
    Calls Tryd.prog 44 #[.int .i64 m, .slice A k c] w fun e w' => e = .returned (.tuple #[.slice none 0 0, .int .i64 2]) ∧ Below w.heap.size w w' := by
  have HN := hid fun W => isNodesS m W
  rw [show decide (2 ≤ (m : Int) ∧ (m : Int) ≤ 4) = true from decide_eq_true ⟨by omega, by omega⟩] at HN
  have HP := hid (pairsS m w hm)
  have HR := hid fun W (hb : Below w.heap.size w W) => collectAny (nP m : Nat) A k c xs W (hs.below hb) H
  have hnp : (pairsL m).length = nP m := rfl
  rw [hnp] at HP
  generalize nP m = n at *
  clear hs H hnp
  go_enter Tryd.func44, Tryd.ntmps44
  go_wp2_with fail
  refine (HN.out _).mono ?_; rintro e w' ⟨rfl, rfl⟩
  go_wp2_with fail
  refine (HP.out).mono ?_; rintro e w1 ⟨A1, c1, rfl, _, hb⟩
  have HB1 := hid hb
  clear hb
  go_wp2_with fail
  refine (HR.out _ HB1.out).mono ?_; rintro e w2 ⟨⟨G, rfl⟩, hb⟩
  have HB2 := hid ((below_call HB1.out hb HB1.out.size).alloc (below_call HB1.out hb HB1.out.size).size (.cells #[.int .i64 n, .int .u64 G] 72))
  clear hb
  go_wp2
  go_ret2
  exact ⟨rfl, HB2.out⟩
set_option maxRecDepth 100000 in
set_option maxHeartbeats 2000000 in
theorem spreadYes (m : Nat) (A : Option Addr) (k c : Nat) (xs : List Int) (w : World) (hm2 : 2 ≤ m) (hm : m ≤ 4) (hs : Sl w A k c (xs.map (Value.int .i64))) (hT : Tab w) (H : SetsP (nP m : Nat) xs) :
    Calls Tryd.prog 44 #[.int .i64 m, .slice A k c] w fun e w' => (∃ (G : Nat) (A' : Option Addr) (c' : Nat), e = .returned (.tuple #[.slice A' (famL 64 G.testBit).length c', .int .i64 0]) ∧ Spr m (setF xs) G ∧ w'.ownsRow w.heap.size 3 1 (.slice A' (famL 64 G.testBit).length c') (famL 64 G.testBit).length ((famL 64 G.testBit).map (Value.int .i64))) ∧ Below w.heap.size w w' := by
  have HN := hid fun W => isNodesS m W
  rw [show decide (2 ≤ (m : Int) ∧ (m : Int) ≤ 4) = true from decide_eq_true ⟨by omega, by omega⟩] at HN
  have HP := hid (pairsS m w hm)
  have h1 := H.n1; have h6 := H.n6; have hl := hs.numlen; have hle := H.len
  have hlt : setF xs < 2 ^ (2 ^ nP m) := setF_lt H.bdn
  have HOK := H.ok
  have HC := hid fun W (hb : Below w.heap.size w W) => collectF (nP m) A k c xs W (by omega) (by omega) (by omega) (hs.below hb)
  rw [HOK] at HC
  have HS := hid fun W (hb : Below w.heap.size w W) => spreadF m (setF xs) W hm2 hm hlt (hT.below hb)
  have HLI := hid fun (G : Nat) W (hG : G < 18446744073709551616) (hb : Below w.heap.size w W) => listF (nP m : Nat) G W hG (hT.below hb)
  have HG := hid fun G (h : Spr m (setF xs) G) => fam64 (show nP m ≤ 6 by omega) h.lt
  have hnp : (pairsL m).length = nP m := rfl
  rw [hnp] at HP
  generalize setF xs = F at *
  generalize nP m = n at *
  clear hs hT H hnp hlt HOK h1 h6 hl hle
  go_enter Tryd.func44, Tryd.ntmps44
  go_wp2_with fail
  refine (HN.out _).mono ?_; rintro e w' ⟨rfl, rfl⟩
  go_wp2_with fail
  refine (HP.out).mono ?_; rintro e w1 ⟨A1, c1, rfl, _, hb⟩
  have HB1 := hid hb
  clear hb
  go_wp2_with fail
  refine (HC.out _ HB1.out).mono ?_; rintro e w2 ⟨⟨F2, rfl, hF2⟩, hb⟩
  obtain rfl := hF2 trivial
  have HB2 := hid ((below_call HB1.out hb HB1.out.size).alloc (below_call HB1.out hb HB1.out.size).size (.cells #[.int .i64 n, .int .u64 F2] 72))
  clear hb hF2
  go_wp2_with fail
  refine (HS.out _ HB2.out).mono ?_; rintro e w3 ⟨⟨G, rfl, hsp⟩, hb⟩
  have HB3 := hid (below_call HB2.out hb HB2.out.size)
  have HSP := hid hsp
  clear hb hsp
  go_wp2_with fail
  refine (HLI.out G _ (HG.out G HSP.out) HB3.out).mono ?_; rintro e w4 ⟨A4, c4, rfl, ho, hb⟩
  have HB4 := hid (below_call HB3.out hb HB3.out.size)
  have HO := hid (own_more ho HB3.out.size)
  clear hb ho
  go_wp2
  go_ret2
  exact ⟨⟨G, A4, c4, rfl, HSP.out, HO.out⟩, HB4.out⟩
end Go.Proofs.YtjddbglbodkihaaDoor
