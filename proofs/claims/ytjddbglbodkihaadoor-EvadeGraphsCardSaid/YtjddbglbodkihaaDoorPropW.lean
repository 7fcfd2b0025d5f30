/- Walks of evade.Property and evade.Spread. Conditions: the slice reads as numbers; the table of the library stands. -/
import Derived.Test.YtjddbglbodkihaaDoorSpW
import Derived.Test.YtjddbglbodkihaaDoorReadP
namespace Go.Proofs.YtjddbglbodkihaaDoor
open Go.RowKit
attribute [local go_sem] eq72

set_option maxRecDepth 100000 in
set_option maxHeartbeats 1000000 in
theorem propertyOff (m : Int) (v : Value) (w : World) (h : ¬ (2 ≤ m ∧ m ≤ 4)) :
    Calls Tryd.prog 43 #[.int .i64 m, v] w fun e w' => e = .returned (.tuple #[.bool false, .int .i64 2]) ∧ w = w' := by
  have HN := hid fun W => isNodesS m W
  rw [show decide (2 ≤ m ∧ m ≤ 4) = false from decide_eq_false h] at HN
  clear h
  go_enter Tryd.func43, Tryd.ntmps43
  go_wp2_with fail
  refine (HN.out _).mono ?_; rintro e w' ⟨rfl, rfl⟩
  go_wp2
  go_ret2
  exact ⟨rfl, rfl⟩
set_option maxRecDepth 100000 in
set_option maxHeartbeats 1000000 in
theorem spreadOff (m : Int) (v : Value) (w : World) (h : ¬ (2 ≤ m ∧ m ≤ 4)) :
    Calls Tryd.prog 44 #[.int .i64 m, v] w fun e w' => e = .returned (.tuple #[.slice none 0 0, .int .i64 2]) ∧ w = w' := by
  have HN := hid fun W => isNodesS m W
  rw [show decide (2 ≤ m ∧ m ≤ 4) = false from decide_eq_false h] at HN
  clear h
  go_enter Tryd.func44, Tryd.ntmps44
  go_wp2_with fail
  refine (HN.out _).mono ?_; rintro e w' ⟨rfl, rfl⟩
  go_wp2
  go_ret2
  exact ⟨rfl, rfl⟩
set_option maxRecDepth 100000 in
set_option maxHeartbeats 2000000 in
theorem propertyNo (m : Nat) (A : Option Addr) (k c : Nat) (xs : List Int) (w : World) (hm2 : 2 ≤ m) (hm : m ≤ 4) (hs : Sl w A k c (xs.map (Value.int .i64))) (hT : Tab w) (H : ¬ Fam (nP m : Nat) xs) :
    Calls Tryd.prog 43 #[.int .i64 m, .slice A k c] w fun e w' => e = .returned (.tuple #[.bool false, .int .i64 2]) ∧ Below w.heap.size w w' := by
  have HN := hid fun W => isNodesS m W
  rw [show decide (2 ≤ (m : Int) ∧ (m : Int) ≤ 4) = true from decide_eq_true ⟨by omega, by omega⟩] at HN
  have HP := hid (pairsS m w hm)
  have HR := hid fun W (hb : Below w.heap.size w W) => readNo (nP m : Nat) A k c xs W (hs.below hb) (hT.below hb) H
  have hnp : (pairsL m).length = nP m := rfl
  rw [hnp] at HP
  generalize nP m = n at *
  clear hs hT H hnp
  go_enter Tryd.func43, Tryd.ntmps43
  go_wp2_with fail
  refine (HN.out _).mono ?_; rintro e w' ⟨rfl, rfl⟩
  go_wp2_with fail
  refine (HP.out).mono ?_; rintro e w1 ⟨A1, c1, rfl, _, hb⟩
  have HB1 := hid hb
  clear hb
  go_wp2_with fail
  refine (HR.out _ HB1.out).mono ?_; rintro e w2 ⟨⟨G, rfl⟩, hb⟩
  have HB2 := hid ((below_call HB1.out hb HB1.out.size).alloc (below_call HB1.out hb HB1.out.size).size (.cells #[.int .i64 n, .int .u64 G] 72))
  clear hb
  go_wp2
  go_ret2
  exact ⟨rfl, HB2.out⟩
set_option maxRecDepth 100000 in
set_option maxHeartbeats 2000000 in
theorem propertyYes (m : Nat) (A : Option Addr) (k c : Nat) (xs : List Int) (w : World) (hm2 : 2 ≤ m) (hm : m ≤ 4) (hs : Sl w A k c (xs.map (Value.int .i64))) (hT : Tab w) (H : Fam (nP m : Nat) xs) :
    Calls Tryd.prog 43 #[.int .i64 m, .slice A k c] w fun e w' => (∃ b, e = .returned (.tuple #[.bool b, .int .i64 0]) ∧ (b = true ↔ Exch m (setF xs))) ∧ Below w.heap.size w w' := by
  have HN := hid fun W => isNodesS m W
  rw [show decide (2 ≤ (m : Int) ∧ (m : Int) ≤ 4) = true from decide_eq_true ⟨by omega, by omega⟩] at HN
  have HP := hid (pairsS m w hm)
  have HR := hid fun W (hb : Below w.heap.size w W) => readYes (nP m) A k c xs W (hs.below hb) (hT.below hb) H
  have HS := hid fun W (hb : Below w.heap.size w W) => spreadF m (setF xs) W hm2 hm H.lt (hT.below hb)
  have HI := hid fun G (h : Spr m (setF xs) G) => h.same H.lt
  have hdn : DownN (nP m) (setF xs) := fun s x hx hss => by
    have := H.rm hx hss
    exact this
  have HD := hid hdn
  have hnp : (pairsL m).length = nP m := rfl
  rw [hnp] at HP
  generalize setF xs = F at *
  generalize nP m = n at *
  clear hs hT H hnp hdn
  go_enter Tryd.func43, Tryd.ntmps43
  go_wp2_with fail
  refine (HN.out _).mono ?_; rintro e w' ⟨rfl, rfl⟩
  go_wp2_with fail
  refine (HP.out).mono ?_; rintro e w1 ⟨A1, c1, rfl, _, hb⟩
  have HB1 := hid hb
  clear hb
  go_wp2_with fail
  refine (HR.out _ HB1.out).mono ?_; rintro e w2 ⟨rfl, hb⟩
  have HB2 := hid ((below_call HB1.out hb HB1.out.size).alloc (below_call HB1.out hb HB1.out.size).size (.cells #[.int .i64 n, .int .u64 F] 72))
  have HK2 := hid (Blk.new w2 72 #[.int .i64 n, .int .u64 F])
  clear hb
  go_wp2_with fail
  generalize w2.alloc (.cells #[.int .i64 n, .int .u64 F] 72) = W2 at *
  have f0 := HK2.out.cell 0; have f1 := HK2.out.cell 1
  simp only [List.getElem?_toArray, List.getElem?_cons_zero, List.getElem?_cons_succ] at f0 f1
  have HBD := hid HB2.out.drew
  have HKD := hid HK2.out.drew
  generalize w2.heap.size = X at *
  by_cases hE : Exch m F
  · have HS2 := hid fun W (hb : Below w.heap.size w W) => (show Calls Tryd.prog 83 #[.agg #[.int .i64 n, .int .u64 F], .int .i64 m] W fun e w' => e = .returned (.agg #[.int .i64 n, .int .u64 F]) ∧ Below W.heap.size W w' from
      (HS.out W hb).mono fun e w' ⟨⟨G, he, hsp⟩, hbb⟩ => ⟨by rw [he, (HI.out G hsp).2 ⟨HD.out, hE⟩], hbb⟩)
    have ge : ((n : Int) == n && (F : Int) == F) = true := by simp
    have HEE := hid hE
    clear hE
    go_region_with (go_at_call 83; refine (HS2.out _ HBD.out).mono ?_; rintro e w3 ⟨rfl, hb⟩; have HB3 := hid (below_call HBD.out hb HBD.out.size); have HK3 := HKD.out.keep hb; have g0 := HK3.cell 0; have g1 := HK3.cell 1; simp only [List.getElem?_toArray, List.getElem?_cons_zero, List.getElem?_cons_succ] at g0 g1; clear hb HK3)
    all_goals go_wp2
    all_goals go_ret2
    all_goals exact ⟨⟨true, rfl, ⟨fun _ => HEE.out, fun _ => rfl⟩⟩, by first | exact HB3.out | exact HB3.out.drew⟩
  · have HS2 := hid fun W (hb : Below w.heap.size w W) => (show Calls Tryd.prog 83 #[.agg #[.int .i64 n, .int .u64 F], .int .i64 m] W fun e w' => ∃ G : Nat, e = .returned (.agg #[.int .i64 n, .int .u64 G]) ∧ ((n : Int) == n && (G : Int) == F) = false ∧ ((G : Int) == F) = false ∧ (G == F) = false ∧ Below W.heap.size W w' from
      (HS.out W hb).mono fun e w' ⟨⟨G, he, hsp⟩, hbb⟩ => (by
        have hne : G ≠ F := fun h => hE ((HI.out G hsp).1 h).2
        have h1 : ((G : Int) == F) = false := by rw [beq_eq_false_iff_ne]; omega
        exact ⟨G, he, by rw [h1]; simp, h1, by rw [beq_eq_false_iff_ne]; exact hne, hbb⟩))
    have HEE := hid hE
    clear hE
    go_region_with (go_at_call 83; refine (HS2.out _ HBD.out).mono ?_; rintro e w3 ⟨G, rfl, e1, e2, e3, hb⟩; have HB3 := hid (below_call HBD.out hb HBD.out.size); have HK3 := HKD.out.keep hb; have g0 := HK3.cell 0; have g1 := HK3.cell 1; simp only [List.getElem?_toArray, List.getElem?_cons_zero, List.getElem?_cons_succ] at g0 g1; clear hb HK3)
    all_goals go_wp2
    all_goals go_ret2
    all_goals exact ⟨⟨false, rfl, ⟨fun h => (by cases h), fun h => absurd h HEE.out⟩⟩, by first | exact HB3.out | exact HB3.out.drew⟩
end Go.Proofs.YtjddbglbodkihaaDoor
