/- Walks of evade.Ask and of the laws' awake. Conditions: the slice reads as numbers; the table of the library stands. -/
import Derived.Test.YtjddbglbodkihaaDoorAskL
import Derived.Test.YtjddbglbodkihaaDoorReadP
namespace Go.Proofs.YtjddbglbodkihaaDoor
open Go.RowKit Go.Maps
attribute [local go_sem ↓] shl_p2 shl_u or_u shr_u and_shrF shr_v and_shr andNot_v and_nn or_i

theorem Stp.below {w0 w w' : World} {M1 M2 : Nat} (h : Below w0.heap.size w0 w) (k : Stp M1 M2 w w') (h0 : w0.heap.size ≤ w.heap.size) (h1 : w0.heap.size ≤ M1) (h2 : w0.heap.size ≤ M2) : Below w0.heap.size w0 w' :=
  Chg.below h k.chg h0 fun i hi => hi.elim (fun e => by omega) (fun e => by omega)
set_option maxRecDepth 100000 in
set_option maxHeartbeats 2000000 in
theorem askYes (n : Nat) (A : Option Addr) (m c : Nat) (xs : List Int) (w : World) (hs : Sl w A m c (xs.map (Value.int .i64))) (hT : Tab w) (H : Fam n xs) :
    Calls Tryd.prog 34 #[.int .i64 n, .slice A m c] w fun e w' => e = .returned (.tuple #[.int .i64 (askN n (setF xs).testBit 0 0 : Nat), .int .i64 0]) ∧ Below w.heap.size w w' := by
  have h6 : n ≤ 6 := by have := H.n6; omega
  have HRD := hid (readYes n A m c xs w hs hT H)
  have HA := hid fun W => askerF n (setF xs) W
  have HS := hid fun s M1 M2 W hW => askS s n (setF xs) M1 M2 0 0 W h6 (fam64 h6 H.lt) (View.zero n) hW
  clear hs hT H h6
  generalize setF xs = F at *
  go_enter Tryd.func34, Tryd.ntmps34
  go_wp2_with fail
  refine (HRD.out).mono ?_; rintro e w1 ⟨rfl, hb1⟩
  have HB1 := hid hb1
  clear hb1
  go_wp2_with fail
  have HB2 := hid (HB1.out.alloc HB1.out.size (.cells #[.int .i64 n, .int .u64 F] 72))
  refine (HA.out _).mono ?_; rintro e w2 ⟨⟨s, M1, M2, rfl, g0, g1, g2, has⟩, hb2⟩
  have HB3 := hid (below_call HB2.out hb2 HB2.out.size)
  have GG : Hid (w.heap.size ≤ M1 ∧ w.heap.size ≤ M2) := hid (by have := HB2.out.size; exact ⟨by omega, by omega⟩)
  have HX := hid has
  clear hb2 has g0 g1 g2
  go_wp2_with fail
  refine (HS.out s M1 M2 _ HX.out).mono ?_; rintro e w3 ⟨rfl, hst, -, -⟩
  have HB4 := hid (hst.below HB3.out HB3.out.size GG.out.1 GG.out.2)
  clear hst
  go_wp2
  go_ret2
  exact ⟨rfl, HB4.out⟩
set_option maxRecDepth 100000 in
set_option maxHeartbeats 2000000 in
theorem askNo (n : Int) (A : Option Addr) (m c : Nat) (xs : List Int) (w : World) (hs : Sl w A m c (xs.map (Value.int .i64))) (hT : Tab w) (H : ¬ Fam n xs) :
    Calls Tryd.prog 34 #[.int .i64 n, .slice A m c] w fun e w' => e = .returned (.tuple #[.int .i64 0, .int .i64 2]) ∧ Below w.heap.size w w' := by
  have HRD := hid (readNo n A m c xs w hs hT H)
  clear hs hT H
  go_enter Tryd.func34, Tryd.ntmps34
  go_wp2_with fail
  refine (HRD.out).mono ?_; rintro e w1 ⟨⟨G, rfl⟩, hb1⟩
  have HB1 := hid hb1
  clear hb1
  go_wp2
  go_ret2
  exact ⟨rfl, HB1.out.alloc HB1.out.size _⟩
theorem fam20 : Fam 2 [0] := ⟨by decide, by decide, by decide, by decide, fun s hs x _ => by
  rw [List.mem_singleton] at hs
  subst hs
  simp [rm]⟩
theorem ask20 : askN 2 (setF [0]).testBit 0 0 = 2 := by decide
set_option maxRecDepth 100000 in
set_option maxHeartbeats 2000000 in
theorem awakeF (w : World) (hT : Tab w) :
    Calls Tryd.prog 18 #[] w fun e w' => e = .returned (.bool true) ∧ Below w.heap.size w w' := by
  have HB1 := hid ((Below.refl w.heap.size w).alloc (Nat.le_refl _) (.cells #[.int .i64 0] 3))
  have HA := hid (show Calls Tryd.prog 34 #[.int .i64 2, .slice (some ⟨w.heap.size, 0, none⟩) 1 1] (w.alloc (.cells #[.int .i64 0] 3)) fun e w' => e = .returned (.tuple #[.int .i64 2, .int .i64 0]) ∧ Below (w.alloc (.cells #[.int .i64 0] 3)).heap.size (w.alloc (.cells #[.int .i64 0] 3)) w' from by
    have := askYes 2 (some ⟨w.heap.size, 0, none⟩) 1 1 [0] (w.alloc (.cells #[.int .i64 0] 3)) (Sl.new w #[.int .i64 0] 3 rfl (by decide)) (hT.below HB1.out) fam20
    rw [ask20] at this
    exact this)
  clear hT
  go_enter Tryd.func18, Tryd.ntmps18
  go_wp2_with fail
  refine (HA.out).mono ?_; rintro e w1 ⟨rfl, hb1⟩
  have HB2 := hid (below_call HB1.out hb1 HB1.out.size)
  clear hb1
  go_wp2
  go_ret
  exact ⟨rfl, HB2.out⟩
end Go.Proofs.YtjddbglbodkihaaDoor
