/- Walks of weigh's After, at a load that comes with a line. Condition: numbers from 0 to 1000. -/
import Derived.Test.YtnibidmlkbcfkaaGreatDoorT15
namespace Go.Proofs.YtnibidmlkbcfkaaGreatDoor
open Go.RowKit Go.Maps
set_option maxRecDepth 100000 in
set_option maxHeartbeats 2000000 in
theorem fitsF (a b n : Int) (ha : 0 ≤ a ∧ a ≤ 5000) (hb : 0 ≤ b ∧ b ≤ 5000) (w : World) :
 Calls Tryz.prog 234 #[.agg #[.int .i64 a, .int .i64 b], .int .i64 n] w fun x w' => x = .returned (.bool (decide (a + b ≤ n))) ∧ Below w.heap.size w w' := by
 have g1 : decide (0 ≤ min a b) = true := decide_eq_true (by omega)
 have e1 : wrap64 (a + b) = a + b := by simp only [wrap64]; omega
 by_cases h : max a b ≤ n
 · have g2 : decide (max a b ≤ n) = true := decide_eq_true h
   clear h ha hb
   go_enter Tryz.func234, Tryz.ntmps234
   go_wp2
   go_ret
   exact ⟨rfl, (Below.refl _ w).alloc (Nat.le_refl _) _⟩
 · have g2 : decide (max a b ≤ n) = false := decide_eq_false h
   have g3 : decide (a + b ≤ n) = false := decide_eq_false (by omega)
   rw [g3]
   clear h ha hb
   go_enter Tryz.func234, Tryz.ntmps234
   go_wp2
   go_ret
   exact ⟨rfl, (Below.refl _ w).alloc (Nat.le_refl _) _⟩
/-- A load that comes with a line. -/
def ldV (b h t g : Int) : Value := .agg #[.int .i64 b, .int .i64 0, .int .i64 h, .int .i64 0, .int .i64 t, .int .i64 0, .int .i64 g, .int .i64 (b + h + t + g)]
set_option maxRecDepth 100000 in
set_option maxHeartbeats 2000000 in
theorem panF (b h t g : Int) (hk : inK b h t g) (i : Nat) (hi : i = 0 ∨ i = 1) (w : World) :
 Calls Tryz.prog 235 #[ldV b h t g, .int .i64 i] w fun x w' => x = .returned (.int .i64 (b + h + t + g)) ∧ Below w.heap.size w w' := by
 unfold inK at hk
 unfold ldV
 have e1 : wrap64 (b + h) = b + h := by simp only [wrap64]; omega
 have e2 : wrap64 (b + h + t) = b + h + t := by simp only [wrap64]; omega
 have e3 : wrap64 (b + h + t + g) = b + h + t + g := by simp only [wrap64]; omega
 rcases hi with rfl | rfl
 · go_enter Tryz.func235, Tryz.ntmps235
   go_wp2_with fail
   go_quiet (fail)
   go_wp2
   go_ret
   exact ⟨rfl, below_drewN ((Below.refl _ w).alloc (Nat.le_refl _) _) _⟩
 · go_enter Tryz.func235, Tryz.ntmps235
   go_wp2_with fail
   go_quiet (fail)
   go_wp2
   go_ret
   exact ⟨rfl, below_drewN ((Below.refl _ w).alloc (Nat.le_refl _) _) _⟩
theorem of_cells {W : World} {lb nb : Nat} {b h t g kb kh kt kg : Int} {nn : Bool} (h1 : Blk W lb 214 #[.int .i64 b, .int .i64 0, .int .i64 h, .int .i64 0, .int .i64 t, .int .i64 0, .int .i64 g, .int .i64 (b + h + t + g)]) (h2 : Blk W nb 146 #[.int .i64 kb, .int .i64 kh, .int .i64 kt, .int .i64 kg, .bool nn]) :
 W.cell? ⟨lb, 0, none⟩ = some (.int .i64 b) ∧ W.cell? ⟨lb, 1, none⟩ = some (.int .i64 0) ∧ W.cell? ⟨lb, 2, none⟩ = some (.int .i64 h) ∧ W.cell? ⟨lb, 3, none⟩ = some (.int .i64 0) ∧ W.cell? ⟨lb, 4, none⟩ = some (.int .i64 t) ∧ W.cell? ⟨lb, 5, none⟩ = some (.int .i64 0) ∧ W.cell? ⟨lb, 6, none⟩ = some (.int .i64 g) ∧ W.cell? ⟨lb, 7, none⟩ = some (.int .i64 (b + h + t + g)) ∧ W.cell? ⟨nb, 0, none⟩ = some (.int .i64 kb) ∧ W.cell? ⟨nb, 1, none⟩ = some (.int .i64 kh) ∧ W.cell? ⟨nb, 2, none⟩ = some (.int .i64 kt) ∧ W.cell? ⟨nb, 3, none⟩ = some (.int .i64 kg) :=
 ⟨h1.cell 0, h1.cell 1, h1.cell 2, h1.cell 3, h1.cell 4, h1.cell 5, h1.cell 6, h1.cell 7, h2.cell 0, h2.cell 1, h2.cell 2, h2.cell 3⟩
/-- Is that a load for what is known? -/
def ofR (b h t g kb kh kt kg : Int) : Bool := decide (b ≤ kb) && decide (h ≤ kh) && decide (t ≤ kt) && decide (g + (b + h + t + g) ≤ kg) && decide (1 ≤ b + h + t + g)
set_option maxRecDepth 100000 in
set_option maxHeartbeats 8000000 in
theorem ofF (b h t g kb kh kt kg : Int) (nn : Bool) (hk : inK b h t g) (w : World) :
 Calls Tryz.prog 200 #[ldV b h t g, knV kb kh kt kg nn] w fun x w' => x = .returned (.bool (ofR b h t g kb kh kt kg)) ∧ Below w.heap.size w w' := by
 have HP0 := hid fun W => panF b h t g hk 0 (.inl rfl) W
 have HP1 := hid fun W => panF b h t g hk 1 (.inr rfl) W
 unfold inK at hk
 have HF1 := hid fun W => fitsF b 0 kb (by omega) (by omega) W
 have HF2 := hid fun W => fitsF h 0 kh (by omega) (by omega) W
 have HF3 := hid fun W => fitsF t 0 kt (by omega) (by omega) W
 have HF4 := hid fun W => fitsF g (b + h + t + g) kg (by omega) (by omega) W
 simp only [Int.add_zero] at HF1 HF2 HF3
 unfold ldV at HP0 HP1 ⊢
 unfold knV ofR
 have HL := hid ((Blk.new w 214 #[.int .i64 b, .int .i64 0, .int .i64 h, .int .i64 0, .int .i64 t, .int .i64 0, .int .i64 g, .int .i64 (b + h + t + g)]).alloc (.cells #[.int .i64 kb, .int .i64 kh, .int .i64 kt, .int .i64 kg, .bool nn] 146))
 have HN := hid (Blk.new_at (w.alloc (.cells #[.int .i64 b, .int .i64 0, .int .i64 h, .int .i64 0, .int .i64 t, .int .i64 0, .int .i64 g, .int .i64 (b + h + t + g)] 214)) 146 #[.int .i64 kb, .int .i64 kh, .int .i64 kt, .int .i64 kg, .bool nn] (n := w.heap.size + 1) (by simp))
 have HW := hid (((Below.refl w.heap.size w).alloc (Nat.le_refl _) (.cells #[.int .i64 b, .int .i64 0, .int .i64 h, .int .i64 0, .int .i64 t, .int .i64 0, .int .i64 g, .int .i64 (b + h + t + g)] 214)).alloc (by simp) (.cells #[.int .i64 kb, .int .i64 kh, .int .i64 kt, .int .i64 kg, .bool nn] 146))
 clear hk
 by_cases c1 : b ≤ kb
 rotate_left
 · have g1 : decide (b ≤ kb) = false := decide_eq_false c1
   rw [show (decide (b ≤ kb) && decide (h ≤ kh) && decide (t ≤ kt) && decide (g + (b + h + t + g) ≤ kg) && decide (1 ≤ b + h + t + g)) = false by rw [g1]; simp]
   rw [g1] at HF1
   clear c1
   go_enter Tryz.func200, Tryz.ntmps200
   go_wp2_with fail
   generalize ((w.alloc (.cells #[.int .i64 b, .int .i64 0, .int .i64 h, .int .i64 0, .int .i64 t, .int .i64 0, .int .i64 g, .int .i64 (b + h + t + g)] 214)).alloc (.cells #[.int .i64 kb, .int .i64 kh, .int .i64 kt, .int .i64 kg, .bool nn] 146)) = X at *
   have HL := hid (HL.out.keep (Below.refl _ X).drew); have HN := hid (HN.out.keep (Below.refl _ X).drew); have HW := hid (below_call HW.out (Below.refl _ X).drew HW.out.size)
   refine wp_region_held_drew (S := (fun X => X.cell? ⟨w.heap.size, 0, none⟩ = some (.int .i64 b) ∧ X.cell? ⟨w.heap.size, 1, none⟩ = some (.int .i64 0) ∧ X.cell? ⟨w.heap.size, 2, none⟩ = some (.int .i64 h) ∧ X.cell? ⟨w.heap.size, 3, none⟩ = some (.int .i64 0) ∧ X.cell? ⟨w.heap.size, 4, none⟩ = some (.int .i64 t) ∧ X.cell? ⟨w.heap.size, 5, none⟩ = some (.int .i64 0) ∧ X.cell? ⟨w.heap.size, 6, none⟩ = some (.int .i64 g) ∧ X.cell? ⟨w.heap.size, 7, none⟩ = some (.int .i64 (b + h + t + g)) ∧ X.cell? ⟨w.heap.size + 1, 0, none⟩ = some (.int .i64 kb) ∧ X.cell? ⟨w.heap.size + 1, 1, none⟩ = some (.int .i64 kh) ∧ X.cell? ⟨w.heap.size + 1, 2, none⟩ = some (.int .i64 kt) ∧ X.cell? ⟨w.heap.size + 1, 3, none⟩ = some (.int .i64 kg))) (by kernel_rfl) (by (try dsimp only); (first | exact of_cells HL.out HN.out | exact hHeld | assumption)) (fun hHeld => ?_)
   refine tk ?_ 0 (some 6) rfl rfl ?_ ?_; rotate_left; · (intro w hSw; (try dsimp only at hSw); go_simp <;> with_reducible rfl)
   try simp only [Act.put,qA,qB,qC]
   refine tk ?_ 1 (some 7) rfl rfl ?_ ?_; rotate_left; · (intro w hSw; (try dsimp only at hSw); go_simp <;> with_reducible rfl)
   try simp only [Act.put,qA,qB,qC]
   refine tk ?_ 2 (some 8) rfl rfl ?_ ?_; rotate_left; · (intro w hSw; (try dsimp only at hSw); go_simp <;> with_reducible rfl)
   try simp only [Act.put,qA,qB,qC]
   refine tk ?_ 3 (some 9) rfl rfl ?_ ?_; rotate_left; · (intro w hSw; (try dsimp only at hSw); go_simp <;> with_reducible rfl)
   try simp only [Act.put,qA,qB,qC]
   refine tk ?_ 4 (some 10) rfl rfl ?_ ?_; rotate_left; · (intro w hSw; (try dsimp only at hSw); go_simp <;> with_reducible rfl)
   try simp only [Act.put,qA,qB,qC]
   refine st 5 rfl fun K hK => ?_
   go_simp
   refine (HF1.out _).mono ?_; rintro x X1 ⟨rfl, b1⟩
   have HL2 := hid (HL.out.keep b1); have HN2 := hid (HN.out.keep b1); have HW2 := hid (below_call HW.out b1 HW.out.size)
   clear HL HN HW b1 hHeld
   have HL := HL2; have HN := HN2; have HW := HW2
   clear HL2 HN2 HW2
   refine hK.out _ _ ?_ (fun hHeld => ?_); · ((try dsimp only); (first | exact of_cells HL.out HN.out | exact hHeld | assumption))
   clear hK K
   try simp only [Act.put,qA,qB,qC]
   refine tk ?_ 6 (some 12) rfl rfl ?_ ?_; rotate_left; · (intro w hSw; (try dsimp only at hSw); go_simp <;> with_reducible rfl)
   try simp only [Act.put,qA,qB,qC]
   refine takeD (i := 7) (v := undef) (some 13) rfl rfl (by kernel_rfl) (by kernel_rfl) (by kernel_rfl) (fun _ _ _ h => h) (Or.inr ⟨by rfl, rfl⟩) (by assumption) ?_
   try simp only [Act.put,qA,qB,qC]
   refine takeD (i := 8) (v := undef) (some 14) rfl rfl (by kernel_rfl) (by kernel_rfl) (by kernel_rfl) (fun _ _ _ h => h) (Or.inr ⟨by rfl, rfl⟩) (by assumption) ?_
   try simp only [Act.put,qA,qB,qC]
   refine takeD (i := 9) (v := undef) (some 15) rfl rfl (by kernel_rfl) (by kernel_rfl) (by kernel_rfl) (fun _ _ _ h => h) (Or.inr ⟨by rfl, rfl⟩) (by assumption) ?_
   try simp only [Act.put,qA,qB,qC]
   refine takeD (i := 10) (v := undef) (some 16) rfl rfl (by kernel_rfl) (by kernel_rfl) (by kernel_rfl) (fun _ _ _ h => h) (Or.inr ⟨by rfl, rfl⟩) (by assumption) ?_
   try simp only [Act.put,qA,qB,qC]
   refine takeD (i := 11) (v := undef) (some 17) rfl rfl (by kernel_rfl) (by kernel_rfl) (by kernel_rfl) (fun _ _ _ h => h) (Or.inr ⟨by rfl, rfl⟩) (by assumption) ?_
   try simp only [Act.put,qA,qB,qC]
   refine takeD (i := 12) (v := undef) (some 18) rfl rfl (by kernel_rfl) (by kernel_rfl) (by kernel_rfl) (fun _ _ _ h => h) (Or.inr ⟨by rfl, rfl⟩) (by assumption) ?_
   try simp only [Act.put,qA,qB,qC]
   refine tk ?_ 13 (some 19) rfl rfl ?_ ?_; rotate_left; · (intro w hSw; (try dsimp only at hSw); go_simp <;> with_reducible rfl)
   try simp only [Act.put,qA,qB,qC]
   refine tk ?_ 14 (some 20) rfl rfl ?_ ?_; rotate_left; · (intro w hSw; (try dsimp only at hSw); go_simp <;> with_reducible rfl)
   try simp only [Act.put,qA,qB,qC]
   refine takeD (i := 15) (v := undef) (some 21) rfl rfl (by kernel_rfl) (by kernel_rfl) (by kernel_rfl) (fun _ _ _ h => h) (Or.inr ⟨by rfl, rfl⟩) (by assumption) ?_
   try simp only [Act.put,qA,qB,qC]
   refine takeD (i := 16) (v := undef) (some 22) rfl rfl (by kernel_rfl) (by kernel_rfl) (by kernel_rfl) (fun _ _ _ h => h) (Or.inr ⟨by rfl, rfl⟩) (by assumption) ?_
   try simp only [Act.put,qA,qB,qC]
   refine takeD (i := 17) (v := undef) (some 23) rfl rfl (by kernel_rfl) (by kernel_rfl) (by kernel_rfl) (fun _ _ _ h => h) (Or.inr ⟨by rfl, rfl⟩) (by assumption) ?_
   try simp only [Act.put,qA,qB,qC]
   refine takeD (i := 18) (v := undef) (some 24) rfl rfl (by kernel_rfl) (by kernel_rfl) (by kernel_rfl) (fun _ _ _ h => h) (Or.inr ⟨by rfl, rfl⟩) (by assumption) ?_
   try simp only [Act.put,qA,qB,qC]
   refine takeD (i := 19) (v := undef) (some 25) rfl rfl (by kernel_rfl) (by kernel_rfl) (by kernel_rfl) (fun _ _ _ h => h) (Or.inr ⟨by rfl, rfl⟩) (by assumption) ?_
   try simp only [Act.put,qA,qB,qC]
   refine takeD (i := 20) (v := undef) (some 26) rfl rfl (by kernel_rfl) (by kernel_rfl) (by kernel_rfl) (fun _ _ _ h => h) (Or.inr ⟨by rfl, rfl⟩) (by assumption) ?_
   try simp only [Act.put,qA,qB,qC]
   refine tk ?_ 21 (some 27) rfl rfl ?_ ?_; rotate_left; · (intro w hSw; (try dsimp only at hSw); go_simp <;> with_reducible rfl)
   try simp only [Act.put,qA,qB,qC]
   refine tk ?_ 22 (some 28) rfl rfl ?_ ?_; rotate_left; · (intro w hSw; (try dsimp only at hSw); go_simp <;> with_reducible rfl)
   try simp only [Act.put,qA,qB,qC]
   refine takeD (i := 23) (v := undef) (some 29) rfl rfl (by kernel_rfl) (by kernel_rfl) (by kernel_rfl) (fun _ _ _ h => h) (Or.inr ⟨by rfl, rfl⟩) (by assumption) ?_
   try simp only [Act.put,qA,qB,qC]
   refine takeD (i := 24) (v := undef) (some 30) rfl rfl (by kernel_rfl) (by kernel_rfl) (by kernel_rfl) (fun _ _ _ h => h) (Or.inr ⟨by rfl, rfl⟩) (by assumption) ?_
   try simp only [Act.put,qA,qB,qC]
   refine takeD (i := 25) (v := undef) (some 31) rfl rfl (by kernel_rfl) (by kernel_rfl) (by kernel_rfl) (fun _ _ _ h => h) (Or.inr ⟨by rfl, rfl⟩) (by assumption) ?_
   try simp only [Act.put,qA,qB,qC]
   refine takeD (i := 26) (v := undef) (some 32) rfl rfl (by kernel_rfl) (by kernel_rfl) (by kernel_rfl) (fun _ _ _ h => h) (Or.inr ⟨by rfl, rfl⟩) (by assumption) ?_
   try simp only [Act.put,qA,qB,qC]
   refine takeD (i := 27) (v := undef) (some 33) rfl rfl (by kernel_rfl) (by kernel_rfl) (by kernel_rfl) (fun _ _ _ h => h) (Or.inr ⟨by rfl, rfl⟩) (by assumption) ?_
   try simp only [Act.put,qA,qB,qC]
   refine takeD (i := 28) (v := undef) (some 34) rfl rfl (by kernel_rfl) (by kernel_rfl) (by kernel_rfl) (fun _ _ _ h => h) (Or.inr ⟨by rfl, rfl⟩) (by assumption) ?_
   try simp only [Act.put,qA,qB,qC]
   refine tk ?_ 29 (some 35) rfl rfl ?_ ?_; rotate_left; · (intro w hSw; (try dsimp only at hSw); go_simp <;> with_reducible rfl)
   try simp only [Act.put,qA,qB,qC]
   refine tk ?_ 30 (some 36) rfl rfl ?_ ?_; rotate_left; · (intro w hSw; (try dsimp only at hSw); go_simp <;> with_reducible rfl)
   try simp only [Act.put,qA,qB,qC]
   refine takeD (i := 31) (v := undef) (some 37) rfl rfl (by kernel_rfl) (by kernel_rfl) (by kernel_rfl) (fun _ _ _ h => h) (Or.inr ⟨by rfl, rfl⟩) (by assumption) ?_
   try simp only [Act.put,qA,qB,qC]
   refine takeD (i := 32) (v := undef) (some 38) rfl rfl (by kernel_rfl) (by kernel_rfl) (by kernel_rfl) (fun _ _ _ h => h) (Or.inr ⟨by rfl, rfl⟩) (by assumption) ?_
   try simp only [Act.put,qA,qB,qC]
   refine takeD (i := 33) (v := undef) (some 39) rfl rfl (by kernel_rfl) (by kernel_rfl) (by kernel_rfl) (fun _ _ _ h => h) (Or.inr ⟨by rfl, rfl⟩) (by assumption) ?_
   try simp only [Act.put,qA,qB,qC]
   refine takeD (i := 34) (v := undef) (some 40) rfl rfl (by kernel_rfl) (by kernel_rfl) (by kernel_rfl) (fun _ _ _ h => h) (Or.inr ⟨by rfl, rfl⟩) (by assumption) ?_
   try simp only [Act.put,qA,qB,qC]
   refine takeD (i := 35) (v := undef) (some 41) rfl rfl (by kernel_rfl) (by kernel_rfl) (by kernel_rfl) (fun _ _ _ h => h) (Or.inr ⟨by rfl, rfl⟩) (by assumption) ?_
   try simp only [Act.put,qA,qB,qC]
   refine tk ?_ 36 (some 42) rfl rfl ?_ ?_; rotate_left; · (intro w hSw; (try dsimp only at hSw); go_simp <;> with_reducible rfl)
   try simp only [Act.put,qA,qB,qC]
   refine tk ?_ 37 (some 43) rfl rfl ?_ ?_; rotate_left; · (intro w hSw; (try dsimp only at hSw); go_simp <;> with_reducible rfl)
   try simp only [Act.put,qA,qB,qC]
   refine takeD (i := 38) (v := undef) (some 44) rfl rfl (by kernel_rfl) (by kernel_rfl) (by kernel_rfl) (fun _ _ _ h => h) (Or.inr ⟨by rfl, rfl⟩) (by assumption) ?_
   try simp only [Act.put,qA,qB,qC]
   refine takeD (i := 39) (v := undef) (some 45) rfl rfl (by kernel_rfl) (by kernel_rfl) (by kernel_rfl) (fun _ _ _ h => h) (Or.inr ⟨by rfl, rfl⟩) (by assumption) ?_
   try simp only [Act.put,qA,qB,qC]
   refine takeD (i := 40) (v := undef) (some 46) rfl rfl (by kernel_rfl) (by kernel_rfl) (by kernel_rfl) (fun _ _ _ h => h) (Or.inr ⟨by rfl, rfl⟩) (by assumption) ?_
   try simp only [Act.put,qA,qB,qC]
   refine tk ?_ 41 (some 47) rfl rfl ?_ ?_; rotate_left; · (intro w hSw; (try dsimp only at hSw); go_simp <;> with_reducible rfl)
   try simp only [Act.put,qA,qB,qC]
   refine tk ?_ 42 (some 4) rfl rfl ?_ ?_; rotate_left; · (intro w hSw; (try dsimp only at hSw); go_simp <;> with_reducible rfl)
   try simp only [Act.put,qA,qB,qC]
   refine wpAnyH_done (by kernel_rfl) ?_ _
   go_wp2
   go_ret
   exact ⟨by first | rfl | (simp; done), HW.out⟩
 · have g1 : decide (b ≤ kb) = true := decide_eq_true c1
   by_cases c2 : h ≤ kh
   rotate_left
   · have g2 : decide (h ≤ kh) = false := decide_eq_false c2
     rw [show (decide (b ≤ kb) && decide (h ≤ kh) && decide (t ≤ kt) && decide (g + (b + h + t + g) ≤ kg) && decide (1 ≤ b + h + t + g)) = false by rw [g2]; simp]
     rw [g1] at HF1
     rw [g2] at HF2
     clear c1 c2
     go_enter Tryz.func200, Tryz.ntmps200
     go_wp2_with fail
     generalize ((w.alloc (.cells #[.int .i64 b, .int .i64 0, .int .i64 h, .int .i64 0, .int .i64 t, .int .i64 0, .int .i64 g, .int .i64 (b + h + t + g)] 214)).alloc (.cells #[.int .i64 kb, .int .i64 kh, .int .i64 kt, .int .i64 kg, .bool nn] 146)) = X at *
     have HL := hid (HL.out.keep (Below.refl _ X).drew); have HN := hid (HN.out.keep (Below.refl _ X).drew); have HW := hid (below_call HW.out (Below.refl _ X).drew HW.out.size)
     refine wp_region_held_drew (S := (fun X => X.cell? ⟨w.heap.size, 0, none⟩ = some (.int .i64 b) ∧ X.cell? ⟨w.heap.size, 1, none⟩ = some (.int .i64 0) ∧ X.cell? ⟨w.heap.size, 2, none⟩ = some (.int .i64 h) ∧ X.cell? ⟨w.heap.size, 3, none⟩ = some (.int .i64 0) ∧ X.cell? ⟨w.heap.size, 4, none⟩ = some (.int .i64 t) ∧ X.cell? ⟨w.heap.size, 5, none⟩ = some (.int .i64 0) ∧ X.cell? ⟨w.heap.size, 6, none⟩ = some (.int .i64 g) ∧ X.cell? ⟨w.heap.size, 7, none⟩ = some (.int .i64 (b + h + t + g)) ∧ X.cell? ⟨w.heap.size + 1, 0, none⟩ = some (.int .i64 kb) ∧ X.cell? ⟨w.heap.size + 1, 1, none⟩ = some (.int .i64 kh) ∧ X.cell? ⟨w.heap.size + 1, 2, none⟩ = some (.int .i64 kt) ∧ X.cell? ⟨w.heap.size + 1, 3, none⟩ = some (.int .i64 kg))) (by kernel_rfl) (by (try dsimp only); (first | exact of_cells HL.out HN.out | exact hHeld | assumption)) (fun hHeld => ?_)
     refine tk ?_ 0 (some 6) rfl rfl ?_ ?_; rotate_left; · (intro w hSw; (try dsimp only at hSw); go_simp <;> with_reducible rfl)
     try simp only [Act.put,qA,qB,qC]
     refine tk ?_ 1 (some 7) rfl rfl ?_ ?_; rotate_left; · (intro w hSw; (try dsimp only at hSw); go_simp <;> with_reducible rfl)
     try simp only [Act.put,qA,qB,qC]
     refine tk ?_ 2 (some 8) rfl rfl ?_ ?_; rotate_left; · (intro w hSw; (try dsimp only at hSw); go_simp <;> with_reducible rfl)
     try simp only [Act.put,qA,qB,qC]
     refine tk ?_ 3 (some 9) rfl rfl ?_ ?_; rotate_left; · (intro w hSw; (try dsimp only at hSw); go_simp <;> with_reducible rfl)
     try simp only [Act.put,qA,qB,qC]
     refine tk ?_ 4 (some 10) rfl rfl ?_ ?_; rotate_left; · (intro w hSw; (try dsimp only at hSw); go_simp <;> with_reducible rfl)
     try simp only [Act.put,qA,qB,qC]
     refine st 5 rfl fun K hK => ?_
     go_simp
     refine (HF1.out _).mono ?_; rintro x X1 ⟨rfl, b1⟩
     have HL2 := hid (HL.out.keep b1); have HN2 := hid (HN.out.keep b1); have HW2 := hid (below_call HW.out b1 HW.out.size)
     clear HL HN HW b1 hHeld
     have HL := HL2; have HN := HN2; have HW := HW2
     clear HL2 HN2 HW2
     refine hK.out _ _ ?_ (fun hHeld => ?_); · ((try dsimp only); (first | exact of_cells HL.out HN.out | exact hHeld | assumption))
     clear hK K
     try simp only [Act.put,qA,qB,qC]
     refine tk ?_ 6 (some 12) rfl rfl ?_ ?_; rotate_left; · (intro w hSw; (try dsimp only at hSw); go_simp <;> with_reducible rfl)
     try simp only [Act.put,qA,qB,qC]
     refine tk ?_ 7 (some 13) rfl rfl ?_ ?_; rotate_left; · (intro w hSw; (try dsimp only at hSw); go_simp <;> with_reducible rfl)
     try simp only [Act.put,qA,qB,qC]
     refine tk ?_ 8 (some 14) rfl rfl ?_ ?_; rotate_left; · (intro w hSw; (try dsimp only at hSw); go_simp <;> with_reducible rfl)
     try simp only [Act.put,qA,qB,qC]
     refine tk ?_ 9 (some 15) rfl rfl ?_ ?_; rotate_left; · (intro w hSw; (try dsimp only at hSw); go_simp <;> with_reducible rfl)
     try simp only [Act.put,qA,qB,qC]
     refine tk ?_ 10 (some 16) rfl rfl ?_ ?_; rotate_left; · (intro w hSw; (try dsimp only at hSw); go_simp <;> with_reducible rfl)
     try simp only [Act.put,qA,qB,qC]
     refine tk ?_ 11 (some 17) rfl rfl ?_ ?_; rotate_left; · (intro w hSw; (try dsimp only at hSw); go_simp <;> with_reducible rfl)
     try simp only [Act.put,qA,qB,qC]
     refine st 12 rfl fun K hK => ?_
     go_simp
     refine (HF2.out _).mono ?_; rintro x X1 ⟨rfl, b1⟩
     have HL2 := hid (HL.out.keep b1); have HN2 := hid (HN.out.keep b1); have HW2 := hid (below_call HW.out b1 HW.out.size)
     clear HL HN HW b1 hHeld
     have HL := HL2; have HN := HN2; have HW := HW2
     clear HL2 HN2 HW2
     refine hK.out _ _ ?_ (fun hHeld => ?_); · ((try dsimp only); (first | exact of_cells HL.out HN.out | exact hHeld | assumption))
     clear hK K
     try simp only [Act.put,qA,qB,qC]
     refine tk ?_ 13 (some 19) rfl rfl ?_ ?_; rotate_left; · (intro w hSw; (try dsimp only at hSw); go_simp <;> with_reducible rfl)
     try simp only [Act.put,qA,qB,qC]
     refine tk ?_ 14 (some 20) rfl rfl ?_ ?_; rotate_left; · (intro w hSw; (try dsimp only at hSw); go_simp <;> with_reducible rfl)
     try simp only [Act.put,qA,qB,qC]
     refine takeD (i := 15) (v := undef) (some 21) rfl rfl (by kernel_rfl) (by kernel_rfl) (by kernel_rfl) (fun _ _ _ h => h) (Or.inr ⟨by rfl, rfl⟩) (by assumption) ?_
     try simp only [Act.put,qA,qB,qC]
     refine takeD (i := 16) (v := undef) (some 22) rfl rfl (by kernel_rfl) (by kernel_rfl) (by kernel_rfl) (fun _ _ _ h => h) (Or.inr ⟨by rfl, rfl⟩) (by assumption) ?_
     try simp only [Act.put,qA,qB,qC]
     refine takeD (i := 17) (v := undef) (some 23) rfl rfl (by kernel_rfl) (by kernel_rfl) (by kernel_rfl) (fun _ _ _ h => h) (Or.inr ⟨by rfl, rfl⟩) (by assumption) ?_
     try simp only [Act.put,qA,qB,qC]
     refine takeD (i := 18) (v := undef) (some 24) rfl rfl (by kernel_rfl) (by kernel_rfl) (by kernel_rfl) (fun _ _ _ h => h) (Or.inr ⟨by rfl, rfl⟩) (by assumption) ?_
     try simp only [Act.put,qA,qB,qC]
     refine takeD (i := 19) (v := undef) (some 25) rfl rfl (by kernel_rfl) (by kernel_rfl) (by kernel_rfl) (fun _ _ _ h => h) (Or.inr ⟨by rfl, rfl⟩) (by assumption) ?_
     try simp only [Act.put,qA,qB,qC]
     refine takeD (i := 20) (v := undef) (some 26) rfl rfl (by kernel_rfl) (by kernel_rfl) (by kernel_rfl) (fun _ _ _ h => h) (Or.inr ⟨by rfl, rfl⟩) (by assumption) ?_
     try simp only [Act.put,qA,qB,qC]
     refine tk ?_ 21 (some 27) rfl rfl ?_ ?_; rotate_left; · (intro w hSw; (try dsimp only at hSw); go_simp <;> with_reducible rfl)
     try simp only [Act.put,qA,qB,qC]
     refine tk ?_ 22 (some 28) rfl rfl ?_ ?_; rotate_left; · (intro w hSw; (try dsimp only at hSw); go_simp <;> with_reducible rfl)
     try simp only [Act.put,qA,qB,qC]
     refine takeD (i := 23) (v := undef) (some 29) rfl rfl (by kernel_rfl) (by kernel_rfl) (by kernel_rfl) (fun _ _ _ h => h) (Or.inr ⟨by rfl, rfl⟩) (by assumption) ?_
     try simp only [Act.put,qA,qB,qC]
     refine takeD (i := 24) (v := undef) (some 30) rfl rfl (by kernel_rfl) (by kernel_rfl) (by kernel_rfl) (fun _ _ _ h => h) (Or.inr ⟨by rfl, rfl⟩) (by assumption) ?_
     try simp only [Act.put,qA,qB,qC]
     refine takeD (i := 25) (v := undef) (some 31) rfl rfl (by kernel_rfl) (by kernel_rfl) (by kernel_rfl) (fun _ _ _ h => h) (Or.inr ⟨by rfl, rfl⟩) (by assumption) ?_
     try simp only [Act.put,qA,qB,qC]
     refine takeD (i := 26) (v := undef) (some 32) rfl rfl (by kernel_rfl) (by kernel_rfl) (by kernel_rfl) (fun _ _ _ h => h) (Or.inr ⟨by rfl, rfl⟩) (by assumption) ?_
     try simp only [Act.put,qA,qB,qC]
     refine takeD (i := 27) (v := undef) (some 33) rfl rfl (by kernel_rfl) (by kernel_rfl) (by kernel_rfl) (fun _ _ _ h => h) (Or.inr ⟨by rfl, rfl⟩) (by assumption) ?_
     try simp only [Act.put,qA,qB,qC]
     refine takeD (i := 28) (v := undef) (some 34) rfl rfl (by kernel_rfl) (by kernel_rfl) (by kernel_rfl) (fun _ _ _ h => h) (Or.inr ⟨by rfl, rfl⟩) (by assumption) ?_
     try simp only [Act.put,qA,qB,qC]
     refine tk ?_ 29 (some 35) rfl rfl ?_ ?_; rotate_left; · (intro w hSw; (try dsimp only at hSw); go_simp <;> with_reducible rfl)
     try simp only [Act.put,qA,qB,qC]
     refine tk ?_ 30 (some 36) rfl rfl ?_ ?_; rotate_left; · (intro w hSw; (try dsimp only at hSw); go_simp <;> with_reducible rfl)
     try simp only [Act.put,qA,qB,qC]
     refine takeD (i := 31) (v := undef) (some 37) rfl rfl (by kernel_rfl) (by kernel_rfl) (by kernel_rfl) (fun _ _ _ h => h) (Or.inr ⟨by rfl, rfl⟩) (by assumption) ?_
     try simp only [Act.put,qA,qB,qC]
     refine takeD (i := 32) (v := undef) (some 38) rfl rfl (by kernel_rfl) (by kernel_rfl) (by kernel_rfl) (fun _ _ _ h => h) (Or.inr ⟨by rfl, rfl⟩) (by assumption) ?_
     try simp only [Act.put,qA,qB,qC]
     refine takeD (i := 33) (v := undef) (some 39) rfl rfl (by kernel_rfl) (by kernel_rfl) (by kernel_rfl) (fun _ _ _ h => h) (Or.inr ⟨by rfl, rfl⟩) (by assumption) ?_
     try simp only [Act.put,qA,qB,qC]
     refine takeD (i := 34) (v := undef) (some 40) rfl rfl (by kernel_rfl) (by kernel_rfl) (by kernel_rfl) (fun _ _ _ h => h) (Or.inr ⟨by rfl, rfl⟩) (by assumption) ?_
     try simp only [Act.put,qA,qB,qC]
     refine takeD (i := 35) (v := undef) (some 41) rfl rfl (by kernel_rfl) (by kernel_rfl) (by kernel_rfl) (fun _ _ _ h => h) (Or.inr ⟨by rfl, rfl⟩) (by assumption) ?_
     try simp only [Act.put,qA,qB,qC]
     refine tk ?_ 36 (some 42) rfl rfl ?_ ?_; rotate_left; · (intro w hSw; (try dsimp only at hSw); go_simp <;> with_reducible rfl)
     try simp only [Act.put,qA,qB,qC]
     refine tk ?_ 37 (some 43) rfl rfl ?_ ?_; rotate_left; · (intro w hSw; (try dsimp only at hSw); go_simp <;> with_reducible rfl)
     try simp only [Act.put,qA,qB,qC]
     refine takeD (i := 38) (v := undef) (some 44) rfl rfl (by kernel_rfl) (by kernel_rfl) (by kernel_rfl) (fun _ _ _ h => h) (Or.inr ⟨by rfl, rfl⟩) (by assumption) ?_
     try simp only [Act.put,qA,qB,qC]
     refine takeD (i := 39) (v := undef) (some 45) rfl rfl (by kernel_rfl) (by kernel_rfl) (by kernel_rfl) (fun _ _ _ h => h) (Or.inr ⟨by rfl, rfl⟩) (by assumption) ?_
     try simp only [Act.put,qA,qB,qC]
     refine takeD (i := 40) (v := undef) (some 46) rfl rfl (by kernel_rfl) (by kernel_rfl) (by kernel_rfl) (fun _ _ _ h => h) (Or.inr ⟨by rfl, rfl⟩) (by assumption) ?_
     try simp only [Act.put,qA,qB,qC]
     refine tk ?_ 41 (some 47) rfl rfl ?_ ?_; rotate_left; · (intro w hSw; (try dsimp only at hSw); go_simp <;> with_reducible rfl)
     try simp only [Act.put,qA,qB,qC]
     refine tk ?_ 42 (some 4) rfl rfl ?_ ?_; rotate_left; · (intro w hSw; (try dsimp only at hSw); go_simp <;> with_reducible rfl)
     try simp only [Act.put,qA,qB,qC]
     refine wpAnyH_done (by kernel_rfl) ?_ _
     go_wp2
     go_ret
     exact ⟨by first | rfl | (simp; done), HW.out⟩
   · have g2 : decide (h ≤ kh) = true := decide_eq_true c2
     by_cases c3 : t ≤ kt
     rotate_left
     · have g3 : decide (t ≤ kt) = false := decide_eq_false c3
       rw [show (decide (b ≤ kb) && decide (h ≤ kh) && decide (t ≤ kt) && decide (g + (b + h + t + g) ≤ kg) && decide (1 ≤ b + h + t + g)) = false by rw [g3]; simp]
       rw [g1] at HF1
       rw [g2] at HF2
       rw [g3] at HF3
       clear c1 c2 c3
       go_enter Tryz.func200, Tryz.ntmps200
       go_wp2_with fail
       generalize ((w.alloc (.cells #[.int .i64 b, .int .i64 0, .int .i64 h, .int .i64 0, .int .i64 t, .int .i64 0, .int .i64 g, .int .i64 (b + h + t + g)] 214)).alloc (.cells #[.int .i64 kb, .int .i64 kh, .int .i64 kt, .int .i64 kg, .bool nn] 146)) = X at *
       have HL := hid (HL.out.keep (Below.refl _ X).drew); have HN := hid (HN.out.keep (Below.refl _ X).drew); have HW := hid (below_call HW.out (Below.refl _ X).drew HW.out.size)
       refine wp_region_held_drew (S := (fun X => X.cell? ⟨w.heap.size, 0, none⟩ = some (.int .i64 b) ∧ X.cell? ⟨w.heap.size, 1, none⟩ = some (.int .i64 0) ∧ X.cell? ⟨w.heap.size, 2, none⟩ = some (.int .i64 h) ∧ X.cell? ⟨w.heap.size, 3, none⟩ = some (.int .i64 0) ∧ X.cell? ⟨w.heap.size, 4, none⟩ = some (.int .i64 t) ∧ X.cell? ⟨w.heap.size, 5, none⟩ = some (.int .i64 0) ∧ X.cell? ⟨w.heap.size, 6, none⟩ = some (.int .i64 g) ∧ X.cell? ⟨w.heap.size, 7, none⟩ = some (.int .i64 (b + h + t + g)) ∧ X.cell? ⟨w.heap.size + 1, 0, none⟩ = some (.int .i64 kb) ∧ X.cell? ⟨w.heap.size + 1, 1, none⟩ = some (.int .i64 kh) ∧ X.cell? ⟨w.heap.size + 1, 2, none⟩ = some (.int .i64 kt) ∧ X.cell? ⟨w.heap.size + 1, 3, none⟩ = some (.int .i64 kg))) (by kernel_rfl) (by (try dsimp only); (first | exact of_cells HL.out HN.out | exact hHeld | assumption)) (fun hHeld => ?_)
       refine tk ?_ 0 (some 6) rfl rfl ?_ ?_; rotate_left; · (intro w hSw; (try dsimp only at hSw); go_simp <;> with_reducible rfl)
       try simp only [Act.put,qA,qB,qC]
       refine tk ?_ 1 (some 7) rfl rfl ?_ ?_; rotate_left; · (intro w hSw; (try dsimp only at hSw); go_simp <;> with_reducible rfl)
       try simp only [Act.put,qA,qB,qC]
       refine tk ?_ 2 (some 8) rfl rfl ?_ ?_; rotate_left; · (intro w hSw; (try dsimp only at hSw); go_simp <;> with_reducible rfl)
       try simp only [Act.put,qA,qB,qC]
       refine tk ?_ 3 (some 9) rfl rfl ?_ ?_; rotate_left; · (intro w hSw; (try dsimp only at hSw); go_simp <;> with_reducible rfl)
       try simp only [Act.put,qA,qB,qC]
       refine tk ?_ 4 (some 10) rfl rfl ?_ ?_; rotate_left; · (intro w hSw; (try dsimp only at hSw); go_simp <;> with_reducible rfl)
       try simp only [Act.put,qA,qB,qC]
       refine st 5 rfl fun K hK => ?_
       go_simp
       refine (HF1.out _).mono ?_; rintro x X1 ⟨rfl, b1⟩
       have HL2 := hid (HL.out.keep b1); have HN2 := hid (HN.out.keep b1); have HW2 := hid (below_call HW.out b1 HW.out.size)
       clear HL HN HW b1 hHeld
       have HL := HL2; have HN := HN2; have HW := HW2
       clear HL2 HN2 HW2
       refine hK.out _ _ ?_ (fun hHeld => ?_); · ((try dsimp only); (first | exact of_cells HL.out HN.out | exact hHeld | assumption))
       clear hK K
       try simp only [Act.put,qA,qB,qC]
       refine tk ?_ 6 (some 12) rfl rfl ?_ ?_; rotate_left; · (intro w hSw; (try dsimp only at hSw); go_simp <;> with_reducible rfl)
       try simp only [Act.put,qA,qB,qC]
       refine tk ?_ 7 (some 13) rfl rfl ?_ ?_; rotate_left; · (intro w hSw; (try dsimp only at hSw); go_simp <;> with_reducible rfl)
       try simp only [Act.put,qA,qB,qC]
       refine tk ?_ 8 (some 14) rfl rfl ?_ ?_; rotate_left; · (intro w hSw; (try dsimp only at hSw); go_simp <;> with_reducible rfl)
       try simp only [Act.put,qA,qB,qC]
       refine tk ?_ 9 (some 15) rfl rfl ?_ ?_; rotate_left; · (intro w hSw; (try dsimp only at hSw); go_simp <;> with_reducible rfl)
       try simp only [Act.put,qA,qB,qC]
       refine tk ?_ 10 (some 16) rfl rfl ?_ ?_; rotate_left; · (intro w hSw; (try dsimp only at hSw); go_simp <;> with_reducible rfl)
       try simp only [Act.put,qA,qB,qC]
       refine tk ?_ 11 (some 17) rfl rfl ?_ ?_; rotate_left; · (intro w hSw; (try dsimp only at hSw); go_simp <;> with_reducible rfl)
       try simp only [Act.put,qA,qB,qC]
       refine st 12 rfl fun K hK => ?_
       go_simp
       refine (HF2.out _).mono ?_; rintro x X1 ⟨rfl, b1⟩
       have HL2 := hid (HL.out.keep b1); have HN2 := hid (HN.out.keep b1); have HW2 := hid (below_call HW.out b1 HW.out.size)
       clear HL HN HW b1 hHeld
       have HL := HL2; have HN := HN2; have HW := HW2
       clear HL2 HN2 HW2
       refine hK.out _ _ ?_ (fun hHeld => ?_); · ((try dsimp only); (first | exact of_cells HL.out HN.out | exact hHeld | assumption))
       clear hK K
       try simp only [Act.put,qA,qB,qC]
       refine tk ?_ 13 (some 19) rfl rfl ?_ ?_; rotate_left; · (intro w hSw; (try dsimp only at hSw); go_simp <;> with_reducible rfl)
       try simp only [Act.put,qA,qB,qC]
       refine tk ?_ 14 (some 20) rfl rfl ?_ ?_; rotate_left; · (intro w hSw; (try dsimp only at hSw); go_simp <;> with_reducible rfl)
       try simp only [Act.put,qA,qB,qC]
       refine tk ?_ 15 (some 21) rfl rfl ?_ ?_; rotate_left; · (intro w hSw; (try dsimp only at hSw); go_simp <;> with_reducible rfl)
       try simp only [Act.put,qA,qB,qC]
       refine tk ?_ 16 (some 22) rfl rfl ?_ ?_; rotate_left; · (intro w hSw; (try dsimp only at hSw); go_simp <;> with_reducible rfl)
       try simp only [Act.put,qA,qB,qC]
       refine tk ?_ 17 (some 23) rfl rfl ?_ ?_; rotate_left; · (intro w hSw; (try dsimp only at hSw); go_simp <;> with_reducible rfl)
       try simp only [Act.put,qA,qB,qC]
       refine tk ?_ 18 (some 24) rfl rfl ?_ ?_; rotate_left; · (intro w hSw; (try dsimp only at hSw); go_simp <;> with_reducible rfl)
       try simp only [Act.put,qA,qB,qC]
       refine tk ?_ 19 (some 25) rfl rfl ?_ ?_; rotate_left; · (intro w hSw; (try dsimp only at hSw); go_simp <;> with_reducible rfl)
       try simp only [Act.put,qA,qB,qC]
       refine st 20 rfl fun K hK => ?_
       go_simp
       refine (HF3.out _).mono ?_; rintro x X1 ⟨rfl, b1⟩
       have HL2 := hid (HL.out.keep b1); have HN2 := hid (HN.out.keep b1); have HW2 := hid (below_call HW.out b1 HW.out.size)
       clear HL HN HW b1 hHeld
       have HL := HL2; have HN := HN2; have HW := HW2
       clear HL2 HN2 HW2
       refine hK.out _ _ ?_ (fun hHeld => ?_); · ((try dsimp only); (first | exact of_cells HL.out HN.out | exact hHeld | assumption))
       clear hK K
       try simp only [Act.put,qA,qB,qC]
       refine tk ?_ 21 (some 27) rfl rfl ?_ ?_; rotate_left; · (intro w hSw; (try dsimp only at hSw); go_simp <;> with_reducible rfl)
       try simp only [Act.put,qA,qB,qC]
       refine tk ?_ 22 (some 28) rfl rfl ?_ ?_; rotate_left; · (intro w hSw; (try dsimp only at hSw); go_simp <;> with_reducible rfl)
       try simp only [Act.put,qA,qB,qC]
       refine takeD (i := 23) (v := undef) (some 29) rfl rfl (by kernel_rfl) (by kernel_rfl) (by kernel_rfl) (fun _ _ _ h => h) (Or.inr ⟨by rfl, rfl⟩) (by assumption) ?_
       try simp only [Act.put,qA,qB,qC]
       refine takeD (i := 24) (v := undef) (some 30) rfl rfl (by kernel_rfl) (by kernel_rfl) (by kernel_rfl) (fun _ _ _ h => h) (Or.inr ⟨by rfl, rfl⟩) (by assumption) ?_
       try simp only [Act.put,qA,qB,qC]
       refine takeD (i := 25) (v := undef) (some 31) rfl rfl (by kernel_rfl) (by kernel_rfl) (by kernel_rfl) (fun _ _ _ h => h) (Or.inr ⟨by rfl, rfl⟩) (by assumption) ?_
       try simp only [Act.put,qA,qB,qC]
       refine takeD (i := 26) (v := undef) (some 32) rfl rfl (by kernel_rfl) (by kernel_rfl) (by kernel_rfl) (fun _ _ _ h => h) (Or.inr ⟨by rfl, rfl⟩) (by assumption) ?_
       try simp only [Act.put,qA,qB,qC]
       refine takeD (i := 27) (v := undef) (some 33) rfl rfl (by kernel_rfl) (by kernel_rfl) (by kernel_rfl) (fun _ _ _ h => h) (Or.inr ⟨by rfl, rfl⟩) (by assumption) ?_
       try simp only [Act.put,qA,qB,qC]
       refine takeD (i := 28) (v := undef) (some 34) rfl rfl (by kernel_rfl) (by kernel_rfl) (by kernel_rfl) (fun _ _ _ h => h) (Or.inr ⟨by rfl, rfl⟩) (by assumption) ?_
       try simp only [Act.put,qA,qB,qC]
       refine tk ?_ 29 (some 35) rfl rfl ?_ ?_; rotate_left; · (intro w hSw; (try dsimp only at hSw); go_simp <;> with_reducible rfl)
       try simp only [Act.put,qA,qB,qC]
       refine tk ?_ 30 (some 36) rfl rfl ?_ ?_; rotate_left; · (intro w hSw; (try dsimp only at hSw); go_simp <;> with_reducible rfl)
       try simp only [Act.put,qA,qB,qC]
       refine takeD (i := 31) (v := undef) (some 37) rfl rfl (by kernel_rfl) (by kernel_rfl) (by kernel_rfl) (fun _ _ _ h => h) (Or.inr ⟨by rfl, rfl⟩) (by assumption) ?_
       try simp only [Act.put,qA,qB,qC]
       refine takeD (i := 32) (v := undef) (some 38) rfl rfl (by kernel_rfl) (by kernel_rfl) (by kernel_rfl) (fun _ _ _ h => h) (Or.inr ⟨by rfl, rfl⟩) (by assumption) ?_
       try simp only [Act.put,qA,qB,qC]
       refine takeD (i := 33) (v := undef) (some 39) rfl rfl (by kernel_rfl) (by kernel_rfl) (by kernel_rfl) (fun _ _ _ h => h) (Or.inr ⟨by rfl, rfl⟩) (by assumption) ?_
       try simp only [Act.put,qA,qB,qC]
       refine takeD (i := 34) (v := undef) (some 40) rfl rfl (by kernel_rfl) (by kernel_rfl) (by kernel_rfl) (fun _ _ _ h => h) (Or.inr ⟨by rfl, rfl⟩) (by assumption) ?_
       try simp only [Act.put,qA,qB,qC]
       refine takeD (i := 35) (v := undef) (some 41) rfl rfl (by kernel_rfl) (by kernel_rfl) (by kernel_rfl) (fun _ _ _ h => h) (Or.inr ⟨by rfl, rfl⟩) (by assumption) ?_
       try simp only [Act.put,qA,qB,qC]
       refine tk ?_ 36 (some 42) rfl rfl ?_ ?_; rotate_left; · (intro w hSw; (try dsimp only at hSw); go_simp <;> with_reducible rfl)
       try simp only [Act.put,qA,qB,qC]
       refine tk ?_ 37 (some 43) rfl rfl ?_ ?_; rotate_left; · (intro w hSw; (try dsimp only at hSw); go_simp <;> with_reducible rfl)
       try simp only [Act.put,qA,qB,qC]
       refine takeD (i := 38) (v := undef) (some 44) rfl rfl (by kernel_rfl) (by kernel_rfl) (by kernel_rfl) (fun _ _ _ h => h) (Or.inr ⟨by rfl, rfl⟩) (by assumption) ?_
       try simp only [Act.put,qA,qB,qC]
       refine takeD (i := 39) (v := undef) (some 45) rfl rfl (by kernel_rfl) (by kernel_rfl) (by kernel_rfl) (fun _ _ _ h => h) (Or.inr ⟨by rfl, rfl⟩) (by assumption) ?_
       try simp only [Act.put,qA,qB,qC]
       refine takeD (i := 40) (v := undef) (some 46) rfl rfl (by kernel_rfl) (by kernel_rfl) (by kernel_rfl) (fun _ _ _ h => h) (Or.inr ⟨by rfl, rfl⟩) (by assumption) ?_
       try simp only [Act.put,qA,qB,qC]
       refine tk ?_ 41 (some 47) rfl rfl ?_ ?_; rotate_left; · (intro w hSw; (try dsimp only at hSw); go_simp <;> with_reducible rfl)
       try simp only [Act.put,qA,qB,qC]
       refine tk ?_ 42 (some 4) rfl rfl ?_ ?_; rotate_left; · (intro w hSw; (try dsimp only at hSw); go_simp <;> with_reducible rfl)
       try simp only [Act.put,qA,qB,qC]
       refine wpAnyH_done (by kernel_rfl) ?_ _
       go_wp2
       go_ret
       exact ⟨by first | rfl | (simp; done), HW.out⟩
     · have g3 : decide (t ≤ kt) = true := decide_eq_true c3
       by_cases c4 : g + (b + h + t + g) ≤ kg
       rotate_left
       · have g4 : decide (g + (b + h + t + g) ≤ kg) = false := decide_eq_false c4
         rw [show (decide (b ≤ kb) && decide (h ≤ kh) && decide (t ≤ kt) && decide (g + (b + h + t + g) ≤ kg) && decide (1 ≤ b + h + t + g)) = false by rw [g4]; simp]
         rw [g1] at HF1
         rw [g2] at HF2
         rw [g3] at HF3
         rw [g4] at HF4
         clear c1 c2 c3 c4
         go_enter Tryz.func200, Tryz.ntmps200
         go_wp2_with fail
         generalize ((w.alloc (.cells #[.int .i64 b, .int .i64 0, .int .i64 h, .int .i64 0, .int .i64 t, .int .i64 0, .int .i64 g, .int .i64 (b + h + t + g)] 214)).alloc (.cells #[.int .i64 kb, .int .i64 kh, .int .i64 kt, .int .i64 kg, .bool nn] 146)) = X at *
         have HL := hid (HL.out.keep (Below.refl _ X).drew); have HN := hid (HN.out.keep (Below.refl _ X).drew); have HW := hid (below_call HW.out (Below.refl _ X).drew HW.out.size)
         refine wp_region_held_drew (S := (fun X => X.cell? ⟨w.heap.size, 0, none⟩ = some (.int .i64 b) ∧ X.cell? ⟨w.heap.size, 1, none⟩ = some (.int .i64 0) ∧ X.cell? ⟨w.heap.size, 2, none⟩ = some (.int .i64 h) ∧ X.cell? ⟨w.heap.size, 3, none⟩ = some (.int .i64 0) ∧ X.cell? ⟨w.heap.size, 4, none⟩ = some (.int .i64 t) ∧ X.cell? ⟨w.heap.size, 5, none⟩ = some (.int .i64 0) ∧ X.cell? ⟨w.heap.size, 6, none⟩ = some (.int .i64 g) ∧ X.cell? ⟨w.heap.size, 7, none⟩ = some (.int .i64 (b + h + t + g)) ∧ X.cell? ⟨w.heap.size + 1, 0, none⟩ = some (.int .i64 kb) ∧ X.cell? ⟨w.heap.size + 1, 1, none⟩ = some (.int .i64 kh) ∧ X.cell? ⟨w.heap.size + 1, 2, none⟩ = some (.int .i64 kt) ∧ X.cell? ⟨w.heap.size + 1, 3, none⟩ = some (.int .i64 kg))) (by kernel_rfl) (by (try dsimp only); (first | exact of_cells HL.out HN.out | exact hHeld | assumption)) (fun hHeld => ?_)
         refine tk ?_ 0 (some 6) rfl rfl ?_ ?_; rotate_left; · (intro w hSw; (try dsimp only at hSw); go_simp <;> with_reducible rfl)
         try simp only [Act.put,qA,qB,qC]
         refine tk ?_ 1 (some 7) rfl rfl ?_ ?_; rotate_left; · (intro w hSw; (try dsimp only at hSw); go_simp <;> with_reducible rfl)
         try simp only [Act.put,qA,qB,qC]
         refine tk ?_ 2 (some 8) rfl rfl ?_ ?_; rotate_left; · (intro w hSw; (try dsimp only at hSw); go_simp <;> with_reducible rfl)
         try simp only [Act.put,qA,qB,qC]
         refine tk ?_ 3 (some 9) rfl rfl ?_ ?_; rotate_left; · (intro w hSw; (try dsimp only at hSw); go_simp <;> with_reducible rfl)
         try simp only [Act.put,qA,qB,qC]
         refine tk ?_ 4 (some 10) rfl rfl ?_ ?_; rotate_left; · (intro w hSw; (try dsimp only at hSw); go_simp <;> with_reducible rfl)
         try simp only [Act.put,qA,qB,qC]
         refine st 5 rfl fun K hK => ?_
         go_simp
         refine (HF1.out _).mono ?_; rintro x X1 ⟨rfl, b1⟩
         have HL2 := hid (HL.out.keep b1); have HN2 := hid (HN.out.keep b1); have HW2 := hid (below_call HW.out b1 HW.out.size)
         clear HL HN HW b1 hHeld
         have HL := HL2; have HN := HN2; have HW := HW2
         clear HL2 HN2 HW2
         refine hK.out _ _ ?_ (fun hHeld => ?_); · ((try dsimp only); (first | exact of_cells HL.out HN.out | exact hHeld | assumption))
         clear hK K
         try simp only [Act.put,qA,qB,qC]
         refine tk ?_ 6 (some 12) rfl rfl ?_ ?_; rotate_left; · (intro w hSw; (try dsimp only at hSw); go_simp <;> with_reducible rfl)
         try simp only [Act.put,qA,qB,qC]
         refine tk ?_ 7 (some 13) rfl rfl ?_ ?_; rotate_left; · (intro w hSw; (try dsimp only at hSw); go_simp <;> with_reducible rfl)
         try simp only [Act.put,qA,qB,qC]
         refine tk ?_ 8 (some 14) rfl rfl ?_ ?_; rotate_left; · (intro w hSw; (try dsimp only at hSw); go_simp <;> with_reducible rfl)
         try simp only [Act.put,qA,qB,qC]
         refine tk ?_ 9 (some 15) rfl rfl ?_ ?_; rotate_left; · (intro w hSw; (try dsimp only at hSw); go_simp <;> with_reducible rfl)
         try simp only [Act.put,qA,qB,qC]
         refine tk ?_ 10 (some 16) rfl rfl ?_ ?_; rotate_left; · (intro w hSw; (try dsimp only at hSw); go_simp <;> with_reducible rfl)
         try simp only [Act.put,qA,qB,qC]
         refine tk ?_ 11 (some 17) rfl rfl ?_ ?_; rotate_left; · (intro w hSw; (try dsimp only at hSw); go_simp <;> with_reducible rfl)
         try simp only [Act.put,qA,qB,qC]
         refine st 12 rfl fun K hK => ?_
         go_simp
         refine (HF2.out _).mono ?_; rintro x X1 ⟨rfl, b1⟩
         have HL2 := hid (HL.out.keep b1); have HN2 := hid (HN.out.keep b1); have HW2 := hid (below_call HW.out b1 HW.out.size)
         clear HL HN HW b1 hHeld
         have HL := HL2; have HN := HN2; have HW := HW2
         clear HL2 HN2 HW2
         refine hK.out _ _ ?_ (fun hHeld => ?_); · ((try dsimp only); (first | exact of_cells HL.out HN.out | exact hHeld | assumption))
         clear hK K
         try simp only [Act.put,qA,qB,qC]
         refine tk ?_ 13 (some 19) rfl rfl ?_ ?_; rotate_left; · (intro w hSw; (try dsimp only at hSw); go_simp <;> with_reducible rfl)
         try simp only [Act.put,qA,qB,qC]
         refine tk ?_ 14 (some 20) rfl rfl ?_ ?_; rotate_left; · (intro w hSw; (try dsimp only at hSw); go_simp <;> with_reducible rfl)
         try simp only [Act.put,qA,qB,qC]
         refine tk ?_ 15 (some 21) rfl rfl ?_ ?_; rotate_left; · (intro w hSw; (try dsimp only at hSw); go_simp <;> with_reducible rfl)
         try simp only [Act.put,qA,qB,qC]
         refine tk ?_ 16 (some 22) rfl rfl ?_ ?_; rotate_left; · (intro w hSw; (try dsimp only at hSw); go_simp <;> with_reducible rfl)
         try simp only [Act.put,qA,qB,qC]
         refine tk ?_ 17 (some 23) rfl rfl ?_ ?_; rotate_left; · (intro w hSw; (try dsimp only at hSw); go_simp <;> with_reducible rfl)
         try simp only [Act.put,qA,qB,qC]
         refine tk ?_ 18 (some 24) rfl rfl ?_ ?_; rotate_left; · (intro w hSw; (try dsimp only at hSw); go_simp <;> with_reducible rfl)
         try simp only [Act.put,qA,qB,qC]
         refine tk ?_ 19 (some 25) rfl rfl ?_ ?_; rotate_left; · (intro w hSw; (try dsimp only at hSw); go_simp <;> with_reducible rfl)
         try simp only [Act.put,qA,qB,qC]
         refine st 20 rfl fun K hK => ?_
         go_simp
         refine (HF3.out _).mono ?_; rintro x X1 ⟨rfl, b1⟩
         have HL2 := hid (HL.out.keep b1); have HN2 := hid (HN.out.keep b1); have HW2 := hid (below_call HW.out b1 HW.out.size)
         clear HL HN HW b1 hHeld
         have HL := HL2; have HN := HN2; have HW := HW2
         clear HL2 HN2 HW2
         refine hK.out _ _ ?_ (fun hHeld => ?_); · ((try dsimp only); (first | exact of_cells HL.out HN.out | exact hHeld | assumption))
         clear hK K
         try simp only [Act.put,qA,qB,qC]
         refine tk ?_ 21 (some 27) rfl rfl ?_ ?_; rotate_left; · (intro w hSw; (try dsimp only at hSw); go_simp <;> with_reducible rfl)
         try simp only [Act.put,qA,qB,qC]
         refine tk ?_ 22 (some 28) rfl rfl ?_ ?_; rotate_left; · (intro w hSw; (try dsimp only at hSw); go_simp <;> with_reducible rfl)
         try simp only [Act.put,qA,qB,qC]
         refine tk ?_ 23 (some 29) rfl rfl ?_ ?_; rotate_left; · (intro w hSw; (try dsimp only at hSw); go_simp <;> with_reducible rfl)
         try simp only [Act.put,qA,qB,qC]
         refine tk ?_ 24 (some 30) rfl rfl ?_ ?_; rotate_left; · (intro w hSw; (try dsimp only at hSw); go_simp <;> with_reducible rfl)
         try simp only [Act.put,qA,qB,qC]
         refine tk ?_ 25 (some 31) rfl rfl ?_ ?_; rotate_left; · (intro w hSw; (try dsimp only at hSw); go_simp <;> with_reducible rfl)
         try simp only [Act.put,qA,qB,qC]
         refine tk ?_ 26 (some 32) rfl rfl ?_ ?_; rotate_left; · (intro w hSw; (try dsimp only at hSw); go_simp <;> with_reducible rfl)
         try simp only [Act.put,qA,qB,qC]
         refine tk ?_ 27 (some 33) rfl rfl ?_ ?_; rotate_left; · (intro w hSw; (try dsimp only at hSw); go_simp <;> with_reducible rfl)
         try simp only [Act.put,qA,qB,qC]
         refine st 28 rfl fun K hK => ?_
         go_simp
         refine (HF4.out _).mono ?_; rintro x X1 ⟨rfl, b1⟩
         have HL2 := hid (HL.out.keep b1); have HN2 := hid (HN.out.keep b1); have HW2 := hid (below_call HW.out b1 HW.out.size)
         clear HL HN HW b1 hHeld
         have HL := HL2; have HN := HN2; have HW := HW2
         clear HL2 HN2 HW2
         refine hK.out _ _ ?_ (fun hHeld => ?_); · ((try dsimp only); (first | exact of_cells HL.out HN.out | exact hHeld | assumption))
         clear hK K
         try simp only [Act.put,qA,qB,qC]
         refine tk ?_ 29 (some 35) rfl rfl ?_ ?_; rotate_left; · (intro w hSw; (try dsimp only at hSw); go_simp <;> with_reducible rfl)
         try simp only [Act.put,qA,qB,qC]
         refine tk ?_ 30 (some 36) rfl rfl ?_ ?_; rotate_left; · (intro w hSw; (try dsimp only at hSw); go_simp <;> with_reducible rfl)
         try simp only [Act.put,qA,qB,qC]
         refine takeD (i := 31) (v := undef) (some 37) rfl rfl (by kernel_rfl) (by kernel_rfl) (by kernel_rfl) (fun _ _ _ h => h) (Or.inr ⟨by rfl, rfl⟩) (by assumption) ?_
         try simp only [Act.put,qA,qB,qC]
         refine takeD (i := 32) (v := undef) (some 38) rfl rfl (by kernel_rfl) (by kernel_rfl) (by kernel_rfl) (fun _ _ _ h => h) (Or.inr ⟨by rfl, rfl⟩) (by assumption) ?_
         try simp only [Act.put,qA,qB,qC]
         refine takeD (i := 33) (v := undef) (some 39) rfl rfl (by kernel_rfl) (by kernel_rfl) (by kernel_rfl) (fun _ _ _ h => h) (Or.inr ⟨by rfl, rfl⟩) (by assumption) ?_
         try simp only [Act.put,qA,qB,qC]
         refine takeD (i := 34) (v := undef) (some 40) rfl rfl (by kernel_rfl) (by kernel_rfl) (by kernel_rfl) (fun _ _ _ h => h) (Or.inr ⟨by rfl, rfl⟩) (by assumption) ?_
         try simp only [Act.put,qA,qB,qC]
         refine takeD (i := 35) (v := undef) (some 41) rfl rfl (by kernel_rfl) (by kernel_rfl) (by kernel_rfl) (fun _ _ _ h => h) (Or.inr ⟨by rfl, rfl⟩) (by assumption) ?_
         try simp only [Act.put,qA,qB,qC]
         refine tk ?_ 36 (some 42) rfl rfl ?_ ?_; rotate_left; · (intro w hSw; (try dsimp only at hSw); go_simp <;> with_reducible rfl)
         try simp only [Act.put,qA,qB,qC]
         refine tk ?_ 37 (some 43) rfl rfl ?_ ?_; rotate_left; · (intro w hSw; (try dsimp only at hSw); go_simp <;> with_reducible rfl)
         try simp only [Act.put,qA,qB,qC]
         refine takeD (i := 38) (v := undef) (some 44) rfl rfl (by kernel_rfl) (by kernel_rfl) (by kernel_rfl) (fun _ _ _ h => h) (Or.inr ⟨by rfl, rfl⟩) (by assumption) ?_
         try simp only [Act.put,qA,qB,qC]
         refine takeD (i := 39) (v := undef) (some 45) rfl rfl (by kernel_rfl) (by kernel_rfl) (by kernel_rfl) (fun _ _ _ h => h) (Or.inr ⟨by rfl, rfl⟩) (by assumption) ?_
         try simp only [Act.put,qA,qB,qC]
         refine takeD (i := 40) (v := undef) (some 46) rfl rfl (by kernel_rfl) (by kernel_rfl) (by kernel_rfl) (fun _ _ _ h => h) (Or.inr ⟨by rfl, rfl⟩) (by assumption) ?_
         try simp only [Act.put,qA,qB,qC]
         refine tk ?_ 41 (some 47) rfl rfl ?_ ?_; rotate_left; · (intro w hSw; (try dsimp only at hSw); go_simp <;> with_reducible rfl)
         try simp only [Act.put,qA,qB,qC]
         refine tk ?_ 42 (some 4) rfl rfl ?_ ?_; rotate_left; · (intro w hSw; (try dsimp only at hSw); go_simp <;> with_reducible rfl)
         try simp only [Act.put,qA,qB,qC]
         refine wpAnyH_done (by kernel_rfl) ?_ _
         go_wp2
         go_ret
         exact ⟨by first | rfl | (simp; done), HW.out⟩
       · have g4 : decide (g + (b + h + t + g) ≤ kg) = true := decide_eq_true c4
         by_cases c5 : 1 ≤ b + h + t + g
         rotate_left
         · have g5 : decide (1 ≤ b + h + t + g) = false := decide_eq_false c5
           rw [show (decide (b ≤ kb) && decide (h ≤ kh) && decide (t ≤ kt) && decide (g + (b + h + t + g) ≤ kg) && decide (1 ≤ b + h + t + g)) = false by rw [g5]; simp]
           rw [g1] at HF1
           rw [g2] at HF2
           rw [g3] at HF3
           rw [g4] at HF4
           clear c1 c2 c3 c4 c5
           go_enter Tryz.func200, Tryz.ntmps200
           go_wp2_with fail
           generalize ((w.alloc (.cells #[.int .i64 b, .int .i64 0, .int .i64 h, .int .i64 0, .int .i64 t, .int .i64 0, .int .i64 g, .int .i64 (b + h + t + g)] 214)).alloc (.cells #[.int .i64 kb, .int .i64 kh, .int .i64 kt, .int .i64 kg, .bool nn] 146)) = X at *
           have HL := hid (HL.out.keep (Below.refl _ X).drew); have HN := hid (HN.out.keep (Below.refl _ X).drew); have HW := hid (below_call HW.out (Below.refl _ X).drew HW.out.size)
           refine wp_region_held_drew (S := (fun X => X.cell? ⟨w.heap.size, 0, none⟩ = some (.int .i64 b) ∧ X.cell? ⟨w.heap.size, 1, none⟩ = some (.int .i64 0) ∧ X.cell? ⟨w.heap.size, 2, none⟩ = some (.int .i64 h) ∧ X.cell? ⟨w.heap.size, 3, none⟩ = some (.int .i64 0) ∧ X.cell? ⟨w.heap.size, 4, none⟩ = some (.int .i64 t) ∧ X.cell? ⟨w.heap.size, 5, none⟩ = some (.int .i64 0) ∧ X.cell? ⟨w.heap.size, 6, none⟩ = some (.int .i64 g) ∧ X.cell? ⟨w.heap.size, 7, none⟩ = some (.int .i64 (b + h + t + g)) ∧ X.cell? ⟨w.heap.size + 1, 0, none⟩ = some (.int .i64 kb) ∧ X.cell? ⟨w.heap.size + 1, 1, none⟩ = some (.int .i64 kh) ∧ X.cell? ⟨w.heap.size + 1, 2, none⟩ = some (.int .i64 kt) ∧ X.cell? ⟨w.heap.size + 1, 3, none⟩ = some (.int .i64 kg))) (by kernel_rfl) (by (try dsimp only); (first | exact of_cells HL.out HN.out | exact hHeld | assumption)) (fun hHeld => ?_)
           refine tk ?_ 0 (some 6) rfl rfl ?_ ?_; rotate_left; · (intro w hSw; (try dsimp only at hSw); go_simp <;> with_reducible rfl)
           try simp only [Act.put,qA,qB,qC]
           refine tk ?_ 1 (some 7) rfl rfl ?_ ?_; rotate_left; · (intro w hSw; (try dsimp only at hSw); go_simp <;> with_reducible rfl)
           try simp only [Act.put,qA,qB,qC]
           refine tk ?_ 2 (some 8) rfl rfl ?_ ?_; rotate_left; · (intro w hSw; (try dsimp only at hSw); go_simp <;> with_reducible rfl)
           try simp only [Act.put,qA,qB,qC]
           refine tk ?_ 3 (some 9) rfl rfl ?_ ?_; rotate_left; · (intro w hSw; (try dsimp only at hSw); go_simp <;> with_reducible rfl)
           try simp only [Act.put,qA,qB,qC]
           refine tk ?_ 4 (some 10) rfl rfl ?_ ?_; rotate_left; · (intro w hSw; (try dsimp only at hSw); go_simp <;> with_reducible rfl)
           try simp only [Act.put,qA,qB,qC]
           refine st 5 rfl fun K hK => ?_
           go_simp
           refine (HF1.out _).mono ?_; rintro x X1 ⟨rfl, b1⟩
           have HL2 := hid (HL.out.keep b1); have HN2 := hid (HN.out.keep b1); have HW2 := hid (below_call HW.out b1 HW.out.size)
           clear HL HN HW b1 hHeld
           have HL := HL2; have HN := HN2; have HW := HW2
           clear HL2 HN2 HW2
           refine hK.out _ _ ?_ (fun hHeld => ?_); · ((try dsimp only); (first | exact of_cells HL.out HN.out | exact hHeld | assumption))
           clear hK K
           try simp only [Act.put,qA,qB,qC]
           refine tk ?_ 6 (some 12) rfl rfl ?_ ?_; rotate_left; · (intro w hSw; (try dsimp only at hSw); go_simp <;> with_reducible rfl)
           try simp only [Act.put,qA,qB,qC]
           refine tk ?_ 7 (some 13) rfl rfl ?_ ?_; rotate_left; · (intro w hSw; (try dsimp only at hSw); go_simp <;> with_reducible rfl)
           try simp only [Act.put,qA,qB,qC]
           refine tk ?_ 8 (some 14) rfl rfl ?_ ?_; rotate_left; · (intro w hSw; (try dsimp only at hSw); go_simp <;> with_reducible rfl)
           try simp only [Act.put,qA,qB,qC]
           refine tk ?_ 9 (some 15) rfl rfl ?_ ?_; rotate_left; · (intro w hSw; (try dsimp only at hSw); go_simp <;> with_reducible rfl)
           try simp only [Act.put,qA,qB,qC]
           refine tk ?_ 10 (some 16) rfl rfl ?_ ?_; rotate_left; · (intro w hSw; (try dsimp only at hSw); go_simp <;> with_reducible rfl)
           try simp only [Act.put,qA,qB,qC]
           refine tk ?_ 11 (some 17) rfl rfl ?_ ?_; rotate_left; · (intro w hSw; (try dsimp only at hSw); go_simp <;> with_reducible rfl)
           try simp only [Act.put,qA,qB,qC]
           refine st 12 rfl fun K hK => ?_
           go_simp
           refine (HF2.out _).mono ?_; rintro x X1 ⟨rfl, b1⟩
           have HL2 := hid (HL.out.keep b1); have HN2 := hid (HN.out.keep b1); have HW2 := hid (below_call HW.out b1 HW.out.size)
           clear HL HN HW b1 hHeld
           have HL := HL2; have HN := HN2; have HW := HW2
           clear HL2 HN2 HW2
           refine hK.out _ _ ?_ (fun hHeld => ?_); · ((try dsimp only); (first | exact of_cells HL.out HN.out | exact hHeld | assumption))
           clear hK K
           try simp only [Act.put,qA,qB,qC]
           refine tk ?_ 13 (some 19) rfl rfl ?_ ?_; rotate_left; · (intro w hSw; (try dsimp only at hSw); go_simp <;> with_reducible rfl)
           try simp only [Act.put,qA,qB,qC]
           refine tk ?_ 14 (some 20) rfl rfl ?_ ?_; rotate_left; · (intro w hSw; (try dsimp only at hSw); go_simp <;> with_reducible rfl)
           try simp only [Act.put,qA,qB,qC]
           refine tk ?_ 15 (some 21) rfl rfl ?_ ?_; rotate_left; · (intro w hSw; (try dsimp only at hSw); go_simp <;> with_reducible rfl)
           try simp only [Act.put,qA,qB,qC]
           refine tk ?_ 16 (some 22) rfl rfl ?_ ?_; rotate_left; · (intro w hSw; (try dsimp only at hSw); go_simp <;> with_reducible rfl)
           try simp only [Act.put,qA,qB,qC]
           refine tk ?_ 17 (some 23) rfl rfl ?_ ?_; rotate_left; · (intro w hSw; (try dsimp only at hSw); go_simp <;> with_reducible rfl)
           try simp only [Act.put,qA,qB,qC]
           refine tk ?_ 18 (some 24) rfl rfl ?_ ?_; rotate_left; · (intro w hSw; (try dsimp only at hSw); go_simp <;> with_reducible rfl)
           try simp only [Act.put,qA,qB,qC]
           refine tk ?_ 19 (some 25) rfl rfl ?_ ?_; rotate_left; · (intro w hSw; (try dsimp only at hSw); go_simp <;> with_reducible rfl)
           try simp only [Act.put,qA,qB,qC]
           refine st 20 rfl fun K hK => ?_
           go_simp
           refine (HF3.out _).mono ?_; rintro x X1 ⟨rfl, b1⟩
           have HL2 := hid (HL.out.keep b1); have HN2 := hid (HN.out.keep b1); have HW2 := hid (below_call HW.out b1 HW.out.size)
           clear HL HN HW b1 hHeld
           have HL := HL2; have HN := HN2; have HW := HW2
           clear HL2 HN2 HW2
           refine hK.out _ _ ?_ (fun hHeld => ?_); · ((try dsimp only); (first | exact of_cells HL.out HN.out | exact hHeld | assumption))
           clear hK K
           try simp only [Act.put,qA,qB,qC]
           refine tk ?_ 21 (some 27) rfl rfl ?_ ?_; rotate_left; · (intro w hSw; (try dsimp only at hSw); go_simp <;> with_reducible rfl)
           try simp only [Act.put,qA,qB,qC]
           refine tk ?_ 22 (some 28) rfl rfl ?_ ?_; rotate_left; · (intro w hSw; (try dsimp only at hSw); go_simp <;> with_reducible rfl)
           try simp only [Act.put,qA,qB,qC]
           refine tk ?_ 23 (some 29) rfl rfl ?_ ?_; rotate_left; · (intro w hSw; (try dsimp only at hSw); go_simp <;> with_reducible rfl)
           try simp only [Act.put,qA,qB,qC]
           refine tk ?_ 24 (some 30) rfl rfl ?_ ?_; rotate_left; · (intro w hSw; (try dsimp only at hSw); go_simp <;> with_reducible rfl)
           try simp only [Act.put,qA,qB,qC]
           refine tk ?_ 25 (some 31) rfl rfl ?_ ?_; rotate_left; · (intro w hSw; (try dsimp only at hSw); go_simp <;> with_reducible rfl)
           try simp only [Act.put,qA,qB,qC]
           refine tk ?_ 26 (some 32) rfl rfl ?_ ?_; rotate_left; · (intro w hSw; (try dsimp only at hSw); go_simp <;> with_reducible rfl)
           try simp only [Act.put,qA,qB,qC]
           refine tk ?_ 27 (some 33) rfl rfl ?_ ?_; rotate_left; · (intro w hSw; (try dsimp only at hSw); go_simp <;> with_reducible rfl)
           try simp only [Act.put,qA,qB,qC]
           refine st 28 rfl fun K hK => ?_
           go_simp
           refine (HF4.out _).mono ?_; rintro x X1 ⟨rfl, b1⟩
           have HL2 := hid (HL.out.keep b1); have HN2 := hid (HN.out.keep b1); have HW2 := hid (below_call HW.out b1 HW.out.size)
           clear HL HN HW b1 hHeld
           have HL := HL2; have HN := HN2; have HW := HW2
           clear HL2 HN2 HW2
           refine hK.out _ _ ?_ (fun hHeld => ?_); · ((try dsimp only); (first | exact of_cells HL.out HN.out | exact hHeld | assumption))
           clear hK K
           try simp only [Act.put,qA,qB,qC]
           refine tk ?_ 29 (some 35) rfl rfl ?_ ?_; rotate_left; · (intro w hSw; (try dsimp only at hSw); go_simp <;> with_reducible rfl)
           try simp only [Act.put,qA,qB,qC]
           refine tk ?_ 30 (some 36) rfl rfl ?_ ?_; rotate_left; · (intro w hSw; (try dsimp only at hSw); go_simp <;> with_reducible rfl)
           try simp only [Act.put,qA,qB,qC]
           refine tk ?_ 31 (some 37) rfl rfl ?_ ?_; rotate_left; · (intro w hSw; (try dsimp only at hSw); go_simp <;> with_reducible rfl)
           try simp only [Act.put,qA,qB,qC]
           refine tk ?_ 33 (some 39) rfl rfl ?_ ?_; rotate_left; · (intro w hSw; (try dsimp only at hSw); go_simp <;> with_reducible rfl)
           try simp only [Act.put,qA,qB,qC]
           refine st 32 rfl fun K hK => ?_
           go_simp
           refine (HP0.out _).mono ?_; rintro x X1 ⟨rfl, b1⟩
           have HL2 := hid (HL.out.keep b1); have HN2 := hid (HN.out.keep b1); have HW2 := hid (below_call HW.out b1 HW.out.size)
           clear HL HN HW b1 hHeld
           have HL := HL2; have HN := HN2; have HW := HW2
           clear HL2 HN2 HW2
           refine hK.out _ _ ?_ (fun hHeld => ?_); · ((try dsimp only); (first | exact of_cells HL.out HN.out | exact hHeld | assumption))
           clear hK K
           try simp only [Act.put,qA,qB,qC]
           refine st 34 rfl fun K hK => ?_
           go_simp
           refine (HP1.out _).mono ?_; rintro x X1 ⟨rfl, b1⟩
           have HL2 := hid (HL.out.keep b1); have HN2 := hid (HN.out.keep b1); have HW2 := hid (below_call HW.out b1 HW.out.size)
           clear HL HN HW b1 hHeld
           have HL := HL2; have HN := HN2; have HW := HW2
           clear HL2 HN2 HW2
           refine hK.out _ _ ?_ (fun hHeld => ?_); · ((try dsimp only); (first | exact of_cells HL.out HN.out | exact hHeld | assumption))
           clear hK K
           try simp only [Act.put,qA,qB,qC]
           refine tk ?_ 35 (some 41) rfl rfl ?_ ?_; rotate_left; · (intro w hSw; (try dsimp only at hSw); go_simp <;> with_reducible rfl)
           try simp only [Act.put,qA,qB,qC]
           refine tk ?_ 36 (some 42) rfl rfl ?_ ?_; rotate_left; · (intro w hSw; (try dsimp only at hSw); go_simp <;> with_reducible rfl)
           try simp only [Act.put,qA,qB,qC]
           refine tk ?_ 37 (some 43) rfl rfl ?_ ?_; rotate_left; · (intro w hSw; (try dsimp only at hSw); go_simp <;> with_reducible rfl)
           try simp only [Act.put,qA,qB,qC]
           refine tk ?_ 38 (some 44) rfl rfl ?_ ?_; rotate_left; · (intro w hSw; (try dsimp only at hSw); go_simp <;> with_reducible rfl)
           try simp only [Act.put,qA,qB,qC]
           refine st 39 rfl fun K hK => ?_
           go_simp
           refine (HP0.out _).mono ?_; rintro x X1 ⟨rfl, b1⟩
           have HL2 := hid (HL.out.keep b1); have HN2 := hid (HN.out.keep b1); have HW2 := hid (below_call HW.out b1 HW.out.size)
           clear HL HN HW b1 hHeld
           have HL := HL2; have HN := HN2; have HW := HW2
           clear HL2 HN2 HW2
           refine hK.out _ _ ?_ (fun hHeld => ?_); · ((try dsimp only); (first | exact of_cells HL.out HN.out | exact hHeld | assumption))
           clear hK K
           try simp only [Act.put,qA,qB,qC]
           refine tk ?_ 40 (some 46) rfl rfl ?_ ?_; rotate_left; · (intro w hSw; (try dsimp only at hSw); go_simp <;> with_reducible rfl)
           try simp only [Act.put,qA,qB,qC]
           refine tk ?_ 41 (some 47) rfl rfl ?_ ?_; rotate_left; · (intro w hSw; (try dsimp only at hSw); go_simp <;> with_reducible rfl)
           try simp only [Act.put,qA,qB,qC]
           refine tk ?_ 42 (some 4) rfl rfl ?_ ?_; rotate_left; · (intro w hSw; (try dsimp only at hSw); go_simp <;> with_reducible rfl)
           try simp only [Act.put,qA,qB,qC]
           refine wpAnyH_done (by kernel_rfl) ?_ _
           go_wp2
           go_ret
           exact ⟨by first | rfl | (simp; done), HW.out⟩
         · have g5 : decide (1 ≤ b + h + t + g) = true := decide_eq_true c5
           rw [show (decide (b ≤ kb) && decide (h ≤ kh) && decide (t ≤ kt) && decide (g + (b + h + t + g) ≤ kg) && decide (1 ≤ b + h + t + g)) = true by rw [g1, g2, g3, g4, g5]; rfl]
           rw [g1] at HF1
           rw [g2] at HF2
           rw [g3] at HF3
           rw [g4] at HF4
           clear c1 c2 c3 c4 c5
           go_enter Tryz.func200, Tryz.ntmps200
           go_wp2_with fail
           generalize ((w.alloc (.cells #[.int .i64 b, .int .i64 0, .int .i64 h, .int .i64 0, .int .i64 t, .int .i64 0, .int .i64 g, .int .i64 (b + h + t + g)] 214)).alloc (.cells #[.int .i64 kb, .int .i64 kh, .int .i64 kt, .int .i64 kg, .bool nn] 146)) = X at *
           have HL := hid (HL.out.keep (Below.refl _ X).drew); have HN := hid (HN.out.keep (Below.refl _ X).drew); have HW := hid (below_call HW.out (Below.refl _ X).drew HW.out.size)
           refine wp_region_held_drew (S := (fun X => X.cell? ⟨w.heap.size, 0, none⟩ = some (.int .i64 b) ∧ X.cell? ⟨w.heap.size, 1, none⟩ = some (.int .i64 0) ∧ X.cell? ⟨w.heap.size, 2, none⟩ = some (.int .i64 h) ∧ X.cell? ⟨w.heap.size, 3, none⟩ = some (.int .i64 0) ∧ X.cell? ⟨w.heap.size, 4, none⟩ = some (.int .i64 t) ∧ X.cell? ⟨w.heap.size, 5, none⟩ = some (.int .i64 0) ∧ X.cell? ⟨w.heap.size, 6, none⟩ = some (.int .i64 g) ∧ X.cell? ⟨w.heap.size, 7, none⟩ = some (.int .i64 (b + h + t + g)) ∧ X.cell? ⟨w.heap.size + 1, 0, none⟩ = some (.int .i64 kb) ∧ X.cell? ⟨w.heap.size + 1, 1, none⟩ = some (.int .i64 kh) ∧ X.cell? ⟨w.heap.size + 1, 2, none⟩ = some (.int .i64 kt) ∧ X.cell? ⟨w.heap.size + 1, 3, none⟩ = some (.int .i64 kg))) (by kernel_rfl) (by (try dsimp only); (first | exact of_cells HL.out HN.out | exact hHeld | assumption)) (fun hHeld => ?_)
           refine tk ?_ 0 (some 6) rfl rfl ?_ ?_; rotate_left; · (intro w hSw; (try dsimp only at hSw); go_simp <;> with_reducible rfl)
           try simp only [Act.put,qA,qB,qC]
           refine tk ?_ 1 (some 7) rfl rfl ?_ ?_; rotate_left; · (intro w hSw; (try dsimp only at hSw); go_simp <;> with_reducible rfl)
           try simp only [Act.put,qA,qB,qC]
           refine tk ?_ 2 (some 8) rfl rfl ?_ ?_; rotate_left; · (intro w hSw; (try dsimp only at hSw); go_simp <;> with_reducible rfl)
           try simp only [Act.put,qA,qB,qC]
           refine tk ?_ 3 (some 9) rfl rfl ?_ ?_; rotate_left; · (intro w hSw; (try dsimp only at hSw); go_simp <;> with_reducible rfl)
           try simp only [Act.put,qA,qB,qC]
           refine tk ?_ 4 (some 10) rfl rfl ?_ ?_; rotate_left; · (intro w hSw; (try dsimp only at hSw); go_simp <;> with_reducible rfl)
           try simp only [Act.put,qA,qB,qC]
           refine st 5 rfl fun K hK => ?_
           go_simp
           refine (HF1.out _).mono ?_; rintro x X1 ⟨rfl, b1⟩
           have HL2 := hid (HL.out.keep b1); have HN2 := hid (HN.out.keep b1); have HW2 := hid (below_call HW.out b1 HW.out.size)
           clear HL HN HW b1 hHeld
           have HL := HL2; have HN := HN2; have HW := HW2
           clear HL2 HN2 HW2
           refine hK.out _ _ ?_ (fun hHeld => ?_); · ((try dsimp only); (first | exact of_cells HL.out HN.out | exact hHeld | assumption))
           clear hK K
           try simp only [Act.put,qA,qB,qC]
           refine tk ?_ 6 (some 12) rfl rfl ?_ ?_; rotate_left; · (intro w hSw; (try dsimp only at hSw); go_simp <;> with_reducible rfl)
           try simp only [Act.put,qA,qB,qC]
           refine tk ?_ 7 (some 13) rfl rfl ?_ ?_; rotate_left; · (intro w hSw; (try dsimp only at hSw); go_simp <;> with_reducible rfl)
           try simp only [Act.put,qA,qB,qC]
           refine tk ?_ 8 (some 14) rfl rfl ?_ ?_; rotate_left; · (intro w hSw; (try dsimp only at hSw); go_simp <;> with_reducible rfl)
           try simp only [Act.put,qA,qB,qC]
           refine tk ?_ 9 (some 15) rfl rfl ?_ ?_; rotate_left; · (intro w hSw; (try dsimp only at hSw); go_simp <;> with_reducible rfl)
           try simp only [Act.put,qA,qB,qC]
           refine tk ?_ 10 (some 16) rfl rfl ?_ ?_; rotate_left; · (intro w hSw; (try dsimp only at hSw); go_simp <;> with_reducible rfl)
           try simp only [Act.put,qA,qB,qC]
           refine tk ?_ 11 (some 17) rfl rfl ?_ ?_; rotate_left; · (intro w hSw; (try dsimp only at hSw); go_simp <;> with_reducible rfl)
           try simp only [Act.put,qA,qB,qC]
           refine st 12 rfl fun K hK => ?_
           go_simp
           refine (HF2.out _).mono ?_; rintro x X1 ⟨rfl, b1⟩
           have HL2 := hid (HL.out.keep b1); have HN2 := hid (HN.out.keep b1); have HW2 := hid (below_call HW.out b1 HW.out.size)
           clear HL HN HW b1 hHeld
           have HL := HL2; have HN := HN2; have HW := HW2
           clear HL2 HN2 HW2
           refine hK.out _ _ ?_ (fun hHeld => ?_); · ((try dsimp only); (first | exact of_cells HL.out HN.out | exact hHeld | assumption))
           clear hK K
           try simp only [Act.put,qA,qB,qC]
           refine tk ?_ 13 (some 19) rfl rfl ?_ ?_; rotate_left; · (intro w hSw; (try dsimp only at hSw); go_simp <;> with_reducible rfl)
           try simp only [Act.put,qA,qB,qC]
           refine tk ?_ 14 (some 20) rfl rfl ?_ ?_; rotate_left; · (intro w hSw; (try dsimp only at hSw); go_simp <;> with_reducible rfl)
           try simp only [Act.put,qA,qB,qC]
           refine tk ?_ 15 (some 21) rfl rfl ?_ ?_; rotate_left; · (intro w hSw; (try dsimp only at hSw); go_simp <;> with_reducible rfl)
           try simp only [Act.put,qA,qB,qC]
           refine tk ?_ 16 (some 22) rfl rfl ?_ ?_; rotate_left; · (intro w hSw; (try dsimp only at hSw); go_simp <;> with_reducible rfl)
           try simp only [Act.put,qA,qB,qC]
           refine tk ?_ 17 (some 23) rfl rfl ?_ ?_; rotate_left; · (intro w hSw; (try dsimp only at hSw); go_simp <;> with_reducible rfl)
           try simp only [Act.put,qA,qB,qC]
           refine tk ?_ 18 (some 24) rfl rfl ?_ ?_; rotate_left; · (intro w hSw; (try dsimp only at hSw); go_simp <;> with_reducible rfl)
           try simp only [Act.put,qA,qB,qC]
           refine tk ?_ 19 (some 25) rfl rfl ?_ ?_; rotate_left; · (intro w hSw; (try dsimp only at hSw); go_simp <;> with_reducible rfl)
           try simp only [Act.put,qA,qB,qC]
           refine st 20 rfl fun K hK => ?_
           go_simp
           refine (HF3.out _).mono ?_; rintro x X1 ⟨rfl, b1⟩
           have HL2 := hid (HL.out.keep b1); have HN2 := hid (HN.out.keep b1); have HW2 := hid (below_call HW.out b1 HW.out.size)
           clear HL HN HW b1 hHeld
           have HL := HL2; have HN := HN2; have HW := HW2
           clear HL2 HN2 HW2
           refine hK.out _ _ ?_ (fun hHeld => ?_); · ((try dsimp only); (first | exact of_cells HL.out HN.out | exact hHeld | assumption))
           clear hK K
           try simp only [Act.put,qA,qB,qC]
           refine tk ?_ 21 (some 27) rfl rfl ?_ ?_; rotate_left; · (intro w hSw; (try dsimp only at hSw); go_simp <;> with_reducible rfl)
           try simp only [Act.put,qA,qB,qC]
           refine tk ?_ 22 (some 28) rfl rfl ?_ ?_; rotate_left; · (intro w hSw; (try dsimp only at hSw); go_simp <;> with_reducible rfl)
           try simp only [Act.put,qA,qB,qC]
           refine tk ?_ 23 (some 29) rfl rfl ?_ ?_; rotate_left; · (intro w hSw; (try dsimp only at hSw); go_simp <;> with_reducible rfl)
           try simp only [Act.put,qA,qB,qC]
           refine tk ?_ 24 (some 30) rfl rfl ?_ ?_; rotate_left; · (intro w hSw; (try dsimp only at hSw); go_simp <;> with_reducible rfl)
           try simp only [Act.put,qA,qB,qC]
           refine tk ?_ 25 (some 31) rfl rfl ?_ ?_; rotate_left; · (intro w hSw; (try dsimp only at hSw); go_simp <;> with_reducible rfl)
           try simp only [Act.put,qA,qB,qC]
           refine tk ?_ 26 (some 32) rfl rfl ?_ ?_; rotate_left; · (intro w hSw; (try dsimp only at hSw); go_simp <;> with_reducible rfl)
           try simp only [Act.put,qA,qB,qC]
           refine tk ?_ 27 (some 33) rfl rfl ?_ ?_; rotate_left; · (intro w hSw; (try dsimp only at hSw); go_simp <;> with_reducible rfl)
           try simp only [Act.put,qA,qB,qC]
           refine st 28 rfl fun K hK => ?_
           go_simp
           refine (HF4.out _).mono ?_; rintro x X1 ⟨rfl, b1⟩
           have HL2 := hid (HL.out.keep b1); have HN2 := hid (HN.out.keep b1); have HW2 := hid (below_call HW.out b1 HW.out.size)
           clear HL HN HW b1 hHeld
           have HL := HL2; have HN := HN2; have HW := HW2
           clear HL2 HN2 HW2
           refine hK.out _ _ ?_ (fun hHeld => ?_); · ((try dsimp only); (first | exact of_cells HL.out HN.out | exact hHeld | assumption))
           clear hK K
           try simp only [Act.put,qA,qB,qC]
           refine tk ?_ 29 (some 35) rfl rfl ?_ ?_; rotate_left; · (intro w hSw; (try dsimp only at hSw); go_simp <;> with_reducible rfl)
           try simp only [Act.put,qA,qB,qC]
           refine tk ?_ 30 (some 36) rfl rfl ?_ ?_; rotate_left; · (intro w hSw; (try dsimp only at hSw); go_simp <;> with_reducible rfl)
           try simp only [Act.put,qA,qB,qC]
           refine tk ?_ 31 (some 37) rfl rfl ?_ ?_; rotate_left; · (intro w hSw; (try dsimp only at hSw); go_simp <;> with_reducible rfl)
           try simp only [Act.put,qA,qB,qC]
           refine tk ?_ 33 (some 39) rfl rfl ?_ ?_; rotate_left; · (intro w hSw; (try dsimp only at hSw); go_simp <;> with_reducible rfl)
           try simp only [Act.put,qA,qB,qC]
           refine st 32 rfl fun K hK => ?_
           go_simp
           refine (HP0.out _).mono ?_; rintro x X1 ⟨rfl, b1⟩
           have HL2 := hid (HL.out.keep b1); have HN2 := hid (HN.out.keep b1); have HW2 := hid (below_call HW.out b1 HW.out.size)
           clear HL HN HW b1 hHeld
           have HL := HL2; have HN := HN2; have HW := HW2
           clear HL2 HN2 HW2
           refine hK.out _ _ ?_ (fun hHeld => ?_); · ((try dsimp only); (first | exact of_cells HL.out HN.out | exact hHeld | assumption))
           clear hK K
           try simp only [Act.put,qA,qB,qC]
           refine st 34 rfl fun K hK => ?_
           go_simp
           refine (HP1.out _).mono ?_; rintro x X1 ⟨rfl, b1⟩
           have HL2 := hid (HL.out.keep b1); have HN2 := hid (HN.out.keep b1); have HW2 := hid (below_call HW.out b1 HW.out.size)
           clear HL HN HW b1 hHeld
           have HL := HL2; have HN := HN2; have HW := HW2
           clear HL2 HN2 HW2
           refine hK.out _ _ ?_ (fun hHeld => ?_); · ((try dsimp only); (first | exact of_cells HL.out HN.out | exact hHeld | assumption))
           clear hK K
           try simp only [Act.put,qA,qB,qC]
           refine tk ?_ 35 (some 41) rfl rfl ?_ ?_; rotate_left; · (intro w hSw; (try dsimp only at hSw); go_simp <;> with_reducible rfl)
           try simp only [Act.put,qA,qB,qC]
           refine tk ?_ 36 (some 42) rfl rfl ?_ ?_; rotate_left; · (intro w hSw; (try dsimp only at hSw); go_simp <;> with_reducible rfl)
           try simp only [Act.put,qA,qB,qC]
           refine tk ?_ 37 (some 43) rfl rfl ?_ ?_; rotate_left; · (intro w hSw; (try dsimp only at hSw); go_simp <;> with_reducible rfl)
           try simp only [Act.put,qA,qB,qC]
           refine tk ?_ 38 (some 44) rfl rfl ?_ ?_; rotate_left; · (intro w hSw; (try dsimp only at hSw); go_simp <;> with_reducible rfl)
           try simp only [Act.put,qA,qB,qC]
           refine st 39 rfl fun K hK => ?_
           go_simp
           refine (HP0.out _).mono ?_; rintro x X1 ⟨rfl, b1⟩
           have HL2 := hid (HL.out.keep b1); have HN2 := hid (HN.out.keep b1); have HW2 := hid (below_call HW.out b1 HW.out.size)
           clear HL HN HW b1 hHeld
           have HL := HL2; have HN := HN2; have HW := HW2
           clear HL2 HN2 HW2
           refine hK.out _ _ ?_ (fun hHeld => ?_); · ((try dsimp only); (first | exact of_cells HL.out HN.out | exact hHeld | assumption))
           clear hK K
           try simp only [Act.put,qA,qB,qC]
           refine tk ?_ 40 (some 46) rfl rfl ?_ ?_; rotate_left; · (intro w hSw; (try dsimp only at hSw); go_simp <;> with_reducible rfl)
           try simp only [Act.put,qA,qB,qC]
           refine tk ?_ 41 (some 47) rfl rfl ?_ ?_; rotate_left; · (intro w hSw; (try dsimp only at hSw); go_simp <;> with_reducible rfl)
           try simp only [Act.put,qA,qB,qC]
           refine tk ?_ 42 (some 4) rfl rfl ?_ ?_; rotate_left; · (intro w hSw; (try dsimp only at hSw); go_simp <;> with_reducible rfl)
           try simp only [Act.put,qA,qB,qC]
           refine wpAnyH_done (by kernel_rfl) ?_ _
           go_wp2
           go_ret
           exact ⟨by first | rfl | (simp; done), HW.out⟩
end Go.Proofs.YtnibidmlkbcfkaaGreatDoor
