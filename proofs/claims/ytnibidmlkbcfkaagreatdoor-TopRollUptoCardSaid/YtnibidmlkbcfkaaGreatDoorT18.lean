/- Texts of this proof, one behind the other; each says its condition at its head. -/
import Derived.Test.YtnibidmlkbcfkaaGreatDoorT17
namespace Go.Proofs.YtnibidmlkbcfkaaGreatDoor
/- Walk of pan at any state of a call's own with a valid batch. Condition: the line's numbers are small and lie below it. -/
section
open Go.RowKit Go.Maps
/-- A batch that may stand. -/
def KnI (s : Bk) : Prop := 0 ≤ s.both ∧ 0 ≤ s.heavy ∧ 0 ≤ s.light ∧ 0 ≤ s.good ∧ knOk s.both s.heavy s.light s.good = true
theorem KnI.inK {s : Bk} (h : KnI s) : inK s.both s.heavy s.light s.good := by
 obtain ⟨h1, h2, h3, h4, h5⟩ := h
 unfold knOk at h5
 simp only [Bool.and_eq_true, decide_eq_true_eq] at h5
 unfold Go.Proofs.YtnibidmlkbcfkaaGreatDoor.inK
 omega
/-- A store into a block whose type is none of a state's. -/
theorem StO.farK {X : World} {B b k i : Nat} {m u p t e v : Value} {s : Bk} (h : StO X B b m u p t e s) (hk : ¬ k = b ∧ (m.ownBlock ≠ some k ∧ u.ownBlock ≠ some k ∧ p.ownBlock ≠ some k ∧ t.ownBlock ≠ some k ∧ e.ownBlock ≠ some k)) : StO (X.setCell ⟨k, i, none⟩ v) B b m u p t e s := by
 have hne : ∀ {y : Value}, y.ownBlock ≠ some k → ∀ g, y.ownBlock = some g → g ≠ (⟨k, i, none⟩ : Addr).block := fun h1 g hg e' => h1 (by rw [hg, e'])
 exact ⟨h.blk.far (p := ⟨k, i, none⟩) (fun e' => hk.1 e'.symm) v, own_other h.med _ _ (hne hk.2.1), own_other h.abv _ _ (hne hk.2.2.1), own_other h.pla _ _ (hne hk.2.2.2.1), own_other h.bea _ _ (hne hk.2.2.2.2.1), own_other h.bet _ _ (hne hk.2.2.2.2.2), h.low, h.mp, h.pm, h.ut, h.tu⟩
theorem StO.notKn {X : World} {B b k : Nat} {m u p t e : Value} {s : Bk} {cs : Array Value} (h : StO X B b m u p t e s) (hk : Blk X k 146 cs) (hb : ¬ k = b) : ¬ k = b ∧ (m.ownBlock ≠ some k ∧ u.ownBlock ≠ some k ∧ p.ownBlock ≠ some k ∧ t.ownBlock ≠ some k ∧ e.ownBlock ≠ some k) :=
 ⟨hb, blk_ne_own hk h.med (by decide), blk_ne_own hk h.abv (by decide), blk_ne_own hk h.pla (by decide), blk_ne_own hk h.bea (by decide), blk_ne_own hk h.bet (by decide)⟩
/-- pan on a mint's books; and the answer's number. -/
def panL (s : Bk) (x0 x1 x2 x3 : Int) : Bk × Nat := if ofR x0 x1 x2 x3 s.both s.heavy s.light s.good then ({ s with both := s.both - x0, heavy := s.heavy - x1, light := s.light - x2, good := min 13 (s.good + x0 + x1 + x2) }, 0) else (s, 2)
set_option maxRecDepth 100000 in
set_option maxHeartbeats 4000000 in
theorem panAny (w : World) (B b : Nat) (m u p t e : Value) (s : Bk) (x0 x1 x2 x3 : Int) (D : Option Addr) (n c : Nat) (ln : Value) (h : StO w B b m u p t e s) (hk : inK x0 x1 x2 x3) (hki : KnI s) (hs : Sl w D n c (intV [x0, x1, x2, x3])) (hln : ∃ a k d, ln = .slice a k d) (hA : ∀ a, D = some a → a.block < B) :
 Calls Tryz.prog 125 #[.pointer (some ⟨b, 0, none⟩), .agg #[ln, .slice D n c]] w fun r w' => r = .returned (.int .i64 ((panL s x0 x1 x2 x3).2 : Nat)) ∧ StO w' B b m u p t e (panL s x0 x1 x2 x3).1 ∧ Below B w w' := by
 obtain rfl : n = 4 := by have := hs.len; simp [intV] at this; exact this.symm
 obtain ⟨ab, ao, y, rfl, lb, e1, ca⟩ := hs.at (k := 0) (by omega)
 obtain ⟨ab', ao', y1, hh1, lb1, e11, ca1⟩ := hs.at (k := 1) (by omega)
 cases hh1
 obtain ⟨ab', ao', y2, hh1, lb2, e12, ca2⟩ := hs.at (k := 2) (by omega)
 cases hh1
 obtain ⟨ab', ao', y3, hh1, lb3, e13, ca3⟩ := hs.at (k := 3) (by omega)
 cases hh1
 simp only [intV, List.map_cons, List.map_nil, List.getElem?_cons_zero, List.getElem?_cons_succ, Option.some.injEq, Nat.add_zero] at e1 e11 e12 e13 ca
 subst e1 e11 e12 e13
 obtain ⟨la, lk, ld, rfl⟩ := hln
 have hab : ab < B := hA _ rfl
 have hBw : B ≤ w.heap.size := by have := h.low; have := h.blk.lt; omega
 have HK := hid hk
 have HKI := hid hki
 have HX := hid ((Below.refl w.heap.size w).alloc (Nat.le_refl _) (.cells #[.slice la lk ld, .slice (some ⟨ab, ao, none⟩) 4 c] 124))
 have HBX := hid (Blk.new w 124 #[.slice la lk ld, .slice (some ⟨ab, ao, none⟩) 4 c])
 have HS := hid (h.below HX.out)
 have HNE := hid (show ¬ w.heap.size = b from by have := h.blk.lt; omega)
 have HLO := hid h.low
 have HC0 := hid (cell_keep HX.out ca)
 have HC1 := hid (cell_keep HX.out ca1)
 have HC2 := hid (cell_keep HX.out ca2)
 have HC3 := hid (cell_keep HX.out ca3)
 have HBW := hid hBw
 have HW := hid (Nat.le_refl w.heap.size)
 clear h hs hA lb lb1 lb2 lb3 ca ca1 ca2 ca3 hab hBw hk hki
 go_enter Tryz.func125, Tryz.ntmps125
 go_wp2_with fail
 have HZ := hid (show w.heap.size < (w.alloc (.cells #[.slice la lk ld, .slice (some ⟨ab, ao, none⟩) 4 c] 124)).heap.size from by simp)
 generalize w.alloc (.cells #[.slice la lk ld, .slice (some ⟨ab, ao, none⟩) 4 c] 124) = X at *
 have HX := hid (HX.out.mono HBW.out)
 go_cut [5, 6, 7, 8] from 12 to 27 (fun q5 q6 q7 q8 wx => q5 = .int .i64 x0 ∧ q6 = .int .i64 x1 ∧ q7 = .int .i64 x2 ∧ q8 = .int .i64 x3 ∧ Hid (StO wx B b m u p t e s) ∧ Hid (Below B w wx))
 case first =>
  refine wp_region_held_drew (S := (fun w' => w'.cell? ⟨w.heap.size, 1, none⟩ = some (.slice (some ⟨ab, ao, none⟩) 4 c) ∧ w'.cell? ⟨ab, ao, none⟩ = some (.int .i64 x0) ∧ w'.cell? ⟨ab, ao + 1, none⟩ = some (.int .i64 x1) ∧ w'.cell? ⟨ab, ao + 2, none⟩ = some (.int .i64 x2) ∧ w'.cell? ⟨ab, ao + 3, none⟩ = some (.int .i64 x3))) (by kernel_rfl) (by (try dsimp only); (exact ⟨HBX.out.cell 1, HC0.out, HC1.out, HC2.out, HC3.out⟩)) (fun hHeld => ?_)
  have HS := hid (HS.out.below (Below.refl _ X).drew); have HBX := hid HBX.out.drew; have HX := hid HX.out.drew
  have HC0 := hid (cell_keep (Below.refl _ X).drew HC0.out); have HC1 := hid (cell_keep (Below.refl _ X).drew HC1.out); have HC2 := hid (cell_keep (Below.refl _ X).drew HC2.out); have HC3 := hid (cell_keep (Below.refl _ X).drew HC3.out)
  generalize X.drew = X1 at *
  obtain ⟨X, rfl⟩ : ∃ Y, Y = X1 := ⟨X1, rfl⟩
  refine tk ?_ 0 (some 12) rfl rfl ?_ ?_; rotate_left; · (intro w hSw; (try dsimp only at hSw); go_simp <;> with_reducible rfl)
  try simp only [Act.put,qA,qB,qC]
  refine tk ?_ 1 (some 13) rfl rfl ?_ ?_; rotate_left; · (intro w hSw; (try dsimp only at hSw); go_simp <;> with_reducible rfl)
  try simp only [Act.put,qA,qB,qC]
  refine tk ?_ 2 (some 14) rfl rfl ?_ ?_; rotate_left; · (intro w hSw; (try dsimp only at hSw); go_simp <;> with_reducible rfl)
  try simp only [Act.put,qA,qB,qC]
  refine tk ?_ 3 (some 15) rfl rfl ?_ ?_; rotate_left; · (intro w hSw; (try dsimp only at hSw); go_simp <;> with_reducible rfl)
  try simp only [Act.put,qA,qB,qC]
  refine tk ?_ 4 (some 16) rfl rfl ?_ ?_; rotate_left; · (intro w hSw; (try dsimp only at hSw); go_simp <;> with_reducible rfl)
  try simp only [Act.put,qA,qB,qC]
  refine tk ?_ 5 (some 17) rfl rfl ?_ ?_; rotate_left; · (intro w hSw; (try dsimp only at hSw); go_simp <;> with_reducible rfl)
  try simp only [Act.put,qA,qB,qC]
  refine tk ?_ 6 (some 18) rfl rfl ?_ ?_; rotate_left; · (intro w hSw; (try dsimp only at hSw); go_simp <;> with_reducible rfl)
  try simp only [Act.put,qA,qB,qC]
  refine tk ?_ 7 (some 19) rfl rfl ?_ ?_; rotate_left; · (intro w hSw; (try dsimp only at hSw); go_simp <;> with_reducible rfl)
  try simp only [Act.put,qA,qB,qC]
  refine tk ?_ 8 (some 20) rfl rfl ?_ ?_; rotate_left; · (intro w hSw; (try dsimp only at hSw); go_simp <;> with_reducible rfl)
  try simp only [Act.put,qA,qB,qC]
  refine tk ?_ 9 (some 21) rfl rfl ?_ ?_; rotate_left; · (intro w hSw; (try dsimp only at hSw); go_simp <;> with_reducible rfl)
  try simp only [Act.put,qA,qB,qC]
  refine tk ?_ 10 (some 22) rfl rfl ?_ ?_; rotate_left; · (intro w hSw; (try dsimp only at hSw); go_simp <;> with_reducible rfl)
  try simp only [Act.put,qA,qB,qC]
  refine tk ?_ 11 (some 23) rfl rfl ?_ ?_; rotate_left; · (intro w hSw; (try dsimp only at hSw); go_simp <;> with_reducible rfl)
  try simp only [Act.put,qA,qB,qC]
  refine tk ?_ 12 (some 24) rfl rfl ?_ ?_; rotate_left; · (intro w hSw; (try dsimp only at hSw); go_simp <;> with_reducible rfl)
  try simp only [Act.put,qA,qB,qC]
  refine tk ?_ 13 (some 25) rfl rfl ?_ ?_; rotate_left; · (intro w hSw; (try dsimp only at hSw); go_simp <;> with_reducible rfl)
  try simp only [Act.put,qA,qB,qC]
  refine tk ?_ 14 (some 26) rfl rfl ?_ ?_; rotate_left; · (intro w hSw; (try dsimp only at hSw); go_simp <;> with_reducible rfl)
  try simp only [Act.put,qA,qB,qC]
  refine tk ?_ 15 (some 27) rfl rfl ?_ ?_; rotate_left; · (intro w hSw; (try dsimp only at hSw); go_simp <;> with_reducible rfl)
  try simp only [Act.put,qA,qB,qC]
  refine tk ?_ 16 (some 5) rfl rfl ?_ ?_; rotate_left; · (intro w hSw; (try dsimp only at hSw); go_simp <;> with_reducible rfl)
  try simp only [Act.put,qA,qB,qC]
  refine tk ?_ 17 (some 6) rfl rfl ?_ ?_; rotate_left; · (intro w hSw; (try dsimp only at hSw); go_simp <;> with_reducible rfl)
  try simp only [Act.put,qA,qB,qC]
  refine tk ?_ 18 (some 7) rfl rfl ?_ ?_; rotate_left; · (intro w hSw; (try dsimp only at hSw); go_simp <;> with_reducible rfl)
  try simp only [Act.put,qA,qB,qC]
  refine tk ?_ 19 (some 8) rfl rfl ?_ ?_; rotate_left; · (intro w hSw; (try dsimp only at hSw); go_simp <;> with_reducible rfl)
  try simp only [Act.put,qA,qB,qC]
  refine wpAnyH_done (by kernel_rfl) ?_ _
  go_wp2_with fail
  go_meet
  case rel => exact ⟨rfl, rfl, rfl, rfl, HS, HX⟩
 case rest =>
  obtain ⟨rfl, rfl, rfl, rfl, HS, HX⟩ := hcut
  have k1 : IntKind.i64.wrap (x0 + x1) = x0 + x1 := IntWalk.i64_in _ (by have := HK.out; unfold inK at this; omega)
  have k2 : IntKind.i64.wrap (x0 + x1 + x2) = x0 + x1 + x2 := IntWalk.i64_in _ (by have := HK.out; unfold inK at this; omega)
  have k3 : IntKind.i64.wrap (x0 + x1 + x2 + x3) = x0 + x1 + x2 + x3 := IntWalk.i64_in _ (by have := HK.out; unfold inK at this; omega)
  obtain ⟨X, rfl⟩ : ∃ Y, Y = wc := ⟨wc, rfl⟩
  obtain ⟨y0, y1, y2, y3, yb, cd, haf, hpl⟩ : ∃ (y0 y1 y2 y3 : Int) (yb : Bool) (cd : Nat), (∀ W, Calls Tryz.prog 163 #[.agg #[.int .i64 s.both, .int .i64 s.heavy, .int .i64 s.light, .int .i64 s.good, .bool true], .agg #[.int .i64 x0, .int .i64 0, .int .i64 x1, .int .i64 0, .int .i64 x2, .int .i64 0, .int .i64 x3, .int .i64 (x0 + x1 + x2 + x3)], .int .i64 0] W fun x w' => x = .returned (.tuple #[.agg #[.int .i64 y0, .int .i64 y1, .int .i64 y2, .int .i64 y3, .bool yb], .int .i64 cd]) ∧ Below W.heap.size W w') ∧
   ((cd = 0 ∧ yb = true ∧ panL s x0 x1 x2 x3 = ({ s with both := y0, heavy := y1, light := y2, good := y3 }, 0)) ∨ (cd = 2 ∧ panL s x0 x1 x2 x3 = (s, 2))) := by
   have hA := weighAfterF x0 x1 x2 x3 s.both s.heavy s.light s.good HK.out HKI.out.inK HKI.out.2.2.2.2
   unfold panL
   by_cases hof : ofR x0 x1 x2 x3 s.both s.heavy s.light s.good
   · simp only [if_pos hof] at hA ⊢
     exact ⟨_, _, _, _, _, 0, hA, .inl ⟨rfl, rfl, rfl⟩⟩
   · simp only [if_neg hof] at hA ⊢
     exact ⟨_, _, _, _, _, 2, hA, .inr ⟨rfl, trivial⟩⟩
  have HAF := hid haf
  have HPL := hid hpl
  clear haf hpl
  go_wp2_with fail
  have bb := (Below.refl X.heap.size X).alloc (Nat.le_refl _) (.cells #[.int .i64 x0, .int .i64 0, .int .i64 x1, .int .i64 0, .int .i64 x2, .int .i64 0, .int .i64 x3, .int .i64 (x0 + x1 + x2 + x3)] 214)
  have HLB := hid (Blk.new X 214 #[.int .i64 x0, .int .i64 0, .int .i64 x1, .int .i64 0, .int .i64 x2, .int .i64 0, .int .i64 x3, .int .i64 (x0 + x1 + x2 + x3)])
  have HS := hid (HS.out.below bb)
  have HX := hid (below_call HX.out bb (Nat.le_trans HBW.out HX.out.size))
  obtain ⟨lb, hlb⟩ : ∃ lb, lb = X.heap.size := ⟨_, rfl⟩
  rw [← hlb] at HLB ⊢
  clear bb hlb k1 k2 k3
  generalize X.alloc (.cells #[.int .i64 x0, .int .i64 0, .int .i64 x1, .int .i64 0, .int .i64 x2, .int .i64 0, .int .i64 x3, .int .i64 (x0 + x1 + x2 + x3)] 214) = X1 at *
  obtain ⟨X, rfl⟩ : ∃ Y, Y = X1 := ⟨X1, rfl⟩
  go_cut [10, 11] from 44 to 52 (fun q r wx => ∃ kb, q = .pointer (some ⟨kb, 0, none⟩) ∧ r = .int .i64 cd ∧ Hid (StO wx B b m u p t e s) ∧ Hid (Blk wx kb 146 #[.int .i64 y0, .int .i64 y1, .int .i64 y2, .int .i64 y3, .bool yb]) ∧ Hid (¬ kb = b) ∧ Hid (Below B w wx))
  case first =>
   refine wp_region_held_drew (S := (fun w' => (w'.cell? ⟨b, 4, none⟩ = some (.int .i64 s.both) ∧ w'.cell? ⟨b, 5, none⟩ = some (.int .i64 s.heavy) ∧ w'.cell? ⟨b, 6, none⟩ = some (.int .i64 s.light) ∧ w'.cell? ⟨b, 7, none⟩ = some (.int .i64 s.good) ∧ w'.cell? ⟨b, 8, none⟩ = some (.bool true)) ∧ w'.cell? ⟨lb, 0, none⟩ = some (.int .i64 x0) ∧ w'.cell? ⟨lb, 1, none⟩ = some (.int .i64 0) ∧ w'.cell? ⟨lb, 2, none⟩ = some (.int .i64 x1) ∧ w'.cell? ⟨lb, 3, none⟩ = some (.int .i64 0) ∧ w'.cell? ⟨lb, 4, none⟩ = some (.int .i64 x2) ∧ w'.cell? ⟨lb, 5, none⟩ = some (.int .i64 0) ∧ w'.cell? ⟨lb, 6, none⟩ = some (.int .i64 x3) ∧ w'.cell? ⟨lb, 7, none⟩ = some (.int .i64 (x0 + x1 + x2 + x3)))) (by kernel_rfl) (by (try dsimp only); (exact ⟨⟨HS.out.blk.cell 4, HS.out.blk.cell 5, HS.out.blk.cell 6, HS.out.blk.cell 7, HS.out.blk.cell 8⟩, HLB.out.cell 0, HLB.out.cell 1, HLB.out.cell 2, HLB.out.cell 3, HLB.out.cell 4, HLB.out.cell 5, HLB.out.cell 6, HLB.out.cell 7⟩)) (fun hHeld => ?_)
   have HS := hid (HS.out.below (Below.refl _ X).drew); have HLB := hid HLB.out.drew; have HX := hid HX.out.drew
   generalize X.drew = X1 at *
   obtain ⟨X, rfl⟩ : ∃ Y, Y = X1 := ⟨X1, rfl⟩
   refine tk ?_ 0 (some 45) rfl rfl ?_ ?_; rotate_left; · (intro w hSw; (try dsimp only at hSw); go_simp <;> with_reducible rfl)
   try simp only [Act.put,qA,qB,qC]
   refine tk ?_ 1 (some 46) rfl rfl ?_ ?_; rotate_left; · (intro w hSw; (try dsimp only at hSw); go_simp <;> with_reducible rfl)
   try simp only [Act.put,qA,qB,qC]
   refine tk ?_ 2 (some 47) rfl rfl ?_ ?_; rotate_left; · (intro w hSw; (try dsimp only at hSw); go_simp <;> with_reducible rfl)
   try simp only [Act.put,qA,qB,qC]
   refine tk ?_ 3 (some 48) rfl rfl ?_ ?_; rotate_left; · (intro w hSw; (try dsimp only at hSw); go_simp <;> with_reducible rfl)
   try simp only [Act.put,qA,qB,qC]
   refine tk ?_ 4 (some 49) rfl rfl ?_ ?_; rotate_left; · (intro w hSw; (try dsimp only at hSw); go_simp <;> with_reducible rfl)
   try simp only [Act.put,qA,qB,qC]
   refine wpAnyH_ready (rs := [5, 9]) (by kernel_rfl) (by simp) ?_
   refine AllReadyH.cons rfl (fun K hK => ?_) (AllReadyH.cons rfl (fun K hK => ?_) (AllReadyH.nil))
   · go_simp
     refine (HAF.out X).mono ?_; rintro e' X1 ⟨rfl, bb⟩
     have HS := hid (HS.out.below bb); have HLB := hid (HLB.out.keep bb)
     have HX := hid (below_call HX.out bb (Nat.le_trans HBW.out HX.out.size))
     try have HKB := hid (HKB.out.keep bb)
     clear bb hHeld
     obtain ⟨X, rfl⟩ : ∃ Y, Y = X1 := ⟨X1, rfl⟩
     refine hK.out _ _ ?_ (fun hHeld => ?_); · ((try dsimp only); (exact ⟨⟨HS.out.blk.cell 4, HS.out.blk.cell 5, HS.out.blk.cell 6, HS.out.blk.cell 7, HS.out.blk.cell 8⟩, HLB.out.cell 0, HLB.out.cell 1, HLB.out.cell 2, HLB.out.cell 3, HLB.out.cell 4, HLB.out.cell 5, HLB.out.cell 6, HLB.out.cell 7⟩))
     clear hK K
     try simp only [Act.put,qA,qB,qC]
     refine tk ?_ 6 (some 44) rfl rfl ?_ ?_; rotate_left; · (intro w hSw; (try dsimp only at hSw); go_simp <;> with_reducible rfl)
     try simp only [Act.put,qA,qB,qC]
     refine tk ?_ 7 (some 51) rfl rfl ?_ ?_; rotate_left; · (intro w hSw; (try dsimp only at hSw); go_simp <;> with_reducible rfl)
     try simp only [Act.put,qA,qB,qC]
     refine tk ?_ 8 (some 52) rfl rfl ?_ ?_; rotate_left; · (intro w hSw; (try dsimp only at hSw); go_simp <;> with_reducible rfl)
     try simp only [Act.put,qA,qB,qC]
     refine st 9 rfl fun K hK => ?_
     go_simp
     have bb := (Below.refl X.heap.size X).alloc (Nat.le_refl _) (.cells #[.int .i64 0, .int .i64 0, .int .i64 0, .int .i64 0, .bool false] 146)
     have HKB := hid (Blk.new X 146 #[.int .i64 0, .int .i64 0, .int .i64 0, .int .i64 0, .bool false])
     have HKN := hid (show ¬ X.heap.size = b ∧ ¬ lb = X.heap.size ∧ B ≤ X.heap.size from by have := HS.out.blk.lt; have := HLB.out.lt; have := HLO.out; omega)
     have HS := hid (HS.out.below bb); have HLB := hid (HLB.out.keep bb)
     have HX := hid (below_call HX.out bb (Nat.le_trans HBW.out HX.out.size))
     obtain ⟨kb, hkb⟩ : ∃ kb, kb = X.heap.size := ⟨_, rfl⟩
     rw [← hkb] at HKB HKN ⊢
     clear bb hHeld hkb
     generalize X.alloc (.cells #[.int .i64 0, .int .i64 0, .int .i64 0, .int .i64 0, .bool false] 146) = X1 at *
     obtain ⟨X, rfl⟩ : ∃ Y, Y = X1 := ⟨X1, rfl⟩
     refine hK.out _ _ ?_ (fun hHeld => ?_); · ((try dsimp only); (exact ⟨⟨HS.out.blk.cell 4, HS.out.blk.cell 5, HS.out.blk.cell 6, HS.out.blk.cell 7, HS.out.blk.cell 8⟩, HLB.out.cell 0, HLB.out.cell 1, HLB.out.cell 2, HLB.out.cell 3, HLB.out.cell 4, HLB.out.cell 5, HLB.out.cell 6, HLB.out.cell 7⟩))
     clear hK K
     try simp only [Act.put,qA,qB,qC]
     refine st 10 rfl fun K hK => ?_
     have k0 := HKB.out.cell 0
     have k1 := HKB.out.cell 1
     have k2 := HKB.out.cell 2
     have k3 := HKB.out.cell 3
     have k4 := HKB.out.cell 4
     have f0 := HKB.out.free 0
     have f1 := HKB.out.free 1
     have f2 := HKB.out.free 2
     have f3 := HKB.out.free 3
     have f4 := HKB.out.free 4
     simp only [List.getElem?_toArray, List.getElem?_cons_zero, List.getElem?_cons_succ] at k0 k1 k2 k3 k4
     go_simp
     have HNO := HS.out.notKn HKB.out HKN.out.1
     have HKB := hid (((((HKB.out.set 0 (.int .i64 y0)).set 1 (.int .i64 y1)).set 2 (.int .i64 y2)).set 3 (.int .i64 y3)).set 4 (.bool yb))
     have HLB := hid (((((HLB.out.far (p := ⟨kb, 0, none⟩) HKN.out.2.1 (.int .i64 y0)).far (p := ⟨kb, 1, none⟩) HKN.out.2.1 (.int .i64 y1)).far (p := ⟨kb, 2, none⟩) HKN.out.2.1 (.int .i64 y2)).far (p := ⟨kb, 3, none⟩) HKN.out.2.1 (.int .i64 y3)).far (p := ⟨kb, 4, none⟩) HKN.out.2.1 (.bool yb))
     have HX := hid (((((HX.out.setCell (p := ⟨kb, 0, none⟩) HKN.out.2.2 (.int .i64 y0)).setCell (p := ⟨kb, 1, none⟩) HKN.out.2.2 (.int .i64 y1)).setCell (p := ⟨kb, 2, none⟩) HKN.out.2.2 (.int .i64 y2)).setCell (p := ⟨kb, 3, none⟩) HKN.out.2.2 (.int .i64 y3)).setCell (p := ⟨kb, 4, none⟩) HKN.out.2.2 (.bool yb))
     have HS := hid (((((HS.out.farK (i := 0) (v := .int .i64 y0) HNO).farK (i := 1) (v := .int .i64 y1) HNO).farK (i := 2) (v := .int .i64 y2) HNO).farK (i := 3) (v := .int .i64 y3) HNO).farK (i := 4) (v := .bool yb) HNO)
     clear k0 k1 k2 k3 k4 f0 f1 f2 f3 f4 hHeld HNO
     generalize ((((X.setCell ⟨kb, 0, none⟩ (.int .i64 y0)).setCell ⟨kb, 1, none⟩ (.int .i64 y1)).setCell ⟨kb, 2, none⟩ (.int .i64 y2)).setCell ⟨kb, 3, none⟩ (.int .i64 y3)).setCell ⟨kb, 4, none⟩ (.bool yb) = X1 at *
     obtain ⟨X, rfl⟩ : ∃ Y, Y = X1 := ⟨X1, rfl⟩
     refine hK.out _ _ ?_ (fun hHeld => ?_); · ((try dsimp only); (exact ⟨⟨HS.out.blk.cell 4, HS.out.blk.cell 5, HS.out.blk.cell 6, HS.out.blk.cell 7, HS.out.blk.cell 8⟩, HLB.out.cell 0, HLB.out.cell 1, HLB.out.cell 2, HLB.out.cell 3, HLB.out.cell 4, HLB.out.cell 5, HLB.out.cell 6, HLB.out.cell 7⟩))
     clear hK K
     try simp only [Act.put,qA,qB,qC]
     refine tk ?_ 11 (some 11) rfl rfl ?_ ?_; rotate_left; · (intro w hSw; (try dsimp only at hSw); go_simp <;> with_reducible rfl)
     try simp only [Act.put,qA,qB,qC]
     refine wpAnyH_done (by kernel_rfl) ?_ _
     go_wp2_with fail
     go_meet
     case rel => exact ⟨kb, rfl, rfl, HS, HKB, HKN.out.1, HX⟩
   · go_simp
     have bb := (Below.refl X.heap.size X).alloc (Nat.le_refl _) (.cells #[.int .i64 0, .int .i64 0, .int .i64 0, .int .i64 0, .bool false] 146)
     have HKB := hid (Blk.new X 146 #[.int .i64 0, .int .i64 0, .int .i64 0, .int .i64 0, .bool false])
     have HKN := hid (show ¬ X.heap.size = b ∧ ¬ lb = X.heap.size ∧ B ≤ X.heap.size from by have := HS.out.blk.lt; have := HLB.out.lt; have := HLO.out; omega)
     have HS := hid (HS.out.below bb); have HLB := hid (HLB.out.keep bb)
     have HX := hid (below_call HX.out bb (Nat.le_trans HBW.out HX.out.size))
     obtain ⟨kb, hkb⟩ : ∃ kb, kb = X.heap.size := ⟨_, rfl⟩
     rw [← hkb] at HKB HKN ⊢
     clear bb hHeld hkb
     generalize X.alloc (.cells #[.int .i64 0, .int .i64 0, .int .i64 0, .int .i64 0, .bool false] 146) = X1 at *
     obtain ⟨X, rfl⟩ : ∃ Y, Y = X1 := ⟨X1, rfl⟩
     refine hK.out _ _ ?_ (fun hHeld => ?_); · ((try dsimp only); (exact ⟨⟨HS.out.blk.cell 4, HS.out.blk.cell 5, HS.out.blk.cell 6, HS.out.blk.cell 7, HS.out.blk.cell 8⟩, HLB.out.cell 0, HLB.out.cell 1, HLB.out.cell 2, HLB.out.cell 3, HLB.out.cell 4, HLB.out.cell 5, HLB.out.cell 6, HLB.out.cell 7⟩))
     clear hK K
     try simp only [Act.put,qA,qB,qC]
     refine st 5 rfl fun K hK => ?_
     go_simp
     refine (HAF.out X).mono ?_; rintro e' X1 ⟨rfl, bb⟩
     have HS := hid (HS.out.below bb); have HLB := hid (HLB.out.keep bb)
     have HX := hid (below_call HX.out bb (Nat.le_trans HBW.out HX.out.size))
     try have HKB := hid (HKB.out.keep bb)
     clear bb hHeld
     obtain ⟨X, rfl⟩ : ∃ Y, Y = X1 := ⟨X1, rfl⟩
     refine hK.out _ _ ?_ (fun hHeld => ?_); · ((try dsimp only); (exact ⟨⟨HS.out.blk.cell 4, HS.out.blk.cell 5, HS.out.blk.cell 6, HS.out.blk.cell 7, HS.out.blk.cell 8⟩, HLB.out.cell 0, HLB.out.cell 1, HLB.out.cell 2, HLB.out.cell 3, HLB.out.cell 4, HLB.out.cell 5, HLB.out.cell 6, HLB.out.cell 7⟩))
     clear hK K
     try simp only [Act.put,qA,qB,qC]
     refine tk ?_ 6 (some 44) rfl rfl ?_ ?_; rotate_left; · (intro w hSw; (try dsimp only at hSw); go_simp <;> with_reducible rfl)
     try simp only [Act.put,qA,qB,qC]
     refine tk ?_ 7 (some 51) rfl rfl ?_ ?_; rotate_left; · (intro w hSw; (try dsimp only at hSw); go_simp <;> with_reducible rfl)
     try simp only [Act.put,qA,qB,qC]
     refine tk ?_ 8 (some 52) rfl rfl ?_ ?_; rotate_left; · (intro w hSw; (try dsimp only at hSw); go_simp <;> with_reducible rfl)
     try simp only [Act.put,qA,qB,qC]
     refine st 10 rfl fun K hK => ?_
     have k0 := HKB.out.cell 0
     have k1 := HKB.out.cell 1
     have k2 := HKB.out.cell 2
     have k3 := HKB.out.cell 3
     have k4 := HKB.out.cell 4
     have f0 := HKB.out.free 0
     have f1 := HKB.out.free 1
     have f2 := HKB.out.free 2
     have f3 := HKB.out.free 3
     have f4 := HKB.out.free 4
     simp only [List.getElem?_toArray, List.getElem?_cons_zero, List.getElem?_cons_succ] at k0 k1 k2 k3 k4
     go_simp
     have HNO := HS.out.notKn HKB.out HKN.out.1
     have HKB := hid (((((HKB.out.set 0 (.int .i64 y0)).set 1 (.int .i64 y1)).set 2 (.int .i64 y2)).set 3 (.int .i64 y3)).set 4 (.bool yb))
     have HLB := hid (((((HLB.out.far (p := ⟨kb, 0, none⟩) HKN.out.2.1 (.int .i64 y0)).far (p := ⟨kb, 1, none⟩) HKN.out.2.1 (.int .i64 y1)).far (p := ⟨kb, 2, none⟩) HKN.out.2.1 (.int .i64 y2)).far (p := ⟨kb, 3, none⟩) HKN.out.2.1 (.int .i64 y3)).far (p := ⟨kb, 4, none⟩) HKN.out.2.1 (.bool yb))
     have HX := hid (((((HX.out.setCell (p := ⟨kb, 0, none⟩) HKN.out.2.2 (.int .i64 y0)).setCell (p := ⟨kb, 1, none⟩) HKN.out.2.2 (.int .i64 y1)).setCell (p := ⟨kb, 2, none⟩) HKN.out.2.2 (.int .i64 y2)).setCell (p := ⟨kb, 3, none⟩) HKN.out.2.2 (.int .i64 y3)).setCell (p := ⟨kb, 4, none⟩) HKN.out.2.2 (.bool yb))
     have HS := hid (((((HS.out.farK (i := 0) (v := .int .i64 y0) HNO).farK (i := 1) (v := .int .i64 y1) HNO).farK (i := 2) (v := .int .i64 y2) HNO).farK (i := 3) (v := .int .i64 y3) HNO).farK (i := 4) (v := .bool yb) HNO)
     clear k0 k1 k2 k3 k4 f0 f1 f2 f3 f4 hHeld HNO
     generalize ((((X.setCell ⟨kb, 0, none⟩ (.int .i64 y0)).setCell ⟨kb, 1, none⟩ (.int .i64 y1)).setCell ⟨kb, 2, none⟩ (.int .i64 y2)).setCell ⟨kb, 3, none⟩ (.int .i64 y3)).setCell ⟨kb, 4, none⟩ (.bool yb) = X1 at *
     obtain ⟨X, rfl⟩ : ∃ Y, Y = X1 := ⟨X1, rfl⟩
     refine hK.out _ _ ?_ (fun hHeld => ?_); · ((try dsimp only); (exact ⟨⟨HS.out.blk.cell 4, HS.out.blk.cell 5, HS.out.blk.cell 6, HS.out.blk.cell 7, HS.out.blk.cell 8⟩, HLB.out.cell 0, HLB.out.cell 1, HLB.out.cell 2, HLB.out.cell 3, HLB.out.cell 4, HLB.out.cell 5, HLB.out.cell 6, HLB.out.cell 7⟩))
     clear hK K
     try simp only [Act.put,qA,qB,qC]
     refine tk ?_ 11 (some 11) rfl rfl ?_ ?_; rotate_left; · (intro w hSw; (try dsimp only at hSw); go_simp <;> with_reducible rfl)
     try simp only [Act.put,qA,qB,qC]
     refine wpAnyH_done (by kernel_rfl) ?_ _
     go_wp2_with fail
     go_meet
     case rel => exact ⟨kb, rfl, rfl, HS, HKB, HKN.out.1, HX⟩
  case rest =>
   obtain ⟨kb, rfl, rfl, HS, HKB, HNK, HX⟩ := hcut
   rcases HPL.out with ⟨rfl, rfl, hm⟩ | ⟨rfl, hm⟩
   · have HM := hid hm
     clear hm
     have c0 := HKB.out.cell 0
     have c1 := HKB.out.cell 1
     have c2 := HKB.out.cell 2
     have c3 := HKB.out.cell 3
     have c4 := HKB.out.cell 4
     have s4 := HS.out.blk.cell 4
     have s5 := HS.out.blk.cell 5
     have s6 := HS.out.blk.cell 6
     have s7 := HS.out.blk.cell 7
     have s8 := HS.out.blk.cell 8
     have f4 := HS.out.blk.free 4
     have f5 := HS.out.blk.free 5
     have f6 := HS.out.blk.free 6
     have f7 := HS.out.blk.free 7
     have f8 := HS.out.blk.free 8
     simp only [stV, List.getElem?_toArray, List.getElem?_cons_zero, List.getElem?_cons_succ] at c0 c1 c2 c3 c4 s4 s5 s6 s7 s8
     go_wp2
     go_ret
     rw [HM.out]
     exact ⟨rfl, HS.out.putKn y0 y1 y2 y3, ((((HX.out.setCell (p := ⟨b, 4, none⟩) HLO.out _).setCell (p := ⟨b, 5, none⟩) HLO.out _).setCell (p := ⟨b, 6, none⟩) HLO.out _).setCell (p := ⟨b, 7, none⟩) HLO.out _).setCell (p := ⟨b, 8, none⟩) HLO.out _⟩
   · have HM := hid hm
     clear hm
     go_wp2
     go_ret
     rw [HM.out]
     exact ⟨rfl, HS.out, HX.out⟩
end
/- Walks of slices.Index on strings, exactly, and of a line's pair. Condition: what is read lies there. -/
section
open Go.RowKit Go.Maps
/-- The first place of a word in a list, or -1. -/
def idxZ : List ByteArray → ByteArray → Int
 | [], _ => -1
 | y :: l, x => if y = x then 0 else if idxZ l x < 0 then -1 else idxZ l x + 1
theorem idxZ_at (x : ByteArray) : ∀ (l : List ByteArray) (k : Nat), l[k]? = some x → (∀ j, j < k → l[j]? ≠ some x) → idxZ l x = k
 | [], k, h, _ => by simp at h
 | y :: l, k, h, hn => by
  cases k with
  | zero =>
   simp at h
   unfold idxZ
   rw [if_pos h]
   rfl
  | succ k =>
   have hy : ¬ y = x := fun e => hn 0 (by omega) (by simp [e])
   have ih := idxZ_at x l k (by simpa using h) (fun j hj => by have := hn (j + 1) (by omega); simpa using this)
   unfold idxZ
   rw [if_neg hy, ih, if_neg (by omega)]
   omega
theorem idxZ_no (x : ByteArray) : ∀ (l : List ByteArray), (∀ j : Nat, l[j]? ≠ some x) → idxZ l x = -1
 | [], _ => rfl
 | y :: l, h => by
  have hy : ¬ y = x := fun e => h 0 (by simp [e])
  have ih := idxZ_no x l (fun j => by have := h (j + 1); simpa using this)
  unfold idxZ
  rw [if_neg hy, ih]
  rfl
theorem idxZ_bd (x : ByteArray) : ∀ (l : List ByteArray), -1 ≤ idxZ l x ∧ idxZ l x < l.length
 | [] => by unfold idxZ; simp
 | y :: l => by
  have ih := idxZ_bd x l
  unfold idxZ
  rw [List.length_cons]
  split
  · omega
  · split
    · omega
    · omega
set_option maxRecDepth 100000 in
set_option maxHeartbeats 1000000 in
theorem strIdxE (A : Option Addr) (n c : Nat) (l : List ByteArray) (b : ByteArray) (w : World) (hs : Sl w A n c (strV l)) :
 Calls Tryz.prog 10 #[.slice A n c, .string b] w fun e w' => e = .returned (.int .i64 (idxZ l b)) ∧ w = w' := by
 have hm : n ≤ 9223372036854775807 := by have := hs.cap; have := hs.capm; unfold maxLen at this; omega
 have HS := hid hs
 have HL := hid (show l.length = n by have := hs.len; simpa [strV] using this)
 clear hs
 go_enter Tryz.func10, Tryz.ntmps10
 go_wp2
 go_loopg [8] n (fun gk i wr => ∃ k : Nat, gk + k = n ∧ i = .int .i64 k ∧ Hid (∀ j, j < k → l[j]? ≠ some b) ∧ w = wr)
 case atStart => exact ⟨0, by omega, rfl, hid fun j h => absurd h (by omega), rfl⟩
 case round =>
  obtain ⟨k, hk, rfl, HN, hw⟩ := hrel
  subst hw
  have HK := hid hk
  by_cases hlt : k < n
  · have HLT := hid hlt
    obtain ⟨b1, o, u, rfl, lb1, e1, ca⟩ := HS.out.at hlt
    obtain ⟨y, hy, rfl⟩ := Option.map_eq_some_iff.1 (show (l[k]?).map (fun b => Value.string b) = some u by rw [← List.getElem?_map]; exact e1)
    have HY := hid hy
    clear e1 hy hk lb1
    by_cases hq : b = y
    · subst hq
      have hqe : (b.data.toList == b.data.toList) = true := by simp
      have hqe2 : (b.toList == b.toList) = true := by simp
      go_wp2
      go_ret
      exact ⟨by rw [idxZ_at b l k HY.out HN.out]; rfl, rfl⟩
    · have hq2 : ¬ y = b := fun e => hq e.symm
      have HQ := hid hq
      have hqe2 : (b.toList == y.toList) = false := by rw [beq_eq_false_iff_ne]; exact fun e => hq (toList_inj e)
      go_wp2
      go_roundg (gk - 1)
      case measure => have := HK.out; have := HLT.out; omega
      case rel =>
       refine ⟨k + 1, by have := HK.out; have := HLT.out; omega, by go_num, hid fun j hj => ?_, rfl⟩
       by_cases e : j = k
       · subst e
         rw [HY.out]
         exact fun e => HQ.out (Option.some.inj e).symm
       · exact HN.out j (by omega)
  · obtain rfl : k = n := by have := HK.out; omega
    clear hk
    go_wp2
    go_ret
    exact ⟨by
     rw [idxZ_no b l (fun i hi => HN.out i (by have := (List.getElem?_eq_some_iff.1 hi).1; have := HL.out; omega) hi)]; rfl, rfl⟩
set_option maxRecDepth 100000 in
set_option maxHeartbeats 4000000 in
theorem pairF (w : World) (l : List ByteArray) (x y : ByteArray) (A : Option Addr) (n c : Nat) (ln : Value) (Q : Option Addr) (qc : Nat) (hq : Sl w Q l.length qc (strV l)) (hs : Sl w A n c (strV [x, y])) (hln : ∃ a k d, ln = .slice a k d) :
 Calls Tryz.prog 139 #[.agg #[.slice A n c, ln], .slice Q l.length qc] w fun r w' => r = .returned (.tuple #[.int .i64 (idxZ l x), .int .i64 (idxZ l y), .bool (decide (0 ≤ idxZ l x) && decide (0 ≤ idxZ l y))]) ∧ Below w.heap.size w w' := by
 obtain rfl : n = 2 := by have := hs.len; simp [strV] at this; exact this.symm
 obtain ⟨ab, ao, y0, rfl, lb, e1, ca⟩ := hs.at (k := 0) (by omega)
 obtain ⟨ab', ao', y1, hh1, lb1, e11, ca1⟩ := hs.at (k := 1) (by omega)
 cases hh1
 simp only [strV, List.map_cons, List.map_nil, List.getElem?_cons_zero, List.getElem?_cons_succ, Option.some.injEq, Nat.add_zero] at e1 e11 ca
 subst e1 e11
 obtain ⟨la, lk, ld, rfl⟩ := hln
 have HX := hid ((Below.refl w.heap.size w).alloc (Nat.le_refl _) (.cells #[.slice (some ⟨ab, ao, none⟩) 2 c, .slice la lk ld] 124))
 have HBX := hid (Blk.new w 124 #[.slice (some ⟨ab, ao, none⟩) 2 c, .slice la lk ld])
 have HQ := hid (hq.below HX.out)
 have HC0 := hid (cell_keep HX.out ca)
 have HC1 := hid (cell_keep HX.out ca1)
 clear hq hs lb lb1 ca ca1
 go_enter Tryz.func139, Tryz.ntmps139
 go_wp2_with fail
 generalize w.alloc (.cells #[.slice (some ⟨ab, ao, none⟩) 2 c, .slice la lk ld] 124) = X at *
 go_cut [4, 5] from 7 to 18 (fun q r wx => q = .int .i64 (idxZ l x) ∧ r = .int .i64 (idxZ l y) ∧ Hid (Below w.heap.size w wx))
 case first =>
  refine wp_region_held_drew (S := (fun w' => w'.cell? ⟨w.heap.size, 0, none⟩ = some (.slice (some ⟨ab, ao, none⟩) 2 c) ∧ w'.cell? ⟨ab, ao, none⟩ = some (.string x) ∧ w'.cell? ⟨ab, ao + 1, none⟩ = some (.string y))) (by kernel_rfl) (by (try dsimp only); (exact ⟨HBX.out.cell 0, HC0.out, HC1.out⟩)) (fun hHeld => ?_)
  have HBX := hid HBX.out.drew; have HX := hid HX.out.drew
  have HQ := hid (HQ.out.below (Below.refl _ X).drew)
  have HC0 := hid (cell_keep (Below.refl _ X).drew HC0.out); have HC1 := hid (cell_keep (Below.refl _ X).drew HC1.out)
  generalize X.drew = X1 at *
  obtain ⟨X, rfl⟩ : ∃ Y, Y = X1 := ⟨X1, rfl⟩
  refine tk ?_ 0 (some 7) rfl rfl ?_ ?_; rotate_left; · (intro w hSw; (try dsimp only at hSw); go_simp <;> with_reducible rfl)
  try simp only [Act.put,qA,qB,qC]
  refine tk ?_ 1 (some 8) rfl rfl ?_ ?_; rotate_left; · (intro w hSw; (try dsimp only at hSw); go_simp <;> with_reducible rfl)
  try simp only [Act.put,qA,qB,qC]
  refine tk ?_ 2 (some 9) rfl rfl ?_ ?_; rotate_left; · (intro w hSw; (try dsimp only at hSw); go_simp <;> with_reducible rfl)
  try simp only [Act.put,qA,qB,qC]
  refine tk ?_ 3 (some 10) rfl rfl ?_ ?_; rotate_left; · (intro w hSw; (try dsimp only at hSw); go_simp <;> with_reducible rfl)
  try simp only [Act.put,qA,qB,qC]
  refine tk ?_ 4 (some 11) rfl rfl ?_ ?_; rotate_left; · (intro w hSw; (try dsimp only at hSw); go_simp <;> with_reducible rfl)
  try simp only [Act.put,qA,qB,qC]
  refine tk ?_ 6 (some 13) rfl rfl ?_ ?_; rotate_left; · (intro w hSw; (try dsimp only at hSw); go_simp <;> with_reducible rfl)
  try simp only [Act.put,qA,qB,qC]
  refine tk ?_ 7 (some 14) rfl rfl ?_ ?_; rotate_left; · (intro w hSw; (try dsimp only at hSw); go_simp <;> with_reducible rfl)
  try simp only [Act.put,qA,qB,qC]
  refine tk ?_ 8 (some 15) rfl rfl ?_ ?_; rotate_left; · (intro w hSw; (try dsimp only at hSw); go_simp <;> with_reducible rfl)
  try simp only [Act.put,qA,qB,qC]
  refine tk ?_ 9 (some 16) rfl rfl ?_ ?_; rotate_left; · (intro w hSw; (try dsimp only at hSw); go_simp <;> with_reducible rfl)
  try simp only [Act.put,qA,qB,qC]
  refine tk ?_ 10 (some 17) rfl rfl ?_ ?_; rotate_left; · (intro w hSw; (try dsimp only at hSw); go_simp <;> with_reducible rfl)
  try simp only [Act.put,qA,qB,qC]
  refine st 5 rfl fun K hK => ?_
  go_simp
  refine (strIdxE Q l.length qc l x X HQ.out).mono ?_; rintro e' X1 ⟨rfl, rfl⟩
  clear hHeld
  refine hK.out _ _ ?_ (fun hHeld => ?_); · ((try dsimp only); (exact ⟨HBX.out.cell 0, HC0.out, HC1.out⟩))
  clear hK K
  try simp only [Act.put,qA,qB,qC]
  refine st 11 rfl fun K hK => ?_
  go_simp
  refine (strIdxE Q l.length qc l y X HQ.out).mono ?_; rintro e' X1 ⟨rfl, rfl⟩
  clear hHeld
  refine hK.out _ _ ?_ (fun hHeld => ?_); · ((try dsimp only); (exact ⟨HBX.out.cell 0, HC0.out, HC1.out⟩))
  clear hK K
  try simp only [Act.put,qA,qB,qC]
  refine tk ?_ 12 (some 4) rfl rfl ?_ ?_; rotate_left; · (intro w hSw; (try dsimp only at hSw); go_simp <;> with_reducible rfl)
  try simp only [Act.put,qA,qB,qC]
  refine tk ?_ 13 (some 5) rfl rfl ?_ ?_; rotate_left; · (intro w hSw; (try dsimp only at hSw); go_simp <;> with_reducible rfl)
  try simp only [Act.put,qA,qB,qC]
  refine wpAnyH_done (by kernel_rfl) ?_ _
  go_wp2_with fail
  go_meet
  case rel => exact ⟨rfl, rfl, HX⟩
 case rest =>
  obtain ⟨rfl, rfl, HX⟩ := hcut
  have hb1 := idxZ_bd x l
  have hb2 := idxZ_bd y l
  obtain ⟨i, hi⟩ : ∃ i, i = idxZ l x := ⟨_, rfl⟩
  obtain ⟨j, hj⟩ : ∃ j, j = idxZ l y := ⟨_, rfl⟩
  rw [← hi] at hb1 ⊢
  rw [← hj] at hb2 ⊢
  have HI := hid hi
  have HJ := hid hj
  clear hi hj hb1 hb2
  by_cases h0 : 0 ≤ i
  · go_wp2
    go_ret3
    exact ⟨by rw [← HI.out, ← HJ.out, decide_eq_true h0]; rfl, HX.out⟩
  · go_wp2
    go_ret3
    exact ⟨by rw [← HI.out, ← HJ.out, decide_eq_false (by omega)]; rfl, HX.out⟩
end
end Go.Proofs.YtnibidmlkbcfkaaGreatDoor
