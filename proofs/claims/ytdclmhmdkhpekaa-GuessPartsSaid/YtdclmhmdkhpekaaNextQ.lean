/- Walks of guess.Worst and guess.Next. Conditions: the slice reads as a list of triples. -/
import Derived.Test.YtdclmhmdkhpekaaNextP
namespace Go.Proofs.Ytdclmhmdkhpekaa
open Go.RowKit Go.Maps

set_option maxRecDepth 100000 in
set_option maxHeartbeats 4000000 in
theorem worstPub_bad (p c a : Int) (A : Option Addr) (n cp : Nat) (hs : List Tri) (W : World) (hsl : Slt W A n cp hs) (h : BadGame p c [a] hs) :
    Calls Try.prog 42 #[.int .i64 p, .int .i64 c, .slice A n cp, .int .i64 a] W fun e w' => e = .returned (.tuple #[.int .i64 0, .int .i64 2]) ∧ Below W.heap.size W w' := by
  have HB := hid ((Below.refl W.heap.size W).alloc (Nat.le_refl _) (.cells #[.int .i64 a] 3))
  have HC := hid (played_bad p c A _ n cp _ _ hs [a] _ (hsl.below HB.out) (Sl.new W #[.int .i64 a] 3 rfl (by simp)) h)
  clear hsl h
  go_enter Try.func42, Try.ntmps42
  go_wp2_with (go_at_call 68; refine HC.out.mono ?_; rintro e w1 ⟨rfl, hb1⟩; have HB1 := hid (below_call HB.out hb1 (by simp)); clear hb1)
  have hz := HB1.out.size
  go_ret2
  exact ⟨rfl, HB1.out.alloc hz _⟩
set_option maxRecDepth 100000 in
set_option maxHeartbeats 4000000 in
theorem worstPub_none (p : Nat) (c a : Int) (N : Nat) (A : Option Addr) (n cp : Nat) (hs : List Tri) (W : World) (hsl : Slt W A n cp hs) (hg : gameOk p c [a] = true) (hN : codes p c = N) (hh : histOk p N hs = true) (hl : leftL c p N hs = []) :
    Calls Try.prog 42 #[.int .i64 p, .int .i64 c, .slice A n cp, .int .i64 a] W fun e w' => e = .returned (.tuple #[.int .i64 0, .int .i64 5]) ∧ Below W.heap.size W w' := by
  have HB := hid ((Below.refl W.heap.size W).alloc (Nat.le_refl _) (.cells #[.int .i64 a] 3))
  have HC := hid (played_none p c N A _ n cp _ _ hs [a] _ (hsl.below HB.out) (Sl.new W #[.int .i64 a] 3 rfl (by simp)) hg hN hh hl)
  clear hsl hg hN hh hl
  go_enter Try.func42, Try.ntmps42
  go_wp2_with (go_at_call 68; refine HC.out.mono ?_; rintro e w1 ⟨rfl, hb1⟩; have HB1 := hid (below_call HB.out hb1 (by simp)); clear hb1)
  have hz := HB1.out.size
  go_ret2
  exact ⟨rfl, HB1.out.alloc hz _⟩
set_option maxRecDepth 100000 in
set_option maxHeartbeats 4000000 in
theorem worstPub_ok (p : Nat) (c a : Int) (N : Nat) (A : Option Addr) (n cp : Nat) (hs : List Tri) (W : World) (hsl : Slt W A n cp hs) (hg : gameOk p c [a] = true) (hN : codes p c = N) (hh : histOk p N hs = true) (hl : leftL c p N hs ≠ []) :
    Calls Try.prog 42 #[.int .i64 p, .int .i64 c, .slice A n cp, .int .i64 a] W fun e w' => e = .returned (.tuple #[.int .i64 (worstL c p (leftL c p N hs) a), .int .i64 0]) ∧ Below W.heap.size W w' := by
  have HB := hid ((Below.refl W.heap.size W).alloc (Nat.le_refl _) (.cells #[.int .i64 a] 3))
  have HC := hid (played_ok p c N A _ n cp _ _ hs [a] _ (hsl.below HB.out) (Sl.new W #[.int .i64 a] 3 rfl (by simp)) hg hN hh hl)
  obtain ⟨⟨h1, h2⟩, ⟨h3, h4⟩, h5, h6⟩ := game_facts (gameOk_iff.1 hg).1 hN
  have ha := (gameOk_iff.1 hg).2 a (by simp)
  rw [hN] at ha
  have hr := left_rise c p N hs
  have hle := left_len c p N hs
  have HW := hid fun (A2 : Option Addr) (c2 : Nat) (w1 : World) (h : Sl w1 A2 (leftL c p N hs).length c2 ((leftL c p N hs).map (Value.int .i64))) => worstS p c N A2 (leftL c p N hs).length c2 (leftL c p N hs) a w1 (by omega) h3 h4 h (fun x hx => by have := hr.mem x hx; omega) (by omega) (by omega)
  clear hsl hg hN hh hl hr
  generalize leftL c p N hs = l at *
  go_enter Try.func42, Try.ntmps42
  go_wp2_with (go_at_call 68; refine HC.out.mono ?_; rintro e w1 ⟨⟨A2, c2, rfl, ho⟩, hb1⟩; have HB1 := hid (below_call HB.out hb1 (by simp)); have HO := hid ho; clear hb1 ho)
  have hz := HB1.out.size
  have HB2 := hid (HB1.out.alloc hz (.cells #[.int .i64 p, .int .i64 c, .int .i64 N] 68))
  go_wp2_with (go_at_call 69; refine (HW.out A2 c2 _ ((Sl.of_own HO.out).alloc _)).mono ?_; rintro e w2 ⟨rfl, hb2⟩; have HB3 := hid (below_call HB2.out hb2 (by simp; omega)); clear hb2)
  go_ret2
  exact ⟨rfl, HB3.out⟩

set_option maxRecDepth 100000 in
set_option maxHeartbeats 4000000 in
theorem nextPub_bad (p c : Int) (A : Option Addr) (n cp : Nat) (hs : List Tri) (W : World) (hsl : Slt W A n cp hs) (h : BadGame p c [] hs) :
    Calls Try.prog 43 #[.int .i64 p, .int .i64 c, .slice A n cp] W fun e w' => e = .returned (.tuple #[.int .i64 0, .int .i64 2]) ∧ Below W.heap.size W w' := by
  have HC := hid (played_bad p c A _ n cp _ _ hs [] _ hsl (Sl.nil W) h)
  clear hsl h
  go_enter Try.func43, Try.ntmps43
  go_wp2_with (go_at_call 68; refine HC.out.mono ?_; rintro e w1 ⟨rfl, hb1⟩; have HB1 := hid hb1; clear hb1)
  have hz := HB1.out.size
  go_ret2
  exact ⟨rfl, (HB1.out.alloc hz _).alloc (by simp; omega) _⟩
set_option maxRecDepth 100000 in
set_option maxHeartbeats 4000000 in
theorem nextPub_none (p : Nat) (c : Int) (N : Nat) (A : Option Addr) (n cp : Nat) (hs : List Tri) (W : World) (hsl : Slt W A n cp hs) (hg : gameOk p c [] = true) (hN : codes p c = N) (hh : histOk p N hs = true) (hl : leftL c p N hs = []) :
    Calls Try.prog 43 #[.int .i64 p, .int .i64 c, .slice A n cp] W fun e w' => e = .returned (.tuple #[.int .i64 0, .int .i64 5]) ∧ Below W.heap.size W w' := by
  have HC := hid (played_none p c N A _ n cp _ _ hs [] _ hsl (Sl.nil W) hg hN hh hl)
  clear hsl hg hN hh hl
  go_enter Try.func43, Try.ntmps43
  go_wp2_with (go_at_call 68; refine HC.out.mono ?_; rintro e w1 ⟨rfl, hb1⟩; have HB1 := hid hb1; clear hb1)
  have hz := HB1.out.size
  go_ret2
  exact ⟨rfl, (HB1.out.alloc hz _).alloc (by simp; omega) _⟩

theorem best_zero (c : Int) (p : Nat) (l : List Int) (m : Nat) : bestTo c p l m 0 = [] := by simp [bestTo, upto]

set_option maxRecDepth 100000 in
set_option maxHeartbeats 4000000 in
theorem nextPub_ok (p : Nat) (c : Int) (N : Nat) (A : Option Addr) (n cp : Nat) (hs : List Tri) (W : World) (hsl : Slt W A n cp hs) (hg : gameOk p c [] = true) (hN : codes p c = N) (hh : histOk p N hs = true) (hl : leftL c p N hs ≠ []) :
    Calls Try.prog 43 #[.int .i64 p, .int .i64 c, .slice A n cp] W fun e w' => e = .returned (.tuple #[.int .i64 (nextL c p N (leftL c p N hs)), .int .i64 0]) ∧ Below W.heap.size W w' := by
  have HC := hid (played_ok p c N A _ n cp _ _ hs [] _ hsl (Sl.nil W) hg hN hh hl)
  obtain ⟨⟨h1, h2⟩, ⟨h3, h4⟩, h5, h6⟩ := game_facts (gameOk_iff.1 hg).1 hN
  have hr := left_rise c p N hs
  have hle := left_len c p N hs
  have HW := hid fun (A2 : Option Addr) (c2 : Nat) (a : Nat) (ha : a < N) (w1 : World) (h : Sl w1 A2 (leftL c p N hs).length c2 ((leftL c p N hs).map (Value.int .i64))) => worstS p c N A2 (leftL c p N hs).length c2 (leftL c p N hs) (a : Int) w1 (by omega) h3 h4 h (fun x hx => by have := hr.mem x hx; omega) (by omega) (by omega)
  have HP := hid (best_pos (c := c) (p := p) (l := leftL c p N hs) (s := (leftL c p N hs).length + 1) (N := N) (by omega) (by omega))
  clear hsl hg hN hh hl hr
  generalize leftL c p N hs = l at *
  have HWL := hid (worst_le c p l)
  go_enter Try.func43, Try.ntmps43
  go_wp2_with (go_at_call 68; refine HC.out.mono ?_; rintro e w1 ⟨⟨A2, c2, rfl, ho⟩, hb1⟩; have HB1 := hid hb1; have HO := hid ho; clear hb1 ho)
  have hz := HB1.out.size
  obtain ⟨wb, hwb⟩ : ∃ wb, wb = (w1.alloc (.cells #[.int .i64 p, .int .i64 c, .int .i64 N] 68)).alloc (.cells #[.slice A2 l.length c2] 34) := ⟨_, rfl⟩
  have hwz : wb.heap.size = w1.heap.size + 1 + 1 := by rw [hwb]; simp
  have HBB := hid (show Below W.heap.size W wb by rw [hwb]; exact (HB1.out.alloc hz _).alloc (by simp; omega) _)
  have HX0 := hid (show Blk wb w1.heap.size 68 #[.int .i64 p, .int .i64 c, .int .i64 N] by rw [hwb]; exact (Blk.new _ _ _).alloc _)
  have HX1 := hid (show Blk wb (w1.heap.size + 1) 34 #[.slice A2 l.length c2] by rw [hwb]; exact Blk.new_at _ _ _ (by simp))
  have HXS := hid (show Sl wb A2 l.length c2 (l.map (Value.int .i64)) by rw [hwb]; exact ((Sl.of_own HO.out).alloc _).alloc _)
  rw [← hwb]
  clear hwb
  go_loopg [11, 12, 32] N (fun g m v i wr => ∃ j : Nat, g + j = N ∧ i = .int .i64 j ∧ m = .int .i64 (leastTo c p l (l.length + 1) j) ∧ Hid (leastTo c p l (l.length + 1) j ≤ l.length + 1) ∧ (∃ (k : Nat) (A' : Option Addr) (c' : Nat), v = .slice A' k c' ∧ Hid (wr.ownsRow wb.heap.size 3 1 (.slice A' k c') k ((bestTo c p l (leastTo c p l (l.length + 1) j) j).map (Value.int .i64)))) ∧ Hid (Below wb.heap.size wb wr))
  case atStart =>
    refine ⟨0, by omega, rfl, by simp [leastTo], hid (by simp [leastTo]), ⟨0, none, 0, rfl, ?_⟩, hid (Below.refl _ _)⟩
    rw [best_zero]
    exact hid (World.ownsRow_nil _ _ _ _)
  case round =>
    obtain ⟨j, hj, rfl, rfl, hme, ⟨k0, A', c', rfl, hO⟩, hW⟩ := hrel
    have HJ := hid hj
    have b0 := hid (HX0.out.keep hW.out)
    have b1 := hid (HX1.out.keep hW.out)
    have hS := hid (HXS.out.below hW.out)
    have hzr := hW.out.size
    have hzb := HBB.out.size
    have q0 := b0.out.cell 0; have q1 := b0.out.cell 1; have q2 := b0.out.cell 2; have q3 := b1.out.cell 0
    simp only [List.getElem?_toArray, List.getElem?_cons_zero, List.getElem?_cons_succ] at q0 q1 q2 q3
    by_cases hlt : j < N
    · have HCA := hid (HW.out A2 c2 j hlt wr hS.out)
      have hwl := HWL.out (j : Int)
      have hk0 : k0 = (bestTo c p l (leastTo c p l (l.length + 1) j) j).length := by have := hO.out.1; simpa using this.symm
      have hbl := best_len c p l (leastTo c p l (l.length + 1) j) j
      have hcase : (worstL c p l (j : Int) < leastTo c p l (l.length + 1) j ∧ Hid (leastTo c p l (l.length + 1) (j + 1) = worstL c p l j ∧ bestTo c p l (leastTo c p l (l.length + 1) (j + 1)) (j + 1) = [(j : Int)])) ∨
          (worstL c p l (j : Int) = leastTo c p l (l.length + 1) j ∧ Hid (leastTo c p l (l.length + 1) (j + 1) = leastTo c p l (l.length + 1) j ∧ bestTo c p l (leastTo c p l (l.length + 1) (j + 1)) (j + 1) = bestTo c p l (leastTo c p l (l.length + 1) j) j ++ [(j : Int)])) ∨
          (leastTo c p l (l.length + 1) j < worstL c p l (j : Int) ∧ Hid (leastTo c p l (l.length + 1) (j + 1) = leastTo c p l (l.length + 1) j ∧ bestTo c p l (leastTo c p l (l.length + 1) (j + 1)) (j + 1) = bestTo c p l (leastTo c p l (l.length + 1) j) j)) := by
        rcases Nat.lt_trichotomy (worstL c p l (j : Int)) (leastTo c p l (l.length + 1) j) with h | h | h
        · exact .inl ⟨h, hid (best_new h)⟩
        · exact .inr (.inl ⟨h, hid (best_same h)⟩)
        · exact .inr (.inr ⟨h, hid (best_old h)⟩)
      have HBL := hid (show k0 ≤ 256 by omega)
      have HMB := hme
      clear hj hk0 hbl hme
      generalize hk : worstL c p l (j : Int) = k at *
      generalize leastTo c p l (l.length + 1) j = m at *
      rcases hcase with ⟨hlt2, HE⟩ | ⟨rfl, HE⟩ | ⟨hlt2, HE⟩
      · have g1 : decide ((k : Int) < (m : Int)) = true := decide_eq_true (by omega)
        have g2 : decide (k < m) = true := decide_eq_true (by omega)
        have g3 : ((k : Int) == (k : Int)) = true := by simp
        have HL2 := hid hlt2
        clear hlt2 hwl hk
        go_wp2_with (first
          | (go_at_call 69; refine HCA.out.mono ?_; rintro e w2 ⟨rfl, hb2⟩; have HB2 := hid (below_call hW.out hb2 hzr); have hz2 := hb2.size; clear hb2)
          | (at_builtin; refine push1 TI w2 #[.int .i64 (j : Int)] _ _ _ _ (World.ownsRow_nil w2 wb.heap.size 3 1) _ _ rfl rfl rfl rfl rfl (by simp [Value.oneCell']) (by omega) (by omega) (by omega) ?_; intro v1 w3 hown1 hgr; have hb3 : Below wb.heap.size wb w3 := below_push HB2.out (World.ownsRow_nil w2 wb.heap.size 3 1) hgr (by omega) (Nat.le_refl _); obtain ⟨A1, c1, rfl⟩ := own_form hown1; have HO3 := hid hown1; have HB3 := hid hb3; clear hown1 hgr hb3))
        go_roundg (gk - 1)
        case measure => have := HJ.out; omega
        case rel =>
          refine ⟨j + 1, by have := HJ.out; omega, by go_num, by rw [HE.out.1], hid (by rw [HE.out.1]; have := HL2.out; have := HMB.out; omega), ⟨_, A1, c1, rfl, ?_⟩, HB3⟩
          rw [HE.out.2]
          exact hid (by simpa using HO3.out)
      · have g1 : decide ((k : Int) < (k : Int)) = false := decide_eq_false (by omega)
        have g2 : decide (k < k) = false := decide_eq_false (by omega)
        have g3 : ((k : Int) == (k : Int)) = true := by simp
        clear hwl hk
        go_wp2_with (first
          | (go_at_call 69; refine HCA.out.mono ?_; rintro e w2 ⟨rfl, hb2⟩; have HB2 := hid (below_call hW.out hb2 hzr); have hz2 := hb2.size; have HOX := hid (own_below hO.out hb2); have hk2 := HBL.out; clear hb2)
          | (at_builtin; refine push1 TI w2 #[.int .i64 (j : Int)] _ _ _ _ HOX.out _ _ rfl rfl rfl rfl rfl (by simp [Value.oneCell']) (by omega) (by omega) (by omega) ?_; intro v1 w3 hown1 hgr; have hb3 : Below wb.heap.size wb w3 := below_push HB2.out HOX.out hgr (by omega) (Nat.le_refl _); obtain ⟨A1, c1, rfl⟩ := own_form hown1; have HO3 := hid hown1; have HB3 := hid hb3; clear hown1 hgr hb3))
        go_roundg (gk - 1)
        case measure => have := HJ.out; omega
        case rel =>
          refine ⟨j + 1, by have := HJ.out; omega, by go_num, by rw [HE.out.1], hid (by rw [HE.out.1]; exact HMB.out), ⟨k0 + 1, A1, c1, by first | rfl | go_num, ?_⟩, HB3⟩
          rw [HE.out.2]
          exact hid (by simpa using HO3.out)
      · have g1 : decide ((k : Int) < (m : Int)) = false := decide_eq_false (by omega)
        have g2 : decide (k < m) = false := decide_eq_false (by omega)
        have g3 : ((k : Int) == (m : Int)) = false := beq_eq_false_iff_ne.2 (by omega)
        clear hlt2 hwl hk
        go_wp2_with (go_at_call 69; refine HCA.out.mono ?_; rintro e w2 ⟨rfl, hb2⟩; have HB2 := hid (below_call hW.out hb2 hzr); have HOX := hid (own_below hO.out hb2); clear hb2)
        go_roundg (gk - 1)
        case measure => have := HJ.out; omega
        case rel =>
          refine ⟨j + 1, by have := HJ.out; omega, by go_num, by rw [HE.out.1], hid (by rw [HE.out.1]; exact HMB.out), ⟨k0, A', c', rfl, ?_⟩, HB2⟩
          rw [HE.out.2]
          exact HOX
    · obtain rfl : j = N := by omega
      have hSB := hid (Sl.of_own hO.out)
      have hlen : (bestTo c p l (leastTo c p l (l.length + 1) j) j).length = k0 := by have := hO.out.1; simpa using this
      have hix := @pick_idx (bestTo c p l (leastTo c p l (l.length + 1) j) j) l
      have hne := HP.out
      have HI := hid (indexFunc A' k0 c' _ 71 #[.pointer (some ⟨w1.heap.size + 1, 0, none⟩)] (fun a => l.contains a) wr hSB.out ⟨enters Try.func71 (by kernel_rfl) rfl, fun x _ W2 hW2 => (next1 A2 l.length c2 l x (w1.heap.size + 1) W2 (hS.out.below hW2) (b1.out.keep hW2)).mono fun e w' ⟨he, hw⟩ => ⟨he, by rw [← hw]; exact Below.refl _ _⟩⟩)
      have HNX : Hid (nextL c p j l = pickL (bestTo c p l (leastTo c p l (l.length + 1) j) j) l) := hid rfl
      generalize bestTo c p l (leastTo c p l (l.length + 1) j) j = best at *
      have HHE := hid hlen; have HNE := hid hne
      clear hj hne hlen
      rcases hix with ⟨h1, h2⟩ | ⟨k, x, h1, h2, h3⟩
      · rw [h1] at HI
        have HEQ : Hid (nextL c p j l = best.headD 0) := hid (HNX.out.trans h2)
        obtain ⟨x, hx0⟩ : ∃ x, best[0]? = some x := by
          cases best with
          | nil => exact absurd rfl HNE.out
          | cons a t => exact ⟨a, rfl⟩
        have HXX : Hid (best.headD 0 = x) := hid (by
          cases best with
          | nil => simp at hx0
          | cons a t => simpa using hx0)
        have hkp : 0 < k0 := by have := (List.getElem?_eq_some_iff.1 hx0).1; have := HHE.out; omega
        have HX := hid hx0
        obtain ⟨b, o, u, rfl, lb, hx, hcl⟩ := hSB.out.at hkp
        rw [List.getElem?_map, HX.out] at hx
        obtain rfl := (Option.some.inj hx).symm
        have hcl0 : wr.cell? ⟨b, o, none⟩ = some (.int .i64 x) := hcl
        clear h1 h2 hx0 hx hcl
        go_wp2_with (go_at_call 70; refine HI.out.mono ?_; rintro e w2 ⟨⟨r, rfl, rfl⟩, hb2⟩; have HB2 := hid hb2; have hcl2 := cell_keep hb2 hcl0; clear hb2)
        go_ret2
        exact ⟨by rw [HEQ.out, HXX.out]; rfl, below_call (below_call HBB.out hW.out hzb) HB2.out (by omega)⟩
      · rw [h1] at HI
        have HEQ : Hid (nextL c p j l = x) := hid (HNX.out.trans h3)
        have hkp : k < k0 := by have := (List.getElem?_eq_some_iff.1 h2).1; have := HHE.out; omega
        have HX := hid h2
        have g1 : decide (0 ≤ (k : Int)) = true := decide_eq_true (by omega)
        obtain ⟨b, o, u, rfl, lb, hx, hcl⟩ := hSB.out.at hkp
        rw [List.getElem?_map, HX.out] at hx
        obtain rfl := (Option.some.inj hx).symm
        have HKK := HBB.out.size
        clear h1 h2 h3 hx
        go_wp2_with (go_at_call 70; refine HI.out.mono ?_; rintro e w2 ⟨⟨r, rfl, rfl⟩, hb2⟩; have HB2 := hid hb2; have hcl2 := cell_keep hb2 hcl; clear hb2)
        go_ret2
        exact ⟨by rw [HEQ.out]; rfl, below_call (below_call HBB.out hW.out hzb) HB2.out (by omega)⟩
end Go.Proofs.Ytdclmhmdkhpekaa
