/- Texts of this proof, one behind the other; each says its condition at its head. -/
import Derived.Test.YtciadmjdadnolaaGreatDoorE21
/- Walks of slices.Index on strings, exactly, and of a line's pair. Condition: what is read lies there. -/
namespace Go.Proofs.YtciadmjdadnolaaGreatDoor
open Go.RowKit Go.Maps
/-- The first place of a word in a list, or -1. -/
def idxZ : List ByteArray → ByteArray → Int
 | [], _ => -1
 | y :: l, x => if y = x then 0 else if idxZ l x < 0 then -1 else idxZ l x + 1
theorem idxZ_at (x : ByteArray) : ∀ (l : List ByteArray) (k : Nat), l[k]? = some x → (∀ j, j < k → l[j]? ≠ some x) → idxZ l x = k
 | [], k, h, _ => by simp at h
 | y :: l, k, h, hn => by
  cases k with
  | zero =>
   simp at h
   unfold idxZ
   rw [if_pos h]
   rfl
  | succ k =>
   have hy : ¬ y = x := fun e => hn 0 (by omega) (by simp [e])
   have ih := idxZ_at x l k (by simpa using h) (fun j hj => by have := hn (j + 1) (by omega); simpa using this)
   unfold idxZ
   rw [if_neg hy, ih, if_neg (by omega)]
   omega
theorem idxZ_no (x : ByteArray) : ∀ (l : List ByteArray), (∀ j : Nat, l[j]? ≠ some x) → idxZ l x = -1
 | [], _ => rfl
 | y :: l, h => by
  have hy : ¬ y = x := fun e => h 0 (by simp [e])
  have ih := idxZ_no x l (fun j => by have := h (j + 1); simpa using this)
  unfold idxZ
  rw [if_neg hy, ih]
  rfl
theorem idxZ_bd (x : ByteArray) : ∀ (l : List ByteArray), -1 ≤ idxZ l x ∧ idxZ l x < l.length
 | [] => by unfold idxZ; simp
 | y :: l => by
  have ih := idxZ_bd x l
  unfold idxZ
  rw [List.length_cons]
  split
  · omega
  · split
    · omega
    · omega
set_option maxRecDepth 100000 in
set_option maxHeartbeats 1000000 in
theorem strIdxE (A : Option Addr) (n c : Nat) (l : List ByteArray) (b : ByteArray) (w : World) (hs : Sl w A n c (strV l)) :
 Calls Tryz.prog 92 #[.slice A n c, .string b] w fun e w' => e = .returned (.int .i64 (idxZ l b)) ∧ w = w' := by
 have hm : n ≤ 9223372036854775807 := by have := hs.cap; have := hs.capm; unfold maxLen at this; omega
 have HS := hid hs
 have HL := hid (show l.length = n by have := hs.len; simpa [strV] using this)
 clear hs
 go_enter Tryz.func92, Tryz.ntmps92
 go_wp2
 go_loopg [8] n (fun gk i wr => ∃ k : Nat, gk + k = n ∧ i = .int .i64 k ∧ Hid (∀ j, j < k → l[j]? ≠ some b) ∧ w = wr)
 case atStart => exact ⟨0, by omega, rfl, hid fun j h => absurd h (by omega), rfl⟩
 case round =>
  obtain ⟨k, hk, rfl, HN, hw⟩ := hrel
  subst hw
  have HK := hid hk
  by_cases hlt : k < n
  · have HLT := hid hlt
    obtain ⟨b1, o, u, rfl, lb1, e1, ca⟩ := HS.out.at hlt
    obtain ⟨y, hy, rfl⟩ := Option.map_eq_some_iff.1 (show (l[k]?).map (fun b => Value.string b) = some u by rw [← List.getElem?_map]; exact e1)
    have HY := hid hy
    clear e1 hy hk lb1
    by_cases hq : b = y
    · subst hq
      have hqe : (b.data.toList == b.data.toList) = true := by simp
      have hqe2 : (b.toList == b.toList) = true := by simp
      go_wp2
      go_ret
      exact ⟨by rw [idxZ_at b l k HY.out HN.out]; rfl, rfl⟩
    · have hq2 : ¬ y = b := fun e => hq e.symm
      have HQ := hid hq
      have hqe2 : (b.toList == y.toList) = false := by rw [beq_eq_false_iff_ne]; exact fun e => hq (toList_inj e)
      go_wp2
      go_roundg (gk - 1)
      case measure => have := HK.out; have := HLT.out; omega
      case rel =>
       refine ⟨k + 1, by have := HK.out; have := HLT.out; omega, by go_num, hid fun j hj => ?_, rfl⟩
       by_cases e : j = k
       · subst e
         rw [HY.out]
         exact fun e => HQ.out (Option.some.inj e).symm
       · exact HN.out j (by omega)
  · obtain rfl : k = n := by have := HK.out; omega
    clear hk
    go_wp2
    go_ret
    exact ⟨by
     rw [idxZ_no b l (fun i hi => HN.out i (by have := (List.getElem?_eq_some_iff.1 hi).1; have := HL.out; omega) hi)]; rfl, rfl⟩
set_option maxRecDepth 100000 in
set_option maxHeartbeats 4000000 in
theorem pairF (w : World) (l : List ByteArray) (x y : ByteArray) (A : Option Addr) (n c : Nat) (ln : Value) (Q : Option Addr) (qc : Nat) (hq : Sl w Q l.length qc (strV l)) (hs : Sl w A n c (strV [x, y])) (hln : ∃ a k d, ln = .slice a k d) :
 Calls Tryz.prog 63 #[.agg #[.slice A n c, ln], .slice Q l.length qc] w fun r w' => r = .returned (.tuple #[.int .i64 (idxZ l x), .int .i64 (idxZ l y), .bool (decide (0 ≤ idxZ l x) && decide (0 ≤ idxZ l y))]) ∧ Below w.heap.size w w' := by
 obtain rfl : n = 2 := by have := hs.len; simp [strV] at this; exact this.symm
 obtain ⟨ab, ao, y0, rfl, lb, e1, ca⟩ := hs.at (k := 0) (by omega)
 obtain ⟨ab', ao', y1, hh1, lb1, e11, ca1⟩ := hs.at (k := 1) (by omega)
 cases hh1
 simp only [strV, List.map_cons, List.map_nil, List.getElem?_cons_zero, List.getElem?_cons_succ, Option.some.injEq, Nat.add_zero] at e1 e11 ca
 subst e1 e11
 obtain ⟨la, lk, ld, rfl⟩ := hln
 have HX := hid ((Below.refl w.heap.size w).alloc (Nat.le_refl _) (.cells #[.slice (some ⟨ab, ao, none⟩) 2 c, .slice la lk ld] 91))
 have HBX := hid (Blk.new w 91 #[.slice (some ⟨ab, ao, none⟩) 2 c, .slice la lk ld])
 have HQ := hid (hq.below HX.out)
 have HC0 := hid (cell_keep HX.out ca)
 have HC1 := hid (cell_keep HX.out ca1)
 clear hq hs lb lb1 ca ca1
 go_enter Tryz.func63, Tryz.ntmps63
 go_wp2_with fail
 generalize w.alloc (.cells #[.slice (some ⟨ab, ao, none⟩) 2 c, .slice la lk ld] 91) = X at *
 go_cut [4, 5] from 7 to 18 (fun q r wx => q = .int .i64 (idxZ l x) ∧ r = .int .i64 (idxZ l y) ∧ Hid (Below w.heap.size w wx))
 case first =>
  refine wp_region_held_drew (S := (fun w' => w'.cell? ⟨w.heap.size, 0, none⟩ = some (.slice (some ⟨ab, ao, none⟩) 2 c) ∧ w'.cell? ⟨ab, ao, none⟩ = some (.string x) ∧ w'.cell? ⟨ab, ao + 1, none⟩ = some (.string y))) (by kernel_rfl) (by (try dsimp only); (exact ⟨HBX.out.cell 0, HC0.out, HC1.out⟩)) (fun hHeld => ?_)
  have HBX := hid HBX.out.drew; have HX := hid HX.out.drew
  have HQ := hid (HQ.out.below (Below.refl _ X).drew)
  have HC0 := hid (cell_keep (Below.refl _ X).drew HC0.out); have HC1 := hid (cell_keep (Below.refl _ X).drew HC1.out)
  generalize X.drew = X1 at *
  obtain ⟨X, rfl⟩ : ∃ Y, Y = X1 := ⟨X1, rfl⟩
  refine takeD (i := 0) (v := ?_) (some 7) rfl rfl (by kernel_rfl) (by kernel_rfl) (by kernel_rfl) (fun _ _ _ h => h) (Or.inl ⟨by rfl, ?_⟩) (by assumption) ?_; rotate_left; · (intro w hSw; (try dsimp only at hSw); first | (go_simp; done) | (go_simp; with_reducible rfl))
  try simp only [Act.put, List.setIfInBounds_toArray, List.set_cons_zero, List.set_cons_succ]
  refine takeD (i := 1) (v := ?_) (some 8) rfl rfl (by kernel_rfl) (by kernel_rfl) (by kernel_rfl) (fun _ _ _ h => h) (Or.inl ⟨by rfl, ?_⟩) (by assumption) ?_; rotate_left; · (intro w hSw; (try dsimp only at hSw); first | (go_simp; done) | (go_simp; with_reducible rfl))
  try simp only [Act.put, List.setIfInBounds_toArray, List.set_cons_zero, List.set_cons_succ]
  refine takeD (i := 2) (v := ?_) (some 9) rfl rfl (by kernel_rfl) (by kernel_rfl) (by kernel_rfl) (fun _ _ _ h => h) (Or.inl ⟨by rfl, ?_⟩) (by assumption) ?_; rotate_left; · (intro w hSw; (try dsimp only at hSw); first | (go_simp; done) | (go_simp; with_reducible rfl))
  try simp only [Act.put, List.setIfInBounds_toArray, List.set_cons_zero, List.set_cons_succ]
  refine takeD (i := 3) (v := ?_) (some 10) rfl rfl (by kernel_rfl) (by kernel_rfl) (by kernel_rfl) (fun _ _ _ h => h) (Or.inl ⟨by rfl, ?_⟩) (by assumption) ?_; rotate_left; · (intro w hSw; (try dsimp only at hSw); first | (go_simp; done) | (go_simp; with_reducible rfl))
  try simp only [Act.put, List.setIfInBounds_toArray, List.set_cons_zero, List.set_cons_succ]
  refine takeD (i := 4) (v := ?_) (some 11) rfl rfl (by kernel_rfl) (by kernel_rfl) (by kernel_rfl) (fun _ _ _ h => h) (Or.inl ⟨by rfl, ?_⟩) (by assumption) ?_; rotate_left; · (intro w hSw; (try dsimp only at hSw); first | (go_simp; done) | (go_simp; with_reducible rfl))
  try simp only [Act.put, List.setIfInBounds_toArray, List.set_cons_zero, List.set_cons_succ]
  refine takeD (i := 6) (v := ?_) (some 13) rfl rfl (by kernel_rfl) (by kernel_rfl) (by kernel_rfl) (fun _ _ _ h => h) (Or.inl ⟨by rfl, ?_⟩) (by assumption) ?_; rotate_left; · (intro w hSw; (try dsimp only at hSw); first | (go_simp; done) | (go_simp; with_reducible rfl))
  try simp only [Act.put, List.setIfInBounds_toArray, List.set_cons_zero, List.set_cons_succ]
  refine takeD (i := 7) (v := ?_) (some 14) rfl rfl (by kernel_rfl) (by kernel_rfl) (by kernel_rfl) (fun _ _ _ h => h) (Or.inl ⟨by rfl, ?_⟩) (by assumption) ?_; rotate_left; · (intro w hSw; (try dsimp only at hSw); first | (go_simp; done) | (go_simp; with_reducible rfl))
  try simp only [Act.put, List.setIfInBounds_toArray, List.set_cons_zero, List.set_cons_succ]
  refine takeD (i := 8) (v := ?_) (some 15) rfl rfl (by kernel_rfl) (by kernel_rfl) (by kernel_rfl) (fun _ _ _ h => h) (Or.inl ⟨by rfl, ?_⟩) (by assumption) ?_; rotate_left; · (intro w hSw; (try dsimp only at hSw); first | (go_simp; done) | (go_simp; with_reducible rfl))
  try simp only [Act.put, List.setIfInBounds_toArray, List.set_cons_zero, List.set_cons_succ]
  refine takeD (i := 9) (v := ?_) (some 16) rfl rfl (by kernel_rfl) (by kernel_rfl) (by kernel_rfl) (fun _ _ _ h => h) (Or.inl ⟨by rfl, ?_⟩) (by assumption) ?_; rotate_left; · (intro w hSw; (try dsimp only at hSw); first | (go_simp; done) | (go_simp; with_reducible rfl))
  try simp only [Act.put, List.setIfInBounds_toArray, List.set_cons_zero, List.set_cons_succ]
  refine takeD (i := 10) (v := ?_) (some 17) rfl rfl (by kernel_rfl) (by kernel_rfl) (by kernel_rfl) (fun _ _ _ h => h) (Or.inl ⟨by rfl, ?_⟩) (by assumption) ?_; rotate_left; · (intro w hSw; (try dsimp only at hSw); first | (go_simp; done) | (go_simp; with_reducible rfl))
  try simp only [Act.put, List.setIfInBounds_toArray, List.set_cons_zero, List.set_cons_succ]
  refine wpAnyH_ready (rs := [5]) (by kernel_rfl) (by simp) ?_
  refine AllReadyH.cons rfl (fun K hK => ?_) AllReadyH.nil
  go_simp
  refine (strIdxE Q l.length qc l x X HQ.out).mono ?_; rintro e' X1 ⟨rfl, rfl⟩
  clear hHeld
  refine hK.out _ _ ?_ (fun hHeld => ?_); · ((try dsimp only); (exact ⟨HBX.out.cell 0, HC0.out, HC1.out⟩))
  clear hK K
  try simp only [Act.put, List.setIfInBounds_toArray, List.set_cons_zero, List.set_cons_succ]
  refine wpAnyH_ready (rs := [11]) (by kernel_rfl) (by simp) ?_
  refine AllReadyH.cons rfl (fun K hK => ?_) AllReadyH.nil
  go_simp
  refine (strIdxE Q l.length qc l y X HQ.out).mono ?_; rintro e' X1 ⟨rfl, rfl⟩
  clear hHeld
  refine hK.out _ _ ?_ (fun hHeld => ?_); · ((try dsimp only); (exact ⟨HBX.out.cell 0, HC0.out, HC1.out⟩))
  clear hK K
  try simp only [Act.put, List.setIfInBounds_toArray, List.set_cons_zero, List.set_cons_succ]
  refine takeD (i := 12) (v := ?_) (some 4) rfl rfl (by kernel_rfl) (by kernel_rfl) (by kernel_rfl) (fun _ _ _ h => h) (Or.inl ⟨by rfl, ?_⟩) (by assumption) ?_; rotate_left; · (intro w hSw; (try dsimp only at hSw); first | (go_simp; done) | (go_simp; with_reducible rfl))
  try simp only [Act.put, List.setIfInBounds_toArray, List.set_cons_zero, List.set_cons_succ]
  refine takeD (i := 13) (v := ?_) (some 5) rfl rfl (by kernel_rfl) (by kernel_rfl) (by kernel_rfl) (fun _ _ _ h => h) (Or.inl ⟨by rfl, ?_⟩) (by assumption) ?_; rotate_left; · (intro w hSw; (try dsimp only at hSw); first | (go_simp; done) | (go_simp; with_reducible rfl))
  try simp only [Act.put, List.setIfInBounds_toArray, List.set_cons_zero, List.set_cons_succ]
  refine wpAnyH_done (by kernel_rfl) ?_ _
  go_wp2_with fail
  go_meet
  case rel => exact ⟨rfl, rfl, HX⟩
 case rest =>
  obtain ⟨rfl, rfl, HX⟩ := hcut
  have hb1 := idxZ_bd x l
  have hb2 := idxZ_bd y l
  obtain ⟨i, hi⟩ : ∃ i, i = idxZ l x := ⟨_, rfl⟩
  obtain ⟨j, hj⟩ : ∃ j, j = idxZ l y := ⟨_, rfl⟩
  rw [← hi] at hb1 ⊢
  rw [← hj] at hb2 ⊢
  have HI := hid hi
  have HJ := hid hj
  clear hi hj hb1 hb2
  by_cases h0 : 0 ≤ i
  · go_wp2
    go_ret3
    exact ⟨by rw [← HI.out, ← HJ.out, decide_eq_true h0]; rfl, HX.out⟩
  · go_wp2
    go_ret3
    exact ⟨by rw [← HI.out, ← HJ.out, decide_eq_false (by omega)]; rfl, HX.out⟩
end Go.Proofs.YtciadmjdadnolaaGreatDoor
/- Walk of beat at any state of a call's own. Condition: the line's names lie below it; as many beats as players. -/
namespace Go.Proofs.YtciadmjdadnolaaGreatDoor
open Go.RowKit Go.Maps
attribute [local go_sem ↓] shl_p2 shr_v and_shr
/-- One number of a list written anew. -/
def putI (l : List Int) (i : Nat) (f : Int → Int) : List Int := l.set i (f (l.getD i 0))
/-- beat on a mint's books; and the answer's number. -/
def beatL (s : Bk) (x y : ByteArray) : Bk × Nat :=
 if 0 ≤ idxZ s.players x ∧ 0 ≤ idxZ s.players y then
  if idxZ s.players x = idxZ s.players y ∨ bitV (s.beats.getD (idxZ s.players x).toNat 0) (idxZ s.players y) = 1 then (s, 5)
  else ({ s with beats := putI (putI s.beats (idxZ s.players x).toNat fun v => bits .or .i64 v (p2 (idxZ s.players y))) (idxZ s.players y).toNat fun v => bits .andNot .i64 v (p2 (idxZ s.players x)) }, 0)
 else (s, 4)
set_option maxRecDepth 100000 in
set_option maxHeartbeats 4000000 in
theorem beatAny (w : World) (B b : Nat) (m u p t e : Value) (s : Bk) (x y : ByteArray) (A : Option Addr) (n c : Nat) (ln : Value) (h : StO w B b m u p t e s) (hsm : BkS s) (hpb : s.beats.length = s.players.length) (hs : Sl w A n c (strV [x, y])) (hln : ∃ a k d, ln = .slice a k d) :
 Calls Tryz.prog 47 #[.pointer (some ⟨b, 0, none⟩), .agg #[.slice A n c, ln]] w fun r w' => r = .returned (.int .i64 ((beatL s x y).2 : Nat)) ∧ StO w' B b m u p t e (beatL s x y).1 ∧ Below B w w' := by
 obtain ⟨la, lk, ld, rfl⟩ := hln
 have hBw : B ≤ w.heap.size := by have := h.low; have := h.blk.lt; omega
 have HX := hid ((Below.refl w.heap.size w).alloc (Nat.le_refl _) (.cells #[.slice A n c, .slice la lk ld] 91))
 have HBX := hid (Blk.new w 91 #[.slice A n c, .slice la lk ld])
 have HS := hid (h.below HX.out)
 have HL := hid (hs.below HX.out)
 have HLO := hid h.low
 have HBW := hid hBw
 have HSM := hid hsm
 have HPB := hid hpb
 obtain ⟨Q, qc, rfl⟩ := own_form h.pla
 clear h hs hBw hsm hpb
 go_enter Tryz.func47, Tryz.ntmps47
 go_wp2_with fail
 generalize w.alloc (.cells #[.slice A n c, .slice la lk ld] 91) = X at *
 have HX := hid (HX.out.mono HBW.out)
 go_cut [5, 6, 7] from 9 to 17 (fun q r z wx => q = .int .i64 (idxZ s.players x) ∧ r = .int .i64 (idxZ s.players y) ∧ z = .bool (decide (0 ≤ idxZ s.players x) && decide (0 ≤ idxZ s.players y)) ∧ Hid (StO wx B b m u (.slice Q s.players.length qc) t e s) ∧ Hid (Below B w wx))
 case first =>
  refine wp_region_held_drew (S := (fun w' => w'.cell? ⟨w.heap.size, 0, none⟩ = some (.slice A n c) ∧ w'.cell? ⟨w.heap.size, 1, none⟩ = some (.slice la lk ld) ∧ w'.cell? ⟨b, 2, none⟩ = some (.slice Q s.players.length qc))) (by kernel_rfl) (by (try dsimp only); (exact ⟨HBX.out.cell 0, HBX.out.cell 1, HS.out.blk.cell 2⟩)) (fun hHeld => ?_)
  have HS := hid (HS.out.below (Below.refl _ X).drew); have HBX := hid HBX.out.drew; have HX := hid HX.out.drew
  have HL := hid (HL.out.below (Below.refl _ X).drew)
  generalize X.drew = X1 at *
  obtain ⟨X, rfl⟩ : ∃ Y, Y = X1 := ⟨X1, rfl⟩
  refine takeD (i := 0) (v := ?_) (some 9) rfl rfl (by kernel_rfl) (by kernel_rfl) (by kernel_rfl) (fun _ _ _ h => h) (Or.inl ⟨by rfl, ?_⟩) (by assumption) ?_; rotate_left; · (intro w hSw; (try dsimp only at hSw); first | (go_simp; done) | (go_simp; with_reducible rfl))
  try simp only [Act.put, List.setIfInBounds_toArray, List.set_cons_zero, List.set_cons_succ]
  refine takeD (i := 1) (v := ?_) (some 10) rfl rfl (by kernel_rfl) (by kernel_rfl) (by kernel_rfl) (fun _ _ _ h => h) (Or.inl ⟨by rfl, ?_⟩) (by assumption) ?_; rotate_left; · (intro w hSw; (try dsimp only at hSw); first | (go_simp; done) | (go_simp; with_reducible rfl))
  try simp only [Act.put, List.setIfInBounds_toArray, List.set_cons_zero, List.set_cons_succ]
  refine takeD (i := 2) (v := ?_) (some 11) rfl rfl (by kernel_rfl) (by kernel_rfl) (by kernel_rfl) (fun _ _ _ h => h) (Or.inl ⟨by rfl, ?_⟩) (by assumption) ?_; rotate_left; · (intro w hSw; (try dsimp only at hSw); first | (go_simp; done) | (go_simp; with_reducible rfl))
  try simp only [Act.put, List.setIfInBounds_toArray, List.set_cons_zero, List.set_cons_succ]
  refine takeD (i := 3) (v := ?_) (some 12) rfl rfl (by kernel_rfl) (by kernel_rfl) (by kernel_rfl) (fun _ _ _ h => h) (Or.inl ⟨by rfl, ?_⟩) (by assumption) ?_; rotate_left; · (intro w hSw; (try dsimp only at hSw); first | (go_simp; done) | (go_simp; with_reducible rfl))
  try simp only [Act.put, List.setIfInBounds_toArray, List.set_cons_zero, List.set_cons_succ]
  refine takeD (i := 4) (v := ?_) (some 13) rfl rfl (by kernel_rfl) (by kernel_rfl) (by kernel_rfl) (fun _ _ _ h => h) (Or.inl ⟨by rfl, ?_⟩) (by assumption) ?_; rotate_left; · (intro w hSw; (try dsimp only at hSw); first | (go_simp; done) | (go_simp; with_reducible rfl))
  try simp only [Act.put, List.setIfInBounds_toArray, List.set_cons_zero, List.set_cons_succ]
  refine wpAnyH_ready (rs := [5]) (by kernel_rfl) (by simp) ?_
  refine AllReadyH.cons rfl (fun K hK => ?_) AllReadyH.nil
  go_simp
  refine (pairF X s.players x y A n c (.slice la lk ld) Q qc (Sl.of_own HS.out.pla) HL.out ⟨_, _, _, rfl⟩).mono ?_; rintro e' X1 ⟨rfl, bb⟩
  have HS := hid (HS.out.below bb); have HBX := hid (HBX.out.keep bb)
  have HX := hid (below_call HX.out bb (Nat.le_trans HBW.out HX.out.size))
  clear bb hHeld
  obtain ⟨X, rfl⟩ : ∃ Y, Y = X1 := ⟨X1, rfl⟩
  refine hK.out _ _ ?_ (fun hHeld => ?_); · ((try dsimp only); (exact ⟨HBX.out.cell 0, HBX.out.cell 1, HS.out.blk.cell 2⟩))
  clear hK K
  try simp only [Act.put, List.setIfInBounds_toArray, List.set_cons_zero, List.set_cons_succ]
  refine takeD (i := 6) (v := ?_) (some 8) rfl rfl (by kernel_rfl) (by kernel_rfl) (by kernel_rfl) (fun _ _ _ h => h) (Or.inl ⟨by rfl, ?_⟩) (by assumption) ?_; rotate_left; · (intro w hSw; (try dsimp only at hSw); first | (go_simp; done) | (go_simp; with_reducible rfl))
  try simp only [Act.put, List.setIfInBounds_toArray, List.set_cons_zero, List.set_cons_succ]
  refine takeD (i := 7) (v := ?_) (some 15) rfl rfl (by kernel_rfl) (by kernel_rfl) (by kernel_rfl) (fun _ _ _ h => h) (Or.inl ⟨by rfl, ?_⟩) (by assumption) ?_; rotate_left; · (intro w hSw; (try dsimp only at hSw); first | (go_simp; done) | (go_simp; with_reducible rfl))
  try simp only [Act.put, List.setIfInBounds_toArray, List.set_cons_zero, List.set_cons_succ]
  refine takeD (i := 8) (v := ?_) (some 16) rfl rfl (by kernel_rfl) (by kernel_rfl) (by kernel_rfl) (fun _ _ _ h => h) (Or.inl ⟨by rfl, ?_⟩) (by assumption) ?_; rotate_left; · (intro w hSw; (try dsimp only at hSw); first | (go_simp; done) | (go_simp; with_reducible rfl))
  try simp only [Act.put, List.setIfInBounds_toArray, List.set_cons_zero, List.set_cons_succ]
  refine takeD (i := 9) (v := ?_) (some 17) rfl rfl (by kernel_rfl) (by kernel_rfl) (by kernel_rfl) (fun _ _ _ h => h) (Or.inl ⟨by rfl, ?_⟩) (by assumption) ?_; rotate_left; · (intro w hSw; (try dsimp only at hSw); first | (go_simp; done) | (go_simp; with_reducible rfl))
  try simp only [Act.put, List.setIfInBounds_toArray, List.set_cons_zero, List.set_cons_succ]
  refine takeD (i := 10) (v := ?_) (some 5) rfl rfl (by kernel_rfl) (by kernel_rfl) (by kernel_rfl) (fun _ _ _ h => h) (Or.inl ⟨by rfl, ?_⟩) (by assumption) ?_; rotate_left; · (intro w hSw; (try dsimp only at hSw); first | (go_simp; done) | (go_simp; with_reducible rfl))
  try simp only [Act.put, List.setIfInBounds_toArray, List.set_cons_zero, List.set_cons_succ]
  refine takeD (i := 11) (v := ?_) (some 6) rfl rfl (by kernel_rfl) (by kernel_rfl) (by kernel_rfl) (fun _ _ _ h => h) (Or.inl ⟨by rfl, ?_⟩) (by assumption) ?_; rotate_left; · (intro w hSw; (try dsimp only at hSw); first | (go_simp; done) | (go_simp; with_reducible rfl))
  try simp only [Act.put, List.setIfInBounds_toArray, List.set_cons_zero, List.set_cons_succ]
  refine takeD (i := 12) (v := ?_) (some 7) rfl rfl (by kernel_rfl) (by kernel_rfl) (by kernel_rfl) (fun _ _ _ h => h) (Or.inl ⟨by rfl, ?_⟩) (by assumption) ?_; rotate_left; · (intro w hSw; (try dsimp only at hSw); first | (go_simp; done) | (go_simp; with_reducible rfl))
  try simp only [Act.put, List.setIfInBounds_toArray, List.set_cons_zero, List.set_cons_succ]
  refine wpAnyH_done (by kernel_rfl) ?_ _
  go_wp2_with fail
  go_meet
  case rel => exact ⟨rfl, rfl, rfl, HS, HX⟩
 case rest =>
  obtain ⟨rfl, rfl, rfl, HS, HX⟩ := hcut
  have hb1 := idxZ_bd x s.players
  have hb2 := idxZ_bd y s.players
  generalize hi : idxZ s.players x = i at *
  generalize hj : idxZ s.players y = j at *
  by_cases hok : 0 ≤ i ∧ 0 ≤ j
  · obtain ⟨i, rfl⟩ := Int.eq_ofNat_of_zero_le hok.1
    obtain ⟨j, rfl⟩ := Int.eq_ofNat_of_zero_le hok.2
    have e0 : (decide (0 ≤ (i : Int)) && decide (0 ≤ (j : Int))) = true := by rw [decide_eq_true hok.1, decide_eq_true hok.2]; rfl
    rw [e0]
    have hil : i < s.beats.length := by have := HPB.out; omega
    have hjl : j < s.beats.length := by have := HPB.out; omega
    have HIL := hid hil
    have HJL := hid hjl
    have h8 : s.beats.length ≤ 8 := HSM.out.2.2.2.1
    obtain ⟨g, tc, rfl, hc0, hf, hBg, hgb, hlc, hcm⟩ := HS.out.beaAt hil
    have eg : s.beats.getD i 0 = s.beats[i] := by rw [List.getD_eq_getElem?_getD, List.getElem?_eq_getElem hil]; rfl
    obtain ⟨vi, hvi⟩ : ∃ v, v = s.beats[i]'hil := ⟨_, rfl⟩
    have hc : wc.cell? ⟨g, i, none⟩ = some (.int .i64 vi) := by rw [hvi]; exact hc0
    have eg : s.beats.getD i 0 = vi := by rw [hvi]; exact eg
    have z3 := HS.out.blk.cell 3
    simp only [stV, List.getElem?_toArray, List.getElem?_cons_zero, List.getElem?_cons_succ] at z3
    have fitj : Fits (j : Int) := ⟨by omega, by omega⟩
    have fiti : Fits (i : Int) := ⟨by omega, by omega⟩
    have hi2 : (i : Int) < s.beats.length := by omega
    have hj2 : (j : Int) < s.beats.length := by omega
    have HG := hid hBg
    have HC := hid hc
    by_cases hsame : i = j
    · have HM := hid (show beatL s x y = (s, 5) by unfold beatL; rw [hi, hj, if_pos hok, if_pos (.inl (by rw [hsame]))])
      subst hsame
      clear hc0 hi hj hb1 hb2 hok e0 hil hjl hf hBg hgb hlc hcm eg hvi
      go_wp2
      go_ret
      rw [HM.out]
      exact ⟨rfl, HS.out, HX.out⟩
    · have hne2 : ¬ (i : Int) = (j : Int) := by omega
      by_cases hbit : bitV vi j = 1
      · have HM := hid (show beatL s x y = (s, 5) by unfold beatL; rw [hi, hj, if_pos hok, if_pos (.inr (by rw [Int.toNat_natCast, eg]; exact hbit))])
        clear hc0 hi hj hb1 hb2 hok e0 hil hjl hf hBg hgb hlc hcm eg hvi
        go_wp2
        go_ret
        rw [HM.out]
        exact ⟨rfl, HS.out, HX.out⟩
      · have q1 : ((i : Int) == (j : Int)) = false := by rw [beq_eq_false_iff_ne]; exact hne2
        have q2 : (bitV vi (j : Int) == 1) = false := by rw [beq_eq_false_iff_ne]; exact hbit
        have q3 : (i == j) = false := by rw [beq_eq_false_iff_ne]; exact hsame
        have HM := hid (show beatL s x y = ({ s with beats := putI (putI s.beats i fun v => bits .or .i64 v (p2 j)) j fun v => bits .andNot .i64 v (p2 i) }, 0) by unfold beatL; rw [hi, hj, if_pos hok, if_neg (by rw [Int.toNat_natCast, eg]; rintro (h | h); exact hne2 h; exact hbit h)]; rfl)
        have HP1 := hid (show putI s.beats i (fun v => bits .or .i64 v (p2 j)) = s.beats.set i (bits .or .i64 vi (p2 j)) by unfold putI; rw [eg])
        clear hc0 hi hj hb1 hb2 hok e0 hil hjl hf hBg hgb hlc hcm eg hvi
        go_wp2_with fail
        obtain ⟨X, rfl⟩ : ∃ Y, Y = wc := ⟨wc, rfl⟩
        clear z3 hc
        go_cut [8] from 38 to 48 (fun _q wx => Hid (StO wx B b m u (.slice Q s.players.length qc) (.slice (some ⟨g, 0, none⟩) s.beats.length tc) e { s with beats := s.beats.set i (bits .or .i64 vi (p2 j)) }) ∧ Hid (Below B w wx))
        case first =>
         refine wp_region_held_drew (S := (fun w' => w'.cell? ⟨b, 3, none⟩ = some (.slice (some ⟨g, 0, none⟩) s.beats.length tc))) (by kernel_rfl) (by (try dsimp only); (exact HS.out.blk.cell 3)) (fun hHeld => ?_)
         have HS := hid (HS.out.below (Below.refl _ X).drew); have HX := hid HX.out.drew
         have HC := hid (cell_keep (Below.refl _ X).drew HC.out)
         generalize X.drew = X1 at *
         obtain ⟨X, rfl⟩ : ∃ Y, Y = X1 := ⟨X1, rfl⟩
         refine takeD (i := 0) (v := ?_) (some 38) rfl rfl (by kernel_rfl) (by kernel_rfl) (by kernel_rfl) (fun _ _ _ h => h) (Or.inl ⟨by rfl, ?_⟩) (by assumption) ?_; rotate_left; · (intro w hSw; (try dsimp only at hSw); first | (go_simp; done) | (go_simp; with_reducible rfl))
         try simp only [Act.put, List.setIfInBounds_toArray, List.set_cons_zero, List.set_cons_succ]
         refine takeD (i := 1) (v := ?_) (some 39) rfl rfl (by kernel_rfl) (by kernel_rfl) (by kernel_rfl) (fun _ _ _ h => h) (Or.inl ⟨by rfl, ?_⟩) (by assumption) ?_; rotate_left; · (intro w hSw; (try dsimp only at hSw); first | (go_simp; done) | (go_simp; with_reducible rfl))
         try simp only [Act.put, List.setIfInBounds_toArray, List.set_cons_zero, List.set_cons_succ]
         refine takeD (i := 2) (v := ?_) (some 40) rfl rfl (by kernel_rfl) (by kernel_rfl) (by kernel_rfl) (fun _ _ _ h => h) (Or.inl ⟨by rfl, ?_⟩) (by assumption) ?_; rotate_left; · (intro w hSw; (try dsimp only at hSw); first | (go_simp; done) | (go_simp; with_reducible rfl))
         try simp only [Act.put, List.setIfInBounds_toArray, List.set_cons_zero, List.set_cons_succ]
         refine takeD (i := 3) (v := ?_) (some 41) rfl rfl (by kernel_rfl) (by kernel_rfl) (by kernel_rfl) (fun _ _ _ h => h) (Or.inl ⟨by rfl, ?_⟩) (by assumption) ?_; rotate_left; · (intro w hSw; (try dsimp only at hSw); first | (go_simp; done) | (go_simp; with_reducible rfl))
         try simp only [Act.put, List.setIfInBounds_toArray, List.set_cons_zero, List.set_cons_succ]
         refine takeD (i := 4) (v := ?_) (some 42) rfl rfl (by kernel_rfl) (by kernel_rfl) (by kernel_rfl) (fun _ _ _ h => h) (Or.inl ⟨by rfl, ?_⟩) (by assumption) ?_; rotate_left; · (intro w hSw; (try dsimp only at hSw); first | (go_simp; done) | (go_simp; with_reducible rfl))
         try simp only [Act.put, List.setIfInBounds_toArray, List.set_cons_zero, List.set_cons_succ]
         refine takeD (i := 5) (v := ?_) (some 43) rfl rfl (by kernel_rfl) (by kernel_rfl) (by kernel_rfl) (fun _ _ _ h => h) (Or.inl ⟨by rfl, ?_⟩) (by assumption) ?_; rotate_left; · (intro w hSw; (try dsimp only at hSw); first | (go_simp; done) | (go_simp; with_reducible rfl))
         try simp only [Act.put, List.setIfInBounds_toArray, List.set_cons_zero, List.set_cons_succ]
         refine takeD (i := 7) (v := ?_) (some 45) rfl rfl (by kernel_rfl) (by kernel_rfl) (by kernel_rfl) (fun _ _ _ h => h) (Or.inl ⟨by rfl, ?_⟩) (by assumption) ?_; rotate_left; · (intro w hSw; (try dsimp only at hSw); first | (go_simp; done) | (go_simp; with_reducible rfl))
         try simp only [Act.put, List.setIfInBounds_toArray, List.set_cons_zero, List.set_cons_succ]
         refine takeD (i := 8) (v := ?_) (some 46) rfl rfl (by kernel_rfl) (by kernel_rfl) (by kernel_rfl) (fun _ _ _ h => h) (Or.inl ⟨by rfl, ?_⟩) (by assumption) ?_; rotate_left; · (intro w hSw; (try dsimp only at hSw); first | (go_simp; done) | (go_simp; with_reducible rfl))
         try simp only [Act.put, List.setIfInBounds_toArray, List.set_cons_zero, List.set_cons_succ]
         refine wpAnyH_ready (rs := [6]) (by kernel_rfl) (by simp) ?_
         refine AllReadyH.cons rfl (fun K hK => ?_) AllReadyH.nil
         have z0 := HC.out
         go_simp
         clear z0
         refine hK.out _ _ ?_ (fun hHeld => ?_); · ((try dsimp only); (exact HS.out.blk.cell 3))
         clear hK K
         try simp only [Act.put, List.setIfInBounds_toArray, List.set_cons_zero, List.set_cons_succ]
         refine takeD (i := 9) (v := ?_) (some 47) rfl rfl (by kernel_rfl) (by kernel_rfl) (by kernel_rfl) (fun _ _ _ h => h) (Or.inl ⟨by rfl, ?_⟩) (by assumption) ?_; rotate_left; · (intro w hSw; (try dsimp only at hSw); first | (go_simp; done) | (go_simp; with_reducible rfl))
         try simp only [Act.put, List.setIfInBounds_toArray, List.set_cons_zero, List.set_cons_succ]
         refine takeD (i := 10) (v := ?_) (some 48) rfl rfl (by kernel_rfl) (by kernel_rfl) (by kernel_rfl) (fun _ _ _ h => h) (Or.inl ⟨by rfl, ?_⟩) (by assumption) ?_; rotate_left; · (intro w hSw; (try dsimp only at hSw); first | (go_simp; done) | (go_simp; with_reducible rfl))
         try simp only [Act.put, List.setIfInBounds_toArray, List.set_cons_zero, List.set_cons_succ]
         refine wpAnyH_ready (rs := [11]) (by kernel_rfl) (by simp) ?_
         refine AllReadyH.cons rfl (fun K hK => ?_) AllReadyH.nil
         have z0 := HC.out
         have f0 : X.frozen? ⟨g, i, none⟩ = false := own_freeV HS.out.bea rfl i
         go_simp
         have HS := hid (HS.out.setBea HIL.out (bits .or .i64 vi (p2 j)))
         have HX := hid (HX.out.setCell (p := ⟨g, i, none⟩) HG.out (.int .i64 (bits .or .i64 vi (p2 j))))
         clear z0 f0 hHeld HC
         generalize X.setCell ⟨g, i, none⟩ (.int .i64 (bits .or .i64 vi (p2 j))) = X1 at *
         obtain ⟨X, rfl⟩ : ∃ Y, Y = X1 := ⟨X1, rfl⟩
         refine hK.out _ _ ?_ (fun hHeld => ?_); · ((try dsimp only); (exact HS.out.blk.cell 3))
         clear hK K
         try simp only [Act.put, List.setIfInBounds_toArray, List.set_cons_zero, List.set_cons_succ]
         refine wpAnyH_done (by kernel_rfl) ?_ _
         go_wp2_with fail
         go_meet
         case rel => exact ⟨HS, HX⟩
        case rest =>
         obtain ⟨HS, HX⟩ := hcut
         obtain ⟨X, rfl⟩ : ∃ Y, Y = wc := ⟨wc, rfl⟩
         have hjl2 : j < (s.beats.set i (bits .or .i64 vi (p2 j))).length := by rw [List.length_set]; exact HJL.out
         obtain ⟨vj, hvj⟩ : ∃ v, v = (s.beats.set i (bits .or .i64 vi (p2 j)))[j]'hjl2 := ⟨_, rfl⟩
         have HJL2 := hid hjl2
         have HC := hid (show X.cell? ⟨g, j, none⟩ = some (.int .i64 vj) by
          rw [hvj]
          obtain ⟨g', c', ht, hc, _⟩ := HS.out.beaAt hjl2
          simp only [Value.slice.injEq] at ht
          obtain ⟨hg, _, _⟩ := ht
          cases hg
          exact hc)
         have HVJ := hid (show (s.beats.set i (bits .or .i64 vi (p2 j))).getD j 0 = vj by rw [hvj, List.getD_eq_getElem?_getD, List.getElem?_eq_getElem hjl2]; rfl)
         clear hvj hjl2
         go_wp2_with fail
         refine wp_region_held_drew (S := (fun w' => w'.cell? ⟨b, 3, none⟩ = some (.slice (some ⟨g, 0, none⟩) s.beats.length tc))) (by kernel_rfl) (by (try dsimp only); (exact HS.out.blk.cell 3)) (fun hHeld => ?_)
         have HS := hid (HS.out.below (Below.refl _ X).drew); have HX := hid HX.out.drew
         have HC := hid (cell_keep (Below.refl _ X).drew HC.out)
         generalize X.drew = X1 at *
         obtain ⟨X, rfl⟩ : ∃ Y, Y = X1 := ⟨X1, rfl⟩
         refine takeD (i := 0) (v := ?_) (some 49) rfl rfl (by kernel_rfl) (by kernel_rfl) (by kernel_rfl) (fun _ _ _ h => h) (Or.inl ⟨by rfl, ?_⟩) (by assumption) ?_; rotate_left; · (intro w hSw; (try dsimp only at hSw); first | (go_simp; done) | (go_simp; with_reducible rfl))
         try simp only [Act.put, List.setIfInBounds_toArray, List.set_cons_zero, List.set_cons_succ]
         refine takeD (i := 1) (v := ?_) (some 50) rfl rfl (by kernel_rfl) (by kernel_rfl) (by kernel_rfl) (fun _ _ _ h => h) (Or.inl ⟨by rfl, ?_⟩) (by assumption) ?_; rotate_left; · (intro w hSw; (try dsimp only at hSw); first | (go_simp; done) | (go_simp; with_reducible rfl))
         try simp only [Act.put, List.setIfInBounds_toArray, List.set_cons_zero, List.set_cons_succ]
         refine takeD (i := 2) (v := ?_) (some 51) rfl rfl (by kernel_rfl) (by kernel_rfl) (by kernel_rfl) (fun _ _ _ h => h) (Or.inl ⟨by rfl, ?_⟩) (by assumption) ?_; rotate_left; · (intro w hSw; (try dsimp only at hSw); first | (go_simp; done) | (go_simp; with_reducible rfl))
         try simp only [Act.put, List.setIfInBounds_toArray, List.set_cons_zero, List.set_cons_succ]
         refine takeD (i := 3) (v := ?_) (some 52) rfl rfl (by kernel_rfl) (by kernel_rfl) (by kernel_rfl) (fun _ _ _ h => h) (Or.inl ⟨by rfl, ?_⟩) (by assumption) ?_; rotate_left; · (intro w hSw; (try dsimp only at hSw); first | (go_simp; done) | (go_simp; with_reducible rfl))
         try simp only [Act.put, List.setIfInBounds_toArray, List.set_cons_zero, List.set_cons_succ]
         refine takeD (i := 4) (v := ?_) (some 53) rfl rfl (by kernel_rfl) (by kernel_rfl) (by kernel_rfl) (fun _ _ _ h => h) (Or.inl ⟨by rfl, ?_⟩) (by assumption) ?_; rotate_left; · (intro w hSw; (try dsimp only at hSw); first | (go_simp; done) | (go_simp; with_reducible rfl))
         try simp only [Act.put, List.setIfInBounds_toArray, List.set_cons_zero, List.set_cons_succ]
         refine takeD (i := 5) (v := ?_) (some 54) rfl rfl (by kernel_rfl) (by kernel_rfl) (by kernel_rfl) (fun _ _ _ h => h) (Or.inl ⟨by rfl, ?_⟩) (by assumption) ?_; rotate_left; · (intro w hSw; (try dsimp only at hSw); first | (go_simp; done) | (go_simp; with_reducible rfl))
         try simp only [Act.put, List.setIfInBounds_toArray, List.set_cons_zero, List.set_cons_succ]
         refine takeD (i := 7) (v := ?_) (some 56) rfl rfl (by kernel_rfl) (by kernel_rfl) (by kernel_rfl) (fun _ _ _ h => h) (Or.inl ⟨by rfl, ?_⟩) (by assumption) ?_; rotate_left; · (intro w hSw; (try dsimp only at hSw); first | (go_simp; done) | (go_simp; with_reducible rfl))
         try simp only [Act.put, List.setIfInBounds_toArray, List.set_cons_zero, List.set_cons_succ]
         refine takeD (i := 8) (v := ?_) (some 57) rfl rfl (by kernel_rfl) (by kernel_rfl) (by kernel_rfl) (fun _ _ _ h => h) (Or.inl ⟨by rfl, ?_⟩) (by assumption) ?_; rotate_left; · (intro w hSw; (try dsimp only at hSw); first | (go_simp; done) | (go_simp; with_reducible rfl))
         try simp only [Act.put, List.setIfInBounds_toArray, List.set_cons_zero, List.set_cons_succ]
         refine wpAnyH_ready (rs := [6]) (by kernel_rfl) (by simp) ?_
         refine AllReadyH.cons rfl (fun K hK => ?_) AllReadyH.nil
         have z0 := HC.out
         go_simp
         clear z0
         refine hK.out _ _ ?_ (fun hHeld => ?_); · ((try dsimp only); (exact HS.out.blk.cell 3))
         clear hK K
         try simp only [Act.put, List.setIfInBounds_toArray, List.set_cons_zero, List.set_cons_succ]
         refine takeD (i := 9) (v := ?_) (some 58) rfl rfl (by kernel_rfl) (by kernel_rfl) (by kernel_rfl) (fun _ _ _ h => h) (Or.inl ⟨by rfl, ?_⟩) (by assumption) ?_; rotate_left; · (intro w hSw; (try dsimp only at hSw); first | (go_simp; done) | (go_simp; with_reducible rfl))
         try simp only [Act.put, List.setIfInBounds_toArray, List.set_cons_zero, List.set_cons_succ]
         refine takeD (i := 10) (v := ?_) (some 59) rfl rfl (by kernel_rfl) (by kernel_rfl) (by kernel_rfl) (fun _ _ _ h => h) (Or.inl ⟨by rfl, ?_⟩) (by assumption) ?_; rotate_left; · (intro w hSw; (try dsimp only at hSw); first | (go_simp; done) | (go_simp; with_reducible rfl))
         try simp only [Act.put, List.setIfInBounds_toArray, List.set_cons_zero, List.set_cons_succ]
         refine wpAnyH_ready (rs := [11]) (by kernel_rfl) (by simp) ?_
         refine AllReadyH.cons rfl (fun K hK => ?_) AllReadyH.nil
         have z0 := HC.out
         have f0 : X.frozen? ⟨g, j, none⟩ = false := own_freeV HS.out.bea rfl j
         go_simp
         have HS := hid (HS.out.setBea HJL2.out (bits .andNot .i64 vj (p2 i)))
         have HX := hid (HX.out.setCell (p := ⟨g, j, none⟩) HG.out (.int .i64 (bits .andNot .i64 vj (p2 i))))
         clear z0 f0 hHeld HC
         generalize X.setCell ⟨g, j, none⟩ (.int .i64 (bits .andNot .i64 vj (p2 i))) = X1 at *
         obtain ⟨X, rfl⟩ : ∃ Y, Y = X1 := ⟨X1, rfl⟩
         refine hK.out _ _ ?_ (fun hHeld => ?_); · ((try dsimp only); (exact HS.out.blk.cell 3))
         clear hK K
         try simp only [Act.put, List.setIfInBounds_toArray, List.set_cons_zero, List.set_cons_succ]
         refine wpAnyH_done (by kernel_rfl) ?_ _
         go_wp2
         go_ret
         rw [HM.out]
         exact ⟨rfl, by have h2 := HS.out; rw [HP1.out]; unfold putI; rw [HVJ.out]; exact h2, HX.out⟩
  · have HM := hid (show beatL s x y = (s, 4) by unfold beatL; rw [if_neg (by rw [hi, hj]; exact hok)])
    have e0 : (decide (0 ≤ i) && decide (0 ≤ j)) = false := by
     rw [Bool.and_eq_false_iff, decide_eq_false_iff_not, decide_eq_false_iff_not]
     omega
    rw [e0]
    clear hi hj hb1 hb2 hok e0
    go_wp2
    go_ret
    rw [HM.out]
    exact ⟨rfl, HS.out, HX.out⟩
end Go.Proofs.YtciadmjdadnolaaGreatDoor
