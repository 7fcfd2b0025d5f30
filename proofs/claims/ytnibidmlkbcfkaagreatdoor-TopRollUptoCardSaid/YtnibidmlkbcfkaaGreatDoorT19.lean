/- Texts of this proof, one behind the other; each says its condition at its head. -/
import Derived.Test.YtnibidmlkbcfkaaGreatDoorT18
import Derived.Test.YtnibidmlkbcfkaaGreatDoorT8
import Derived.Test.YtnibidmlkbcfkaaGreatDoorT4
import Derived.Laws.IdiomCopy
import Derived.Laws.MakeOwn
namespace Go.Proofs.YtnibidmlkbcfkaaGreatDoor
/- Walk of beat at any state of a call's own. Condition: the line's names lie below it; as many beats as players. -/
section
open Go.RowKit Go.Maps
attribute [local go_sem ↓] shl_p2 shr_v and_shr
/-- One number of a list written anew. -/
def putI (l : List Int) (i : Nat) (f : Int → Int) : List Int := l.set i (f (l.getD i 0))
/-- beat on a mint's books; and the answer's number. -/
def beatL (s : Bk) (x y : ByteArray) : Bk × Nat :=
 if 0 ≤ idxZ s.players x ∧ 0 ≤ idxZ s.players y then
  if idxZ s.players x = idxZ s.players y ∨ bitV (s.beats.getD (idxZ s.players x).toNat 0) (idxZ s.players y) = 1 then (s, 5)
  else ({ s with beats := putI (putI s.beats (idxZ s.players x).toNat fun v => bits .or .i64 v (p2 (idxZ s.players y))) (idxZ s.players y).toNat fun v => bits .andNot .i64 v (p2 (idxZ s.players x)) }, 0)
 else (s, 4)
set_option maxRecDepth 100000 in
set_option maxHeartbeats 4000000 in
theorem beatAny (w : World) (B b : Nat) (m u p t e : Value) (s : Bk) (x y : ByteArray) (A : Option Addr) (n c : Nat) (ln : Value) (h : StO w B b m u p t e s) (hsm : BkS s) (hpb : s.beats.length = s.players.length) (hs : Sl w A n c (strV [x, y])) (hln : ∃ a k d, ln = .slice a k d) :
 Calls Tryz.prog 123 #[.pointer (some ⟨b, 0, none⟩), .agg #[.slice A n c, ln]] w fun r w' => r = .returned (.int .i64 ((beatL s x y).2 : Nat)) ∧ StO w' B b m u p t e (beatL s x y).1 ∧ Below B w w' := by
 obtain ⟨la, lk, ld, rfl⟩ := hln
 have hBw : B ≤ w.heap.size := by have := h.low; have := h.blk.lt; omega
 have HX := hid ((Below.refl w.heap.size w).alloc (Nat.le_refl _) (.cells #[.slice A n c, .slice la lk ld] 124))
 have HBX := hid (Blk.new w 124 #[.slice A n c, .slice la lk ld])
 have HS := hid (h.below HX.out)
 have HL := hid (hs.below HX.out)
 have HLO := hid h.low
 have HBW := hid hBw
 have HSM := hid hsm
 have HPB := hid hpb
 obtain ⟨Q, qc, rfl⟩ := own_form h.pla
 clear h hs hBw hsm hpb
 go_enter Tryz.func123, Tryz.ntmps123
 go_wp2_with fail
 generalize w.alloc (.cells #[.slice A n c, .slice la lk ld] 124) = X at *
 have HX := hid (HX.out.mono HBW.out)
 go_cut [5, 6, 7] from 9 to 17 (fun q r z wx => q = .int .i64 (idxZ s.players x) ∧ r = .int .i64 (idxZ s.players y) ∧ z = .bool (decide (0 ≤ idxZ s.players x) && decide (0 ≤ idxZ s.players y)) ∧ Hid (StO wx B b m u (.slice Q s.players.length qc) t e s) ∧ Hid (Below B w wx))
 case first =>
  refine wp_region_held_drew (S := (fun w' => w'.cell? ⟨w.heap.size, 0, none⟩ = some (.slice A n c) ∧ w'.cell? ⟨w.heap.size, 1, none⟩ = some (.slice la lk ld) ∧ w'.cell? ⟨b, 2, none⟩ = some (.slice Q s.players.length qc))) (by kernel_rfl) (by (try dsimp only); (exact ⟨HBX.out.cell 0, HBX.out.cell 1, HS.out.blk.cell 2⟩)) (fun hHeld => ?_)
  have HS := hid (HS.out.below (Below.refl _ X).drew); have HBX := hid HBX.out.drew; have HX := hid HX.out.drew
  have HL := hid (HL.out.below (Below.refl _ X).drew)
  generalize X.drew = X1 at *
  obtain ⟨X, rfl⟩ : ∃ Y, Y = X1 := ⟨X1, rfl⟩
  refine tk ?_ 0 (some 9) rfl rfl ?_ ?_; rotate_left; · (intro w hSw; (try dsimp only at hSw); go_simp <;> with_reducible rfl)
  try simp only [Act.put,qA,qB,qC]
  refine tk ?_ 1 (some 10) rfl rfl ?_ ?_; rotate_left; · (intro w hSw; (try dsimp only at hSw); go_simp <;> with_reducible rfl)
  try simp only [Act.put,qA,qB,qC]
  refine tk ?_ 2 (some 11) rfl rfl ?_ ?_; rotate_left; · (intro w hSw; (try dsimp only at hSw); go_simp <;> with_reducible rfl)
  try simp only [Act.put,qA,qB,qC]
  refine tk ?_ 3 (some 12) rfl rfl ?_ ?_; rotate_left; · (intro w hSw; (try dsimp only at hSw); go_simp <;> with_reducible rfl)
  try simp only [Act.put,qA,qB,qC]
  refine tk ?_ 4 (some 13) rfl rfl ?_ ?_; rotate_left; · (intro w hSw; (try dsimp only at hSw); go_simp <;> with_reducible rfl)
  try simp only [Act.put,qA,qB,qC]
  refine st 5 rfl fun K hK => ?_
  go_simp
  refine (pairF X s.players x y A n c (.slice la lk ld) Q qc (Sl.of_own HS.out.pla) HL.out ⟨_, _, _, rfl⟩).mono ?_; rintro e' X1 ⟨rfl, bb⟩
  have HS := hid (HS.out.below bb); have HBX := hid (HBX.out.keep bb)
  have HX := hid (below_call HX.out bb (Nat.le_trans HBW.out HX.out.size))
  clear bb hHeld
  obtain ⟨X, rfl⟩ : ∃ Y, Y = X1 := ⟨X1, rfl⟩
  refine hK.out _ _ ?_ (fun hHeld => ?_); · ((try dsimp only); (exact ⟨HBX.out.cell 0, HBX.out.cell 1, HS.out.blk.cell 2⟩))
  clear hK K
  try simp only [Act.put,qA,qB,qC]
  refine tk ?_ 6 (some 8) rfl rfl ?_ ?_; rotate_left; · (intro w hSw; (try dsimp only at hSw); go_simp <;> with_reducible rfl)
  try simp only [Act.put,qA,qB,qC]
  refine tk ?_ 7 (some 15) rfl rfl ?_ ?_; rotate_left; · (intro w hSw; (try dsimp only at hSw); go_simp <;> with_reducible rfl)
  try simp only [Act.put,qA,qB,qC]
  refine tk ?_ 8 (some 16) rfl rfl ?_ ?_; rotate_left; · (intro w hSw; (try dsimp only at hSw); go_simp <;> with_reducible rfl)
  try simp only [Act.put,qA,qB,qC]
  refine tk ?_ 9 (some 17) rfl rfl ?_ ?_; rotate_left; · (intro w hSw; (try dsimp only at hSw); go_simp <;> with_reducible rfl)
  try simp only [Act.put,qA,qB,qC]
  refine tk ?_ 10 (some 5) rfl rfl ?_ ?_; rotate_left; · (intro w hSw; (try dsimp only at hSw); go_simp <;> with_reducible rfl)
  try simp only [Act.put,qA,qB,qC]
  refine tk ?_ 11 (some 6) rfl rfl ?_ ?_; rotate_left; · (intro w hSw; (try dsimp only at hSw); go_simp <;> with_reducible rfl)
  try simp only [Act.put,qA,qB,qC]
  refine tk ?_ 12 (some 7) rfl rfl ?_ ?_; rotate_left; · (intro w hSw; (try dsimp only at hSw); go_simp <;> with_reducible rfl)
  try simp only [Act.put,qA,qB,qC]
  refine wpAnyH_done (by kernel_rfl) ?_ _
  go_wp2_with fail
  go_meet
  case rel => exact ⟨rfl, rfl, rfl, HS, HX⟩
 case rest =>
  obtain ⟨rfl, rfl, rfl, HS, HX⟩ := hcut
  have hb1 := idxZ_bd x s.players
  have hb2 := idxZ_bd y s.players
  generalize hi : idxZ s.players x = i at *
  generalize hj : idxZ s.players y = j at *
  by_cases hok : 0 ≤ i ∧ 0 ≤ j
  · obtain ⟨i, rfl⟩ := Int.eq_ofNat_of_zero_le hok.1
    obtain ⟨j, rfl⟩ := Int.eq_ofNat_of_zero_le hok.2
    have e0 : (decide (0 ≤ (i : Int)) && decide (0 ≤ (j : Int))) = true := by rw [decide_eq_true hok.1, decide_eq_true hok.2]; rfl
    rw [e0]
    have hil : i < s.beats.length := by have := HPB.out; omega
    have hjl : j < s.beats.length := by have := HPB.out; omega
    have HIL := hid hil
    have HJL := hid hjl
    have h8 : s.beats.length ≤ 8 := HSM.out.2.2.2.1
    obtain ⟨g, tc, rfl, hc0, hf, hBg, hgb, hlc, hcm⟩ := HS.out.beaAt hil
    have eg : s.beats.getD i 0 = s.beats[i] := by rw [List.getD_eq_getElem?_getD, List.getElem?_eq_getElem hil]; rfl
    obtain ⟨vi, hvi⟩ : ∃ v, v = s.beats[i]'hil := ⟨_, rfl⟩
    have hc : wc.cell? ⟨g, i, none⟩ = some (.int .i64 vi) := by rw [hvi]; exact hc0
    have eg : s.beats.getD i 0 = vi := by rw [hvi]; exact eg
    have z3 := HS.out.blk.cell 3
    simp only [stV, List.getElem?_toArray, List.getElem?_cons_zero, List.getElem?_cons_succ] at z3
    have fitj : Fits (j : Int) := ⟨by omega, by omega⟩
    have fiti : Fits (i : Int) := ⟨by omega, by omega⟩
    have hi2 : (i : Int) < s.beats.length := by omega
    have hj2 : (j : Int) < s.beats.length := by omega
    have HG := hid hBg
    have HC := hid hc
    by_cases hsame : i = j
    · have HM := hid (show beatL s x y = (s, 5) by unfold beatL; rw [hi, hj, if_pos hok, if_pos (.inl (by rw [hsame]))])
      subst hsame
      clear hc0 hi hj hb1 hb2 hok e0 hil hjl hf hBg hgb hlc hcm eg hvi
      go_wp2
      go_ret
      rw [HM.out]
      exact ⟨rfl, HS.out, HX.out⟩
    · have hne2 : ¬ (i : Int) = (j : Int) := by omega
      by_cases hbit : bitV vi j = 1
      · have HM := hid (show beatL s x y = (s, 5) by unfold beatL; rw [hi, hj, if_pos hok, if_pos (.inr (by rw [Int.toNat_natCast, eg]; exact hbit))])
        clear hc0 hi hj hb1 hb2 hok e0 hil hjl hf hBg hgb hlc hcm eg hvi
        go_wp2
        go_ret
        rw [HM.out]
        exact ⟨rfl, HS.out, HX.out⟩
      · have q1 : ((i : Int) == (j : Int)) = false := by rw [beq_eq_false_iff_ne]; exact hne2
        have q2 : (bitV vi (j : Int) == 1) = false := by rw [beq_eq_false_iff_ne]; exact hbit
        have q3 : (i == j) = false := by rw [beq_eq_false_iff_ne]; exact hsame
        have HM := hid (show beatL s x y = ({ s with beats := putI (putI s.beats i fun v => bits .or .i64 v (p2 j)) j fun v => bits .andNot .i64 v (p2 i) }, 0) by unfold beatL; rw [hi, hj, if_pos hok, if_neg (by rw [Int.toNat_natCast, eg]; rintro (h | h); exact hne2 h; exact hbit h)]; rfl)
        have HP1 := hid (show putI s.beats i (fun v => bits .or .i64 v (p2 j)) = s.beats.set i (bits .or .i64 vi (p2 j)) by unfold putI; rw [eg])
        clear hc0 hi hj hb1 hb2 hok e0 hil hjl hf hBg hgb hlc hcm eg hvi
        go_wp2_with fail
        obtain ⟨X, rfl⟩ : ∃ Y, Y = wc := ⟨wc, rfl⟩
        clear z3 hc
        go_cut [8] from 38 to 48 (fun _q wx => Hid (StO wx B b m u (.slice Q s.players.length qc) (.slice (some ⟨g, 0, none⟩) s.beats.length tc) e { s with beats := s.beats.set i (bits .or .i64 vi (p2 j)) }) ∧ Hid (Below B w wx))
        case first =>
         refine wp_region_held_drew (S := (fun w' => w'.cell? ⟨b, 3, none⟩ = some (.slice (some ⟨g, 0, none⟩) s.beats.length tc))) (by kernel_rfl) (by (try dsimp only); (exact HS.out.blk.cell 3)) (fun hHeld => ?_)
         have HS := hid (HS.out.below (Below.refl _ X).drew); have HX := hid HX.out.drew
         have HC := hid (cell_keep (Below.refl _ X).drew HC.out)
         generalize X.drew = X1 at *
         obtain ⟨X, rfl⟩ : ∃ Y, Y = X1 := ⟨X1, rfl⟩
         refine tk ?_ 0 (some 38) rfl rfl ?_ ?_; rotate_left; · (intro w hSw; (try dsimp only at hSw); go_simp <;> with_reducible rfl)
         try simp only [Act.put,qA,qB,qC]
         refine tk ?_ 1 (some 39) rfl rfl ?_ ?_; rotate_left; · (intro w hSw; (try dsimp only at hSw); go_simp <;> with_reducible rfl)
         try simp only [Act.put,qA,qB,qC]
         refine tk ?_ 2 (some 40) rfl rfl ?_ ?_; rotate_left; · (intro w hSw; (try dsimp only at hSw); go_simp <;> with_reducible rfl)
         try simp only [Act.put,qA,qB,qC]
         refine tk ?_ 3 (some 41) rfl rfl ?_ ?_; rotate_left; · (intro w hSw; (try dsimp only at hSw); go_simp <;> with_reducible rfl)
         try simp only [Act.put,qA,qB,qC]
         refine tk ?_ 4 (some 42) rfl rfl ?_ ?_; rotate_left; · (intro w hSw; (try dsimp only at hSw); go_simp <;> with_reducible rfl)
         try simp only [Act.put,qA,qB,qC]
         refine tk ?_ 5 (some 43) rfl rfl ?_ ?_; rotate_left; · (intro w hSw; (try dsimp only at hSw); go_simp <;> with_reducible rfl)
         try simp only [Act.put,qA,qB,qC]
         refine tk ?_ 7 (some 45) rfl rfl ?_ ?_; rotate_left; · (intro w hSw; (try dsimp only at hSw); go_simp <;> with_reducible rfl)
         try simp only [Act.put,qA,qB,qC]
         refine tk ?_ 8 (some 46) rfl rfl ?_ ?_; rotate_left; · (intro w hSw; (try dsimp only at hSw); go_simp <;> with_reducible rfl)
         try simp only [Act.put,qA,qB,qC]
         refine st 6 rfl fun K hK => ?_
         have z0 := HC.out
         go_simp
         clear z0
         refine hK.out _ _ ?_ (fun hHeld => ?_); · ((try dsimp only); (exact HS.out.blk.cell 3))
         clear hK K
         try simp only [Act.put,qA,qB,qC]
         refine tk ?_ 9 (some 47) rfl rfl ?_ ?_; rotate_left; · (intro w hSw; (try dsimp only at hSw); go_simp <;> with_reducible rfl)
         try simp only [Act.put,qA,qB,qC]
         refine tk ?_ 10 (some 48) rfl rfl ?_ ?_; rotate_left; · (intro w hSw; (try dsimp only at hSw); go_simp <;> with_reducible rfl)
         try simp only [Act.put,qA,qB,qC]
         refine st 11 rfl fun K hK => ?_
         have z0 := HC.out
         have f0 : X.frozen? ⟨g, i, none⟩ = false := own_freeV HS.out.bea rfl i
         go_simp
         have HS := hid (HS.out.setBea HIL.out (bits .or .i64 vi (p2 j)))
         have HX := hid (HX.out.setCell (p := ⟨g, i, none⟩) HG.out (.int .i64 (bits .or .i64 vi (p2 j))))
         clear z0 f0 hHeld HC
         generalize X.setCell ⟨g, i, none⟩ (.int .i64 (bits .or .i64 vi (p2 j))) = X1 at *
         obtain ⟨X, rfl⟩ : ∃ Y, Y = X1 := ⟨X1, rfl⟩
         refine hK.out _ _ ?_ (fun hHeld => ?_); · ((try dsimp only); (exact HS.out.blk.cell 3))
         clear hK K
         try simp only [Act.put,qA,qB,qC]
         refine wpAnyH_done (by kernel_rfl) ?_ _
         go_wp2_with fail
         go_meet
         case rel => exact ⟨HS, HX⟩
        case rest =>
         obtain ⟨HS, HX⟩ := hcut
         obtain ⟨X, rfl⟩ : ∃ Y, Y = wc := ⟨wc, rfl⟩
         have hjl2 : j < (s.beats.set i (bits .or .i64 vi (p2 j))).length := by rw [List.length_set]; exact HJL.out
         obtain ⟨vj, hvj⟩ : ∃ v, v = (s.beats.set i (bits .or .i64 vi (p2 j)))[j]'hjl2 := ⟨_, rfl⟩
         have HJL2 := hid hjl2
         have HC := hid (show X.cell? ⟨g, j, none⟩ = some (.int .i64 vj) by
          rw [hvj]
          obtain ⟨g', c', ht, hc, _⟩ := HS.out.beaAt hjl2
          simp only [Value.slice.injEq] at ht
          obtain ⟨hg, _, _⟩ := ht
          cases hg
          exact hc)
         have HVJ := hid (show (s.beats.set i (bits .or .i64 vi (p2 j))).getD j 0 = vj by rw [hvj, List.getD_eq_getElem?_getD, List.getElem?_eq_getElem hjl2]; rfl)
         clear hvj hjl2
         go_wp2_with fail
         refine wp_region_held_drew (S := (fun w' => w'.cell? ⟨b, 3, none⟩ = some (.slice (some ⟨g, 0, none⟩) s.beats.length tc))) (by kernel_rfl) (by (try dsimp only); (exact HS.out.blk.cell 3)) (fun hHeld => ?_)
         have HS := hid (HS.out.below (Below.refl _ X).drew); have HX := hid HX.out.drew
         have HC := hid (cell_keep (Below.refl _ X).drew HC.out)
         generalize X.drew = X1 at *
         obtain ⟨X, rfl⟩ : ∃ Y, Y = X1 := ⟨X1, rfl⟩
         refine tk ?_ 0 (some 49) rfl rfl ?_ ?_; rotate_left; · (intro w hSw; (try dsimp only at hSw); go_simp <;> with_reducible rfl)
         try simp only [Act.put,qA,qB,qC]
         refine tk ?_ 1 (some 50) rfl rfl ?_ ?_; rotate_left; · (intro w hSw; (try dsimp only at hSw); go_simp <;> with_reducible rfl)
         try simp only [Act.put,qA,qB,qC]
         refine tk ?_ 2 (some 51) rfl rfl ?_ ?_; rotate_left; · (intro w hSw; (try dsimp only at hSw); go_simp <;> with_reducible rfl)
         try simp only [Act.put,qA,qB,qC]
         refine tk ?_ 3 (some 52) rfl rfl ?_ ?_; rotate_left; · (intro w hSw; (try dsimp only at hSw); go_simp <;> with_reducible rfl)
         try simp only [Act.put,qA,qB,qC]
         refine tk ?_ 4 (some 53) rfl rfl ?_ ?_; rotate_left; · (intro w hSw; (try dsimp only at hSw); go_simp <;> with_reducible rfl)
         try simp only [Act.put,qA,qB,qC]
         refine tk ?_ 5 (some 54) rfl rfl ?_ ?_; rotate_left; · (intro w hSw; (try dsimp only at hSw); go_simp <;> with_reducible rfl)
         try simp only [Act.put,qA,qB,qC]
         refine tk ?_ 7 (some 56) rfl rfl ?_ ?_; rotate_left; · (intro w hSw; (try dsimp only at hSw); go_simp <;> with_reducible rfl)
         try simp only [Act.put,qA,qB,qC]
         refine tk ?_ 8 (some 57) rfl rfl ?_ ?_; rotate_left; · (intro w hSw; (try dsimp only at hSw); go_simp <;> with_reducible rfl)
         try simp only [Act.put,qA,qB,qC]
         refine st 6 rfl fun K hK => ?_
         have z0 := HC.out
         go_simp
         clear z0
         refine hK.out _ _ ?_ (fun hHeld => ?_); · ((try dsimp only); (exact HS.out.blk.cell 3))
         clear hK K
         try simp only [Act.put,qA,qB,qC]
         refine tk ?_ 9 (some 58) rfl rfl ?_ ?_; rotate_left; · (intro w hSw; (try dsimp only at hSw); go_simp <;> with_reducible rfl)
         try simp only [Act.put,qA,qB,qC]
         refine tk ?_ 10 (some 59) rfl rfl ?_ ?_; rotate_left; · (intro w hSw; (try dsimp only at hSw); go_simp <;> with_reducible rfl)
         try simp only [Act.put,qA,qB,qC]
         refine st 11 rfl fun K hK => ?_
         have z0 := HC.out
         have f0 : X.frozen? ⟨g, j, none⟩ = false := own_freeV HS.out.bea rfl j
         go_simp
         have HS := hid (HS.out.setBea HJL2.out (bits .andNot .i64 vj (p2 i)))
         have HX := hid (HX.out.setCell (p := ⟨g, j, none⟩) HG.out (.int .i64 (bits .andNot .i64 vj (p2 i))))
         clear z0 f0 hHeld HC
         generalize X.setCell ⟨g, j, none⟩ (.int .i64 (bits .andNot .i64 vj (p2 i))) = X1 at *
         obtain ⟨X, rfl⟩ : ∃ Y, Y = X1 := ⟨X1, rfl⟩
         refine hK.out _ _ ?_ (fun hHeld => ?_); · ((try dsimp only); (exact HS.out.blk.cell 3))
         clear hK K
         try simp only [Act.put,qA,qB,qC]
         refine wpAnyH_done (by kernel_rfl) ?_ _
         go_wp2
         go_ret
         rw [HM.out]
         exact ⟨rfl, by have h2 := HS.out; rw [HP1.out]; unfold putI; rw [HVJ.out]; exact h2, HX.out⟩
  · have HM := hid (show beatL s x y = (s, 4) by unfold beatL; rw [if_neg (by rw [hi, hj]; exact hok)])
    have e0 : (decide (0 ≤ i) && decide (0 ≤ j)) = false := by
     rw [Bool.and_eq_false_iff, decide_eq_false_iff_not, decide_eq_false_iff_not]
     omega
    rw [e0]
    clear hi hj hb1 hb2 hok e0
    go_wp2
    go_ret
    rw [HM.out]
    exact ⟨rfl, HS.out, HX.out⟩
end
/- Walk of slices.Repeat at one fraction, three times. Condition: the fraction stands in memory. -/
section
open Go.RowKit Go.Maps
section
variable {P : Program}
/-- copy of elements of two cells. -/
theorem run_copy_two (w : World) (dT sT ty elem : TypeId) (b o dLen dCap : Nat) (a : Addr) (sLen sCap : Nat) (cs : List Value)
 (hu : P.underlying dT = some (.slice elem)) (hs : (P.info? elem).map (·.size) = some 2) (hn : cs.length = Nat.min sLen dLen * 2)
 (hsrc : ∀ j v, cs[j]? = some v → w.cell? (a.add j) = some v) (hc : ∀ j, j < cs.length → (w.cell? ⟨b, o + j, none⟩).isSome = true) (hf : ∀ j, j < cs.length → w.frozen? ⟨b, o + j, none⟩ = false) (h1 : ∀ v ∈ cs, v.oneCell' = true) :
 (Builtin.copy_ #[dT, sT] ty #[.slice (some ⟨b, o, none⟩) dLen dCap, .slice (some a) sLen sCap]).run P w = .ok (goInt (Nat.min sLen dLen)) (w.setCells b o cs) := by
 have hl := run_loadCells_list (P := P) w a cs hsrc
 have hst := run_storeCells_cells (P := P) b o cs 0 w (by simpa using hc) (by simpa using hf) h1
 cases hq : P.info? elem with
 | none => simp [hq] at hs
 | some i =>
  have hi : i.size = 2 := by simpa [hq] using hs
  simp [Builtin.copy_, run_underlying hu, Builtin.lenOf, Builtin.firstCells, sizeOf, typeInfo, hq, hi, ← hn, hl, hst]
end
/-- n fractions, the first d of them 0/1. -/
def repC (d : Nat) : Array Value := ((List.range 6).map fun i => if i % 2 = 1 ∧ i / 2 < d then Value.int .i64 1 else .int .i64 0).toArray
theorem repC_get (d i : Nat) (hi : i < 6) : (repC d)[i]? = some (if i % 2 = 1 ∧ i / 2 < d then Value.int .i64 1 else .int .i64 0) := by simp [repC, hi]
theorem repC_set (d : Nat) (hd : d < 3) : ((repC d).setIfInBounds (d * 2) (.int .i64 0)).setIfInBounds (d * 2 + 1) (.int .i64 1) = repC (d + 1) := by
 rcases (show d = 0 ∨ d = 1 ∨ d = 2 by omega) with rfl | rfl | rfl <;> rfl
theorem blk_rep {X : World} {g d : Nat} (h : Blk X g 48 (repC d)) (hd : d < 3) : Blk (X.setCells g (d * 2) [.int .i64 0, .int .i64 1]) g 48 (repC (d + 1)) := by
 have := (h.set (d * 2) (.int .i64 0)).set (d * 2 + 1) (.int .i64 1)
 rw [repC_set d hd] at this
 exact this
theorem rep_step {X : World} {g d : Nat} (h : Blk X g 48 (repC d)) (hd : d = 1 ∨ d = 2) (a c : Nat) : (Builtin.copy_ #[219, 219] 3 #[.slice (some ⟨g, d * 2, none⟩) (3 - d) c, .slice (some ⟨g, 0, none⟩) d a]).run Tryz.prog X = .ok (.int .i64 1) (X.setCells g (d * 2) [.int .i64 0, .int .i64 1]) := by
 have hadd : ∀ j, (⟨g, 0, none⟩ : Addr).add j = ⟨g, j, none⟩ := fun j => by unfold Addr.add; split <;> simp_all
 have := run_copy_two (P := Tryz.prog) X 219 219 3 48 g (d * 2) (3 - d) c ⟨g, 0, none⟩ d a [.int .i64 0, .int .i64 1] Tryz.underlying219 (by kernel_rfl) (by rcases hd with rfl | rfl <;> rfl) (fun j v hv => by
  rw [hadd, h.cell]
  match j, hv with
  | 0, hv => simp at hv; subst hv; rw [repC_get _ _ (by omega)]; simp
  | 1, hv => simp at hv; subst hv; rw [repC_get _ _ (by omega)]; rw [if_pos (by omega)]) (fun j hj => by
  rw [h.cell, repC_get _ _ (by simp at hj; omega)]; rfl) (fun j hj => h.free _) (by simp [Value.oneCell'])
 rw [this]
 rcases hd with rfl | rfl <;> rfl
set_option maxRecDepth 100000 in
set_option maxHeartbeats 2000000 in
theorem repF (b c : Nat) (w : World) (h0 : w.cell? ⟨b, 0, none⟩ = some (.int .i64 0)) (h1 : w.cell? ⟨b, 1, none⟩ = some (.int .i64 1)) :
 Calls Tryz.prog 242 #[.slice (some ⟨b, 0, none⟩) 1 c, .int .i64 3] w fun e w' => ∃ g, e = .returned (.slice (some ⟨g, 0, none⟩) 3 3) ∧ Blk w' g 48 (repC 3) ∧ w.heap.size ≤ g ∧ Below w.heap.size w w' := by
 have HMU := hid fun W => sh_bits_Mul 1 3 (by decide) (by decide) W
 obtain ⟨i0, hi, hz0, hz1, hz2⟩ := info_parts TF.inf
 have hmk := run_make (P := Tryz.prog) w 219 48 i0 (.agg #[.int .i64 0, .int .i64 0]) TF.und hi hz0 .i64 .i64 3 3 (by omega) (Int.le_refl _) (by rw [hz2]; decide) (by omega)
 have hmc : madeCells (Value.agg #[.int .i64 0, .int .i64 0]).cells ((3 : Int).toNat * i0.size) = repC 0 := by rw [hz1]; kernel_rfl
 rw [hmc] at hmk
 have ht : ((3 : Int)).toNat = 3 := rfl
 rw [ht] at hmk
 have hB0 := Blk.new w 48 (repC 0)
 have hcp := run_copy_two (P := Tryz.prog) (w.alloc (.cells (repC 0) 48)) 219 219 3 48 w.heap.size 0 3 3 ⟨b, 0, none⟩ 1 c [.int .i64 0, .int .i64 1] Tryz.underlying219 (by kernel_rfl) rfl (fun j v hv => by
  have hadd : ∀ j, (⟨b, 0, none⟩ : Addr).add j = ⟨b, j, none⟩ := fun j => by unfold Addr.add; split <;> simp_all
  rw [hadd]
  have hb := (Below.refl w.heap.size w).alloc (Nat.le_refl _) (.cells (repC 0) 48)
  match j, hv with
  | 0, hv => simp at hv; subst hv; exact cell_keep hb h0
  | 1, hv => simp at hv; subst hv; exact cell_keep hb h1) (fun j hj => by
  rw [hB0.cell, repC_get _ _ (by simp at hj; omega)]; rfl) (fun j hj => hB0.free _) (by simp [Value.oneCell'])
 have HB1 := hid (blk_rep hB0 (by omega))
 have HW1 := hid (show Below w.heap.size w ((w.alloc (.cells (repC 0) 48)).setCells w.heap.size 0 [.int .i64 0, .int .i64 1]) from (((Below.refl _ w).alloc (Nat.le_refl _) _).setCell (Nat.le_refl _) _).setCell (Nat.le_refl _) _)
 rw [show goInt (Nat.min 1 3) = Value.int .i64 1 from rfl] at hcp
 generalize hX1 : (w.alloc (.cells (repC 0) 48)).setCells w.heap.size 0 [.int .i64 0, .int .i64 1] = X1 at hcp HW1
 rw [show (0 : Nat) * 2 = 0 from rfl, hX1] at HB1
 clear hi hz0 hz1 hz2 hmc ht hB0 hX1 h0 h1
 go_enter Tryz.func242, Tryz.ntmps242
 go_wp2_with fail
 refine (HMU.out _).mono ?_; rintro e w1 ⟨rfl, rfl⟩
 simp only [show ((1 * 3 / 18446744073709551616 : Nat) : Int) = 0 from rfl, show ((1 * 3 % 18446744073709551616 : Nat) : Int) = 3 from rfl]
 go_wp2_with fail
 clear hcp hmk
 go_loopg [8] 2 (fun gk v wr => ∃ d : Nat, gk + d = 3 ∧ 1 ≤ d ∧ v = .int .i64 d ∧ Hid (Blk wr w1.heap.size 48 (repC d)) ∧ Hid (Below w1.heap.size w1 wr))
 case atStart => exact ⟨1, rfl, by omega, rfl, HB1, HW1⟩
 case round =>
  clear HB1 HW1
  obtain ⟨d, hd, hd1, rfl, HB, HW⟩ := hrel
  have HD := hid hd
  have HB2 := hid HB.out.drew
  have HW2 := hid HW.out.drew
  by_cases h3 : d = 3
  · subst h3
    go_wp2
    go_ret
    exact ⟨w1.heap.size, rfl, HB.out, Nat.le_refl _, HW.out⟩
  · have hcp := rep_step HB2.out (show d = 1 ∨ d = 2 by omega)
    have HB3 := hid (blk_rep HB2.out (by omega))
    have HW3 := hid (show Below w1.heap.size w1 (wr.drew.setCells w1.heap.size (d * 2) [.int .i64 0, .int .i64 1]) from (HW2.out.setCell (Nat.le_refl _) _).setCell (Nat.le_refl _) _)
    generalize wr.drew.setCells w1.heap.size (d * 2) [.int .i64 0, .int .i64 1] = X3 at *
    rcases (show d = 1 ∨ d = 2 by omega) with rfl | rfl
    · go_wp2_with fail
      go_region
      all_goals go_wp2
      go_roundg (gk - 1)
      case measure => have := HD.out; omega
      case rel => exact ⟨2, by have := HD.out; omega, by omega, rfl, HB3, HW3⟩
    · go_wp2_with fail
      go_region
      all_goals go_wp2
      go_roundg (gk - 1)
      case measure => have := HD.out; omega
      case rel => exact ⟨3, by have := HD.out; omega, by omega, rfl, HB3, HW3⟩
end
end Go.Proofs.YtnibidmlkbcfkaaGreatDoor
