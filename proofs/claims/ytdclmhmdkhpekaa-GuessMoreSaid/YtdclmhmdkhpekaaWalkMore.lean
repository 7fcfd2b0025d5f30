/- Walk of GuessMore, where the questions suffice. No condition. -/
import Derived.Test.YtdclmhmdkhpekaaMoreM
namespace Go.Proofs.Ytdclmhmdkhpekaa
open Go.RowKit

theorem own_cellI {w : World} {base g n c i : Nat} {e : TypeId} {xs : List Int} (h : w.ownsRow base e 1 (.slice (some ⟨g, 0, none⟩) n c) n (xs.map (Value.int .i64))) (hi : i < n) : w.cell? ⟨g, i, none⟩ = some (.int .i64 (at0 xs i)) ∧ w.frozen? ⟨g, i, none⟩ = false := by
  have hl : xs.length = n := by simpa using h.1
  refine ⟨?_, ?_⟩
  · have := h.cells (g := g) rfl i (.int .i64 (at0 xs i)) (by simp [at0, List.getD, show i < xs.length by omega])
    have hadd : (⟨g, 0, none⟩ : Addr).add i = ⟨g, i, none⟩ := by unfold Addr.add; split <;> simp_all
    rwa [hadd] at this
  · rcases h.2 with ⟨hv, hn⟩ | ⟨g', cap, cur, hv, hb, hg, hc, hm, hs, ht⟩
    · simp at hv
    · simp at hv
      obtain ⟨rfl, rfl⟩ := hv
      exact Blk.free (show Blk w g e cur from hg) i

set_option maxRecDepth 100000 in
set_option maxHeartbeats 4000000 in
theorem guessMore_good (w : World) (A : Option Addr) (n c : Nat) (xs : List Int) (q : Nat) (i : Int) (hq : q ≤ 12) (hs : Sl w A n c (xs.map (Value.int .i64))) (h : stateOk 24 xs = true) (hw : winS q xs = true) :
    Calls Try.prog 11 #[.slice A n c, .int .i64 q, .int .i64 i] w fun e w' => e = .returned (.bool true) ∧ Below w.heap.size w w' := by
  have hn := hs.numlen
  have e1 := take_min7 hn (by have := stateOk_len h; omega)
  have e2 : min n 7 = n := Nat.min_eq_left (by have := stateOk_len h; omega)
  have HL := hid fun W (hb : Below w.heap.size w W) => lawList A n c xs W (hs.below hb)
  rw [e1, e2] at HL
  have HP := plays24 h
  have hn4 : n ≤ 4 := by have := HP.nn.hi; omega
  have hn1 : 0 < n := by have := HP.nn.lo; omega
  have HW0 := hid fun ys (hy : Nn ys) (he : Easier ys xs) A' c' W (s1 : Sl W A' n c' (ys.map (Value.int .i64))) => (show Calls Try.prog 39 #[.slice A' n c', .int .i64 q] W fun e w' => e = .returned (.tuple #[.bool true, .int .i64 0]) ∧ Below W.heap.size W w' by
    have := winsPub A' n c' ys q hq W s1 (state_of hy (by have := he.total; have := (stateOk_iff.1 h).2.2.2; omega))
    rwa [winS_easier q xs ys HP.nn hy he hw] at this)
  have HW := hid fun A' c' W (s1 : Sl W A' n c' (xs.map (Value.int .i64))) => HW0.out xs HP.nn ⟨rfl, fun _ _ => Int.le_refl _⟩ A' c' W s1
  have HST := hid fun W (hb : Below w.heap.size w W) => refState A n c xs 24 (by omega) W (hs.below hb)
  rw [h] at HST
  have g1 : decide ((q : Int) < 0) = false := decide_eq_false (by omega)
  have g2 : decide (12 < (q : Int)) = false := decide_eq_false (by omega)
  have g3 : decide (12 < q) = false := decide_eq_false (by omega)
  obtain ⟨ci, hci, hcn⟩ := pick_ig i hn1 (by omega)
  have hun : IntKind.u64.wrap (n : Int) = (n : Int) := by rw [IntKind.wrap_u64]; omega
  have HCN := hid hcn
  obtain ⟨b, o, rfl, lb, _, ca⟩ := hs.num hcn
  have hcb := HP.at0 ci
  have HCB := hid hcb
  have HCA := hid (show ∀ W, Below w.heap.size w W → W.cell? ⟨b, o + ci, none⟩ = some (.int .i64 (at0 xs ci)) from fun W hb => (hb.cell (p := ⟨b, o + ci, none⟩) lb).trans ca)
  have hE1 := hid (less_easier (xs := xs) (i := ci) (by omega))
  have hN1 := hid fun h1 => less_nn HP.nn (i := ci) h1
  have hE2 := hid fun (h2 : ci + 1 < xs.length) => move_easier (xs := xs) (i := ci) h2
  have hN2 := hid fun h1 => move_nn HP.nn (i := ci) h1
  have hB2 := hid (HP.at0 (ci + 1))
  have hA2 := hid (show at0 (lessL xs ci) (ci + 1) = at0 xs (ci + 1) by unfold lessL; rw [at0_set, if_neg (fun a => absurd a.1 (by omega))])
  have HNN := hid hn
  have HMore := hid (show q < 12 → winS (q + 1) xs = true from fun _ => winS_more HP.nn hw)
  have HSt := hid h
  clear hs h e1 e2 HP hw ca lb hcb hn
  by_cases q12 : q < 12
  · have d1 : decide ((q : Int) < 12) = true := decide_eq_true (by omega)
    have d1n : decide (q < 12) = true := decide_eq_true q12
    have HWq := hid fun A' c' W (s1 : Sl W A' n c' (xs.map (Value.int .i64))) => winsPub A' n c' xs (q + 1) (by omega) W s1 HSt.out
    rw [HMore.out q12] at HWq
    have HWq2 := hid fun A' c' W (s1 : Sl W A' n c' (xs.map (Value.int .i64))) => (show Calls Try.prog 39 #[.slice A' n c', .int .i64 ((q : Int) + 1)] W fun e w' => e = .returned (.tuple #[.bool true, .int .i64 0]) ∧ Below W.heap.size W w' from HWq.out A' c' W s1)
    clear HWq q12
    go_enter Try.func11, Try.ntmps11
    go_wp2_with fail
    refine (HL.out _ (Below.refl _ _)).mono ?_; rintro e w1 ⟨A1, c1, rfl, o1, b1⟩
    have s1 := Sl.of_own o1
    go_wp2_with fail
    refine (HW.out _ _ _ s1).mono ?_; rintro e w2 ⟨rfl, b2⟩
    have b12 : Below w.heap.size w w2 := below_call b1 b2 b1.size
    clear s1 o1 b1 b2
    go_wp2_with fail
    refine (HST.out _ b12).mono ?_; rintro e w3 ⟨rfl, rfl⟩
    go_wp2_with fail
    refine (HL.out _ b12).mono ?_; rintro e w4 ⟨A4, c4, rfl, o4, b4⟩
    have s4 := Sl.of_own o4
    have b14 : Below w.heap.size w w4 := below_call b12 b4 b12.size
    go_wp2_with fail
    refine (HWq2.out _ _ _ s4).mono ?_; rintro e w5 ⟨rfl, b5⟩
    have b15 : Below w.heap.size w w5 := below_call b14 b5 b14.size
    have B5 := hid b15
    have ca := HCA.out _ b15
    clear s4 o4 b12 b4 b14 b5 b15
    by_cases hz : at0 xs ci = 0
    · rw [hz] at ca
      clear hz
      go_wp2_with (go_at_call 20; refine (awake _).mono ?_; rintro e w6 ⟨rfl, b6⟩)
      go_ret
      exact ⟨rfl, below_call B5.out b6 B5.out.size⟩
    have hz1 : (at0 xs ci == 0) = false := by rw [beq_eq_false_iff_ne]; exact hz
    have h1 : 1 ≤ at0 xs ci := by have := HCB.out; omega
    have h1000 : at0 xs ci ≤ 1000 := HCB.out.2
    have N1 := hid (hN1.out h1)
    have N2 := hid (hN2.out h1)
    clear hz
    go_wp2_with fail
    refine (HL.out _ B5.out).mono ?_; rintro e w6 ⟨A6, c6, rfl, o6, b6⟩
    obtain ⟨g6, rfl, hc6⟩ := own_some o6 hn1
    have hg6 := (o6.lt g6 rfl).1
    have zc := own_cellI o6 HCN.out
    have z6 := zc.1
    have f6 := zc.2
    have B6 := hid (below_call B5.out b6 B5.out.size)
    have G6 := hid (show w.heap.size ≤ g6 by have := B5.out.size; omega)
    have O6 := hid (own_store (v := at0 xs ci - 1) (i := ci) o6)
    have hcnn : ci < n := HCN.out
    have hcI : (ci : Int) < (n : Int) := by omega
    clear o6 b6 zc hg6 ca
    have B7 := hid (B6.out.setCell (p := ⟨g6, ci, none⟩) G6.out (.int .i64 (at0 xs ci - 1)))
    have O7 := hid (show (w6.setCell ⟨g6, ci, none⟩ (.int .i64 (at0 xs ci - 1))).ownsRow w5.heap.size 3 1 (.slice (some ⟨g6, 0, none⟩) n c6) n ((lessL xs ci).map (Value.int .i64)) from O6.out)
    go_wp2_with fail
    refine at_callw fun W7 hW7 => ?_
    rw [← hW7] at B7 O7
    clear hW7 z6 f6 O6 B6
    refine (cloneInts _ n c6 (lessL xs ci) (by omega) W7 (Sl.of_own O7.out)).mono ?_; rintro e w8 ⟨A8, c8, rfl, o8, b8⟩
    have s8 := Sl.of_own o8
    have B8 := hid (below_call B7.out b8 B7.out.size)
    have O8 := hid (own_below O7.out b8)
    clear o8 b8 B7 O7
    go_wp2_with fail
    refine (HW0.out _ N1.out hE1.out _ _ _ s8).mono ?_; rintro e w9 ⟨rfl, b9⟩
    have B9 := hid (below_call B8.out b9 B8.out.size)
    have O9 := hid (own_below O8.out b9)
    clear s8 b9 B8 O8
    by_cases hl : ci + 1 < n
    · have k1 : decide ((ci : Int) + 1 < (n : Int)) = true := decide_eq_true (by omega)
      have k2 : decide (ci + 1 < n) = true := decide_eq_true hl
      have zc := own_cellI O9.out hl
      have z9 := zc.1
      rw [hA2.out] at z9
      have f9 := zc.2
      have hb := hB2.out
      have hcI2 : (ci : Int) + 1 < (n : Int) := by omega
      have hcI3 : (0 : Int) ≤ (ci : Int) + 1 := by omega
      have O10 := hid (show (w9.setCell ⟨g6, ci + 1, none⟩ (.int .i64 (at0 xs (ci + 1) + 1))).ownsRow w5.heap.size 3 1 (.slice (some ⟨g6, 0, none⟩) n c6) n ((moveL xs ci).map (Value.int .i64)) from own_store O9.out)
      have B10 := hid (B9.out.setCell (p := ⟨g6, ci + 1, none⟩) G6.out (.int .i64 (at0 xs (ci + 1) + 1)))
      have E2 := hid (hE2.out (by have := HNN.out; omega))
      clear zc hl
      go_wp2_with fail
      refine at_callw fun W10 hW10 => ?_
      rw [← hW10] at B10 O10
      clear hW10 z9 f9
      refine (HW0.out _ N2.out E2.out _ _ W10 (Sl.of_own O10.out)).mono ?_; rintro e w11 ⟨rfl, b11⟩
      have B11 := hid (below_call B10.out b11 B10.out.size)
      clear b11
      go_wp2_with (go_at_call 20; refine (awake _).mono ?_; rintro e w12 ⟨rfl, b12⟩)
      go_ret
      exact ⟨rfl, below_call B11.out b12 B11.out.size⟩
    · have k1 : decide ((ci : Int) + 1 < (n : Int)) = false := decide_eq_false (by omega)
      have k2 : decide (ci + 1 < n) = false := decide_eq_false hl
      clear hl
      go_wp2_with fail
      refine (HW0.out _ N1.out hE1.out _ _ _ (Sl.of_own O9.out)).mono ?_; rintro e w11 ⟨rfl, b11⟩
      have B11 := hid (below_call B9.out b11 B9.out.size)
      clear b11
      go_wp2_with (go_at_call 20; refine (awake _).mono ?_; rintro e w12 ⟨rfl, b12⟩)
      go_ret
      exact ⟨rfl, below_call B11.out b12 B11.out.size⟩
  · have d1 : decide ((q : Int) < 12) = false := decide_eq_false (by omega)
    have d1n : decide (q < 12) = false := decide_eq_false q12
    clear q12
    go_enter Try.func11, Try.ntmps11
    go_wp2_with fail
    refine (HL.out _ (Below.refl _ _)).mono ?_; rintro e w1 ⟨A1, c1, rfl, o1, b1⟩
    have s1 := Sl.of_own o1
    go_wp2_with fail
    refine (HW.out _ _ _ s1).mono ?_; rintro e w2 ⟨rfl, b2⟩
    have b12 : Below w.heap.size w w2 := below_call b1 b2 b1.size
    clear s1 o1 b1 b2
    go_wp2_with fail
    refine (HST.out _ b12).mono ?_; rintro e w3 ⟨rfl, rfl⟩
    have B5 := hid b12
    have ca := HCA.out _ b12
    clear b12
    by_cases hz : at0 xs ci = 0
    · rw [hz] at ca
      clear hz
      go_wp2_with (go_at_call 20; refine (awake _).mono ?_; rintro e w6 ⟨rfl, b6⟩)
      go_ret
      exact ⟨rfl, below_call B5.out b6 B5.out.size⟩
    have hz1 : (at0 xs ci == 0) = false := by rw [beq_eq_false_iff_ne]; exact hz
    have h1 : 1 ≤ at0 xs ci := by have := HCB.out; omega
    have h1000 : at0 xs ci ≤ 1000 := HCB.out.2
    have N1 := hid (hN1.out h1)
    have N2 := hid (hN2.out h1)
    clear hz
    go_wp2_with fail
    refine (HL.out _ B5.out).mono ?_; rintro e w6 ⟨A6, c6, rfl, o6, b6⟩
    obtain ⟨g6, rfl, hc6⟩ := own_some o6 hn1
    have hg6 := (o6.lt g6 rfl).1
    have zc := own_cellI o6 HCN.out
    have z6 := zc.1
    have f6 := zc.2
    have B6 := hid (below_call B5.out b6 B5.out.size)
    have G6 := hid (show w.heap.size ≤ g6 by have := B5.out.size; omega)
    have O6 := hid (own_store (v := at0 xs ci - 1) (i := ci) o6)
    have hcnn : ci < n := HCN.out
    have hcI : (ci : Int) < (n : Int) := by omega
    clear o6 b6 zc hg6 ca
    have B7 := hid (B6.out.setCell (p := ⟨g6, ci, none⟩) G6.out (.int .i64 (at0 xs ci - 1)))
    have O7 := hid (show (w6.setCell ⟨g6, ci, none⟩ (.int .i64 (at0 xs ci - 1))).ownsRow w2.heap.size 3 1 (.slice (some ⟨g6, 0, none⟩) n c6) n ((lessL xs ci).map (Value.int .i64)) from O6.out)
    go_wp2_with fail
    refine at_callw fun W7 hW7 => ?_
    rw [← hW7] at B7 O7
    clear hW7 z6 f6 O6 B6
    refine (cloneInts _ n c6 (lessL xs ci) (by omega) W7 (Sl.of_own O7.out)).mono ?_; rintro e w8 ⟨A8, c8, rfl, o8, b8⟩
    have s8 := Sl.of_own o8
    have B8 := hid (below_call B7.out b8 B7.out.size)
    have O8 := hid (own_below O7.out b8)
    clear o8 b8 B7 O7
    go_wp2_with fail
    refine (HW0.out _ N1.out hE1.out _ _ _ s8).mono ?_; rintro e w9 ⟨rfl, b9⟩
    have B9 := hid (below_call B8.out b9 B8.out.size)
    have O9 := hid (own_below O8.out b9)
    clear s8 b9 B8 O8
    by_cases hl : ci + 1 < n
    · have k1 : decide ((ci : Int) + 1 < (n : Int)) = true := decide_eq_true (by omega)
      have k2 : decide (ci + 1 < n) = true := decide_eq_true hl
      have zc := own_cellI O9.out hl
      have z9 := zc.1
      rw [hA2.out] at z9
      have f9 := zc.2
      have hb := hB2.out
      have hcI2 : (ci : Int) + 1 < (n : Int) := by omega
      have hcI3 : (0 : Int) ≤ (ci : Int) + 1 := by omega
      have O10 := hid (show (w9.setCell ⟨g6, ci + 1, none⟩ (.int .i64 (at0 xs (ci + 1) + 1))).ownsRow w2.heap.size 3 1 (.slice (some ⟨g6, 0, none⟩) n c6) n ((moveL xs ci).map (Value.int .i64)) from own_store O9.out)
      have B10 := hid (B9.out.setCell (p := ⟨g6, ci + 1, none⟩) G6.out (.int .i64 (at0 xs (ci + 1) + 1)))
      have E2 := hid (hE2.out (by have := HNN.out; omega))
      clear zc hl
      go_wp2_with fail
      refine at_callw fun W10 hW10 => ?_
      rw [← hW10] at B10 O10
      clear hW10 z9 f9
      refine (HW0.out _ N2.out E2.out _ _ W10 (Sl.of_own O10.out)).mono ?_; rintro e w11 ⟨rfl, b11⟩
      have B11 := hid (below_call B10.out b11 B10.out.size)
      clear b11
      go_wp2_with (go_at_call 20; refine (awake _).mono ?_; rintro e w12 ⟨rfl, b12⟩)
      go_ret
      exact ⟨rfl, below_call B11.out b12 B11.out.size⟩
    · have k1 : decide ((ci : Int) + 1 < (n : Int)) = false := decide_eq_false (by omega)
      have k2 : decide (ci + 1 < n) = false := decide_eq_false hl
      clear hl
      go_wp2_with fail
      refine (HW0.out _ N1.out hE1.out _ _ _ (Sl.of_own O9.out)).mono ?_; rintro e w11 ⟨rfl, b11⟩
      have B11 := hid (below_call B9.out b11 B9.out.size)
      clear b11
      go_wp2_with (go_at_call 20; refine (awake _).mono ?_; rintro e w12 ⟨rfl, b12⟩)
      go_ret
      exact ⟨rfl, below_call B11.out b12 B11.out.size⟩

theorem guessMore_walk (w : World) (A : Option Addr) (n c : Nat) (xs : List Int) (hs : Sl w A n c (xs.map (Value.int .i64))) (_ : ∀ x ∈ xs, -9223372036854775808 ≤ x ∧ x ≤ 9223372036854775807) (q : Int) (_ : (Lit.int .i64 q).wf = true) (i : Int) (_ : (Lit.int .i64 i).wf = true) :
    Calls Try.prog 11 #[.slice A n c, .int .i64 q, .int .i64 i] w fun e w' => e = .returned (.bool true) ∧ Below w.heap.size w w' := by
  by_cases h : stateOk 24 xs = true ∧ 0 ≤ q ∧ q ≤ 12
  · obtain ⟨k, rfl⟩ := Int.eq_ofNat_of_zero_le h.2.1
    cases hw : winS k xs with
    | true => exact guessMore_good w A n c xs k i (by omega) hs h.1 hw
    | false => exact guessMore_no w A n c xs k i (by omega) hs h.1 hw
  · exact guessMore_bad w A n c xs q i hs h
end Go.Proofs.Ytdclmhmdkhpekaa
