/- Walks of the reference's Wins, Least and Ask. Conditions: what the laws ask of their arguments. -/
import Derived.Test.YtdclmhmdkhpekaaRefS
import Derived.Test.YtdclmhmdkhpekaaLeast
namespace Go.Proofs.Ytdclmhmdkhpekaa
open Go.RowKit

theorem winR : ∀ (n q : Nat), q ≤ 20 → WinR n q := by
  intro n q
  induction q with
  | zero => intro _; exact winR_zero n
  | succ q ih => intro hq; exact winR_succ n q (by omega) (goodS n q (by omega) (ih (by omega)))
theorem goodR (n q : Nat) (hq : q ≤ 19) : GoodR n q := goodS n q hq (winR n q (by omega))

set_option maxRecDepth 100000 in
set_option maxHeartbeats 1000000 in
theorem refWins (A : Option Addr) (n c : Nat) (xs : List Int) (q : Nat) (hq : q ≤ 20) (hx : St n xs) (w : World) (hs : Sl w A n c (xs.map (Value.int .i64))) :
    Calls Try.prog 50 #[.slice A n c, .int .i64 q] w fun e w' => e = .returned (.bool (winS q xs)) ∧ Below w.heap.size w w' := by
  have HF := hid (freshS (OKr n) w)
  have HW := hid (winR n q hq)
  have HS := hid hs
  have HX := hid hx
  clear hs
  go_enter Try.func50, Try.ntmps50
  go_wp2_with fail
  refine HF.out.mono ?_; rintro e w1 ⟨mb, g1, g2, rfl, ta, b1, l0, l1, l2⟩
  have S1 := hid (show SlT w1 mb g1 g2 A n c xs from ⟨HS.out.below b1, fun a ha => by
    obtain ⟨b, o, e, hb, _⟩ := HS.out.pos (by have := HX.out.hi; omega)
    rw [ha] at e
    cases e
    have := b1.size
    exact ⟨by simp; omega, by simp; omega, by simp; omega, by simp; omega⟩⟩)
  have T1 := hid (show Tab (OKr n) w1 mb g1 g2 [] from ⟨_, _, _, ta⟩)
  have B1 := hid b1
  clear ta b1
  go_wp2_with fail
  refine (HW.out mb g1 g2 [] A c xs w1 HX.out S1.out T1.out).mono ?_; rintro e w2 ⟨rfl, a, b, L, _, st, _⟩
  have B2 := hid (st.below B1.out B1.out.size l0 l1 l2)
  clear st
  go_wp2_with fail
  go_ret
  exact ⟨rfl, B2.out⟩

set_option maxRecDepth 100000 in
set_option maxHeartbeats 2000000 in
theorem refLeast (n : Int) (e q : Nat) (w : World) (hn : 1 ≤ n) (hn4 : n ≤ 40) (he : e ≤ 2) (hq : LeastOf q (startL n e)) :
    Calls Try.prog 26 #[.int .i64 n, .int .i64 e] w fun r w' => r = .returned (.int .i64 q) ∧ Below w.heap.size w w' := by
  obtain ⟨i0, hi, hz0, hz1, hz2⟩ := info_parts TI.inf
  have HX := hid (show St (e + 1) (startL n e) from ⟨by simp [startL], startL_nn (by omega) (by omega), by rw [startL_total]; omega⟩)
  have HQ := hid hq
  clear hq
  go_enter Try.func26, Try.ntmps26
  go_wp2_with (at_make; refine wpList_make_full _ rfl _ _ 34 rfl w.heap.size 3 i0 (.int .i64 0) 1 TI.und hi hz0 hz1 _ _ _ _ (e + 1) rfl rfl rfl rfl (by rw [hz2]; omega) (by unfold maxLen; omega) (Nat.le_refl _) ?_; intro w1 hown1 hg1; have hb1 : Below w.heap.size w w1 := (Below.refl _ _).grown hg1 (Nat.le_refl _) (fun k hk => by cases hk); have bo := own_blk hown1; rw [made_arr] at bo; have z := bo.cell 0; rw [arr_get (by omega)] at z; have f := bo.free 0; clear hown1 hg1)
  have hb2 : Below w.heap.size w (w1.setCell ⟨w.heap.size, 0, none⟩ (.int .i64 n)) := hb1.setCell (p := ⟨w.heap.size, 0, none⟩) (Nat.le_refl _) _
  have b2 := bo.set 0 (.int .i64 n)
  rw [arr_set] at b2
  have s2 : Sl (w1.setCell ⟨w.heap.size, 0, none⟩ (.int .i64 n)) (some ⟨w.heap.size, 0, none⟩) (e + 1) (e + 1) ((startL n e).map (Value.int .i64)) := by
    rw [← startL_arr]
    exact Sl.of_own (blk_own b2 (Nat.le_refl _) (arr_size _ _).symm (by omega))
  have lt2 := b2.lt
  generalize w1.setCell ⟨w.heap.size, 0, none⟩ (.int .i64 n) = w2 at *
  clear bo z f hb1 b2
  refine (freshS (OKr (e + 1)) w2).mono ?_; rintro r w3 ⟨mb, g1, g2, rfl, ta, b3, l0, l1, l2⟩
  have S3 := hid (show SlT w3 mb g1 g2 (some ⟨w.heap.size, 0, none⟩) (e + 1) (e + 1) (startL n e) from ⟨s2.below b3, fun a ha => by
    cases ha
    have := b3.size
    exact ⟨by simp; omega, by simp; omega, by simp; omega, by simp; omega⟩⟩)
  have T3 := hid (show Tab (OKr (e + 1)) w3 mb g1 g2 [] from ⟨_, _, _, ta⟩)
  have B3 := hid (below_call hb2 b3 hb2.size)
  have hw2 := hb2.size
  clear ta b3 s2 hb2
  go_wp2_with fail
  go_loopg [7] q (fun gk i wr => ∃ k : Nat, gk + k = q ∧ i = .int .i64 k ∧ ∃ a b L, SlT wr mb a b (some ⟨w.heap.size, 0, none⟩) (e + 1) (e + 1) (startL n e) ∧ Tab (OKr (e + 1)) wr mb a b L ∧ Below w.heap.size w wr ∧ w.heap.size ≤ a ∧ w.heap.size ≤ b)
  case atStart => exact ⟨0, by omega, rfl, _, _, _, S3.out, T3.out, B3.out, by omega, by omega⟩
  case round =>
    obtain ⟨k, hk, rfl, a, b, L, hs, ht, hb, ha, hbb⟩ := hrel
    have HK := hid hk
    have HS := hid hs
    have HT := hid ht
    have HB := hid hb
    have hk20 : k ≤ 20 := by have := HQ.out.le; omega
    have HW := hid (winR (e + 1) k hk20)
    clear hk hs ht hb
    by_cases hlt : k < q
    · have hf := HQ.out.no k hlt
      go_wp2_with fail
      have hw := HW.out mb a b L _ _ _ wr HX.out HS.out HT.out
      rw [hf] at hw
      refine hw.mono ?_; rintro r w4 ⟨rfl, a4, b4, L4, t4, st4, _⟩
      have B4 := hid (st4.below HB.out HB.out.size (by omega) ha hbb)
      have S4 := hid (HS.out.step st4)
      have T4 := hid t4
      have hsz := HB.out.size
      have ha4 : w.heap.size ≤ a4 := by rcases st4.n1 with e | e <;> omega
      have hb4 : w.heap.size ≤ b4 := by rcases st4.n2 with e | e <;> omega
      clear hw st4 t4
      go_wp2_with fail
      go_roundg (gk - 1)
      case measure => have := HK.out; omega
      case rel => exact ⟨k + 1, by have := HK.out; omega, by go_num, _, _, _, S4.out, T4.out, B4.out, ha4, hb4⟩
    · have hkq : k = q := by have := HK.out; omega
      subst hkq
      have hf := HQ.out.win
      go_wp2_with fail
      have hw := HW.out mb a b L _ _ _ wr HX.out HS.out HT.out
      rw [hf] at hw
      refine hw.mono ?_; rintro r w4 ⟨rfl, a4, b4, L4, t4, st4, _⟩
      have B4 := hid (st4.below HB.out HB.out.size (by omega) ha hbb)
      clear hw st4 t4
      go_wp2_with fail
      go_ret
      exact ⟨rfl, B4.out⟩
end Go.Proofs.Ytdclmhmdkhpekaa
