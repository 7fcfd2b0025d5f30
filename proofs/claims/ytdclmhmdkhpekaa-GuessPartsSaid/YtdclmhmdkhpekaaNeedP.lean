/- Walk of guess.Need. No condition. -/
import Derived.Test.YtdclmhmdkhpekaaSolve2
import Derived.Test.YtdclmhmdkhpekaaMarksPub
namespace Go.Proofs.Ytdclmhmdkhpekaa
open Go.RowKit Go.Maps

theorem game_of {p : Nat} {c : Int} {N : Nat} (h : 0 < codes p c) (hN : codes p c = N) : Game c p N ∧ 1 ≤ p ∧ p ≤ 4 ∧ 1 ≤ N := by
  obtain ⟨h1, h2, h3, h4, h5, h6⟩ := codes_pos h
  rw [Int.toNat_natCast] at h6
  exact ⟨⟨h3, h4, by rw [← hN, h6]⟩, by omega, by omega, by omega⟩

set_option maxRecDepth 100000 in
set_option maxHeartbeats 4000000 in
theorem needPub_bad (p c : Int) (w : World) (h : ¬ (0 < codes p c ∧ codes p c ≤ 27)) :
    Calls Try.prog 22 #[.int .i64 p, .int .i64 c] w fun e w' => e = .returned (.tuple #[.int .i64 0, .int .i64 2]) ∧ Below w.heap.size w w' := by
  by_cases hp : 0 < codes p c
  · have h27 : 27 < codes p c := by omega
    obtain ⟨N, hN⟩ : ∃ N, codes p c = N := ⟨_, rfl⟩
    have hg : gameOk p c [] = true := gameOk_iff.2 ⟨hp, by simp⟩
    rw [hN] at h27
    have HR := hid (readYes p c none 0 0 [] w (Sl.nil w) hg N hN)
    have hb := (codes_bd p c).2
    rw [hN] at hb
    have g1 : decide (27 < N) = true := decide_eq_true h27
    clear h hp hg hN
    go_enter Try.func22, Try.ntmps22
    go_wp2_with (go_at_call 53; refine HR.out.mono ?_; rintro e w1 ⟨rfl, hb1⟩; have hz1 := hb1.size)
    go_ret2
    exact ⟨rfl, hb1.alloc (by omega) _⟩
  · have hg : gameOk p c [] = false := by
      cases e : gameOk p c []
      · rfl
      · exact absurd (gameOk_iff.1 e).1 hp
    have HR := hid (readNo p c none 0 0 [] w (Sl.nil w) hg)
    clear h hp hg
    go_enter Try.func22, Try.ntmps22
    go_wp2_with (go_at_call 53; refine HR.out.mono ?_; rintro e w1 ⟨⟨q, d, N, rfl⟩, hb1⟩; have hz1 := hb1.size)
    go_ret2
    exact ⟨rfl, hb1.alloc (by omega) _⟩

def NeedOut (c : Int) (p N : Nat) (e : Ending) : Prop := ∃ n : Nat, e = .returned (.tuple #[.int .i64 n, .int .i64 0]) ∧ Needs c p N n

set_option maxRecDepth 100000 in
set_option maxHeartbeats 4000000 in
theorem needPub_ok (p : Nat) (c : Int) (N : Nat) (w : World) (hp : 0 < codes p c) (hN : codes p c = N) (h27 : N ≤ 27) :
    Calls Try.prog 22 #[.int .i64 p, .int .i64 c] w fun e w' => NeedOut c p N e ∧ Below w.heap.size w w' := by
  obtain ⟨G, hp1, hp4, hN1⟩ := game_of hp hN
  have hg : gameOk p c [] = true := gameOk_iff.2 ⟨hp, by simp⟩
  have HR := hid (readYes p c none 0 0 [] w (Sl.nil w) hg N hN)
  have HG := hid G
  have g1 : decide (27 < N) = false := decide_eq_false (by omega)
  have g2 : decide (27 < (N : Int)) = false := decide_eq_false (by omega)
  have HS := hid (solvesAll p c N ⟨by omega, G.c1, G.c6, h27⟩)
  have hmm := @run_makeMap Try.prog
  clear G hg hp hN
  go_enter Try.func22, Try.ntmps22
  go_wp2_with (go_at_call 53; refine HR.out.mono ?_; rintro e w1 ⟨rfl, hb1⟩; have hz1 := hb1.size; have HB1 := hid hb1; clear hb1)
  go_loopg [9] N (fun g i wr => ∃ j : Nat, g + j = N + 1 ∧ 1 ≤ j ∧ i = .int .i64 j ∧ (∀ q, 1 ≤ q → q < j → solvesL c p N q (upto N) = false) ∧ Hid (Blk wr w1.heap.size 68 #[.int .i64 p, .int .i64 c, .int .i64 N]) ∧ Hid (Memo Try.prog 106 wr (w1.heap.size + 1) (OKs c p N)) ∧ Hid (Below w.heap.size w wr))
  case atStart =>
    refine ⟨1, rfl, by omega, rfl, fun q h1 h2 => by omega, hid ((Blk.new _ _ _).alloc _), ?_, hid ((HB1.out.alloc hz1 _).alloc (by simp; omega) _)⟩
    have := Memo.made (P := Try.prog) (k := 106) (OK := OKs c p N) (w1.alloc (.cells #[.int .i64 p, .int .i64 c, .int .i64 N] 68))
    exact hid (by simpa using this)
  case round =>
    obtain ⟨j, hj, hj1, rfl, hno, hB, hM, hW⟩ := hrel
    have HJ := hid hj; have HNO := hid hno
    have hjN : j ≤ 60 := by
      rcases Nat.lt_or_ge N j with g | g
      · omega
      · omega
    have k0 := hB.out.cell 0; have k1 := hB.out.cell 1; have k2 := hB.out.cell 2
    simp only [List.getElem?_toArray, List.getElem?_cons_zero, List.getElem?_cons_succ] at k0 k1 k2
    have keepB : ∀ (u v : World), u.grownBy v (some (w1.heap.size + 1)) → ∀ i x, u.cell? ⟨w1.heap.size, i, none⟩ = some x → v.cell? ⟨w1.heap.size, i, none⟩ = some x := fun _ _ hg i x h =>
      (World.cell?_of_block (a := ⟨w1.heap.size, i, none⟩) (hg.block w1.heap.size (World.block_lt_of_cell? _ _ h) (by simp))).trans h
    have HKB := hid keepB
    cases hs : solvesL c p N j (upto N)
    · have HSV := hid hs
      have hjlt : j < N := by
        rcases Nat.lt_or_ge j N with g | g
        · exact g
        · have h1 := HG.out.all_solved j (upto N) (rise_upto N) (by rw [upto_len]; exact g)
          rw [hs] at h1; cases h1
      clear hj hno hs keepB
      go_wp2_with fail
      go_region_held3 (fun w' => w'.cell? ⟨w1.heap.size, 0, none⟩ = some (.int .i64 p) ∧ w'.cell? ⟨w1.heap.size, 1, none⟩ = some (.int .i64 c) ∧ w'.cell? ⟨w1.heap.size, 2, none⟩ = some (.int .i64 N)) (first | assumption | go_keep)
        ((first
          | (go_at_call 56; refine (allS p c N (by omega) _).mono ?_; rintro e w2 ⟨A2, c2, rfl, ho2, hb2⟩; have hk2 : w2.cell? ⟨w1.heap.size, 0, none⟩ = some (.int .i64 p) ∧ w2.cell? ⟨w1.heap.size, 1, none⟩ = some (.int .i64 c) ∧ w2.cell? ⟨w1.heap.size, 2, none⟩ = some (.int .i64 N) := ⟨cell_keep hb2 (by simp [*]), cell_keep hb2 (by simp [*]), cell_keep hb2 (by simp [*])⟩; have HM2 := hid (hM.out.drew.keep hb2); have HSL2 := hid (Sl.of_own ho2); have HB2 := hid hb2; clear ho2 hb2)
          | (go_at_call 55; have hcall := HS.out j (by omega) (w1.heap.size + 1) A2 N c2 (upto N) (j : Int) w2 rfl HSL2.out HM2.out (rise_upto N); rw [HSV.out] at hcall; refine hcall.mono ?_; clear hcall; rintro e w3 ⟨rfl, hg3, hm3⟩; have hk3 : w3.cell? ⟨w1.heap.size, 0, none⟩ = some (.int .i64 p) ∧ w3.cell? ⟨w1.heap.size, 1, none⟩ = some (.int .i64 c) ∧ w3.cell? ⟨w1.heap.size, 2, none⟩ = some (.int .i64 N) := ⟨HKB.out _ _ hg3 _ _ hk2.1, HKB.out _ _ hg3 _ _ hk2.2.1, HKB.out _ _ hg3 _ _ hk2.2.2⟩; have HM3 := hid hm3; have HG3 := hid hg3; clear hg3 hm3)))
      go_wp2
      go_roundg (gk - 1)
      case measure => have := HJ.out; omega
      case rel =>
        refine ⟨j + 1, by have := HJ.out; omega, by omega, by go_num, fun q h1 h2 => ?_, ?_, HM3, ?_⟩
        · rcases Nat.lt_or_ge q j with g | g
          · exact HNO.out q h1 g
          · have : q = j := by omega
            subst this; exact HSV.out
        · exact hid (((hB.out.drew.keep HB2.out).grown HG3.out (by simp)))
        · have a1 : Below w.heap.size w w2 := below_call hW.out.drew HB2.out (by have := hW.out.size; simpa using this)
          exact hid ⟨HG3.out.os.trans a1.os, HG3.out.tape.trans a1.tape, HG3.out.output.trans a1.output, Nat.le_trans a1.size HG3.out.size, fun i hi => (HG3.out.block i (by have := a1.size; omega) (by simp; omega)).trans (a1.block i hi)⟩
    · have HSV := hid hs
      clear hj hno hs keepB
      go_wp2_with fail
      go_region_held3 (fun w' => w'.cell? ⟨w1.heap.size, 0, none⟩ = some (.int .i64 p) ∧ w'.cell? ⟨w1.heap.size, 1, none⟩ = some (.int .i64 c) ∧ w'.cell? ⟨w1.heap.size, 2, none⟩ = some (.int .i64 N)) (first | assumption | go_keep)
        ((first
          | (go_at_call 56; refine (allS p c N (by omega) _).mono ?_; rintro e w2 ⟨A2, c2, rfl, ho2, hb2⟩; have hk2 : w2.cell? ⟨w1.heap.size, 0, none⟩ = some (.int .i64 p) ∧ w2.cell? ⟨w1.heap.size, 1, none⟩ = some (.int .i64 c) ∧ w2.cell? ⟨w1.heap.size, 2, none⟩ = some (.int .i64 N) := ⟨cell_keep hb2 (by simp [*]), cell_keep hb2 (by simp [*]), cell_keep hb2 (by simp [*])⟩; have HM2 := hid (hM.out.drew.keep hb2); have HSL2 := hid (Sl.of_own ho2); have HB2 := hid hb2; clear ho2 hb2)
          | (go_at_call 55; have hcall := HS.out j (by omega) (w1.heap.size + 1) A2 N c2 (upto N) (j : Int) w2 rfl HSL2.out HM2.out (rise_upto N); rw [HSV.out] at hcall; refine hcall.mono ?_; clear hcall; rintro e w3 ⟨rfl, hg3, hm3⟩; have hk3 : w3.cell? ⟨w1.heap.size, 0, none⟩ = some (.int .i64 p) ∧ w3.cell? ⟨w1.heap.size, 1, none⟩ = some (.int .i64 c) ∧ w3.cell? ⟨w1.heap.size, 2, none⟩ = some (.int .i64 N) := ⟨HKB.out _ _ hg3 _ _ hk2.1, HKB.out _ _ hg3 _ _ hk2.2.1, HKB.out _ _ hg3 _ _ hk2.2.2⟩; have HM3 := hid hm3; have HG3 := hid hg3; clear hg3 hm3)))
      go_wp2
      go_ret2
      refine ⟨⟨j, rfl, hj1, HSV.out, HNO.out⟩, ?_⟩
      have a1 : Below w.heap.size w w2 := below_call hW.out.drew HB2.out (by have := hW.out.size; simpa using this)
      exact ⟨HG3.out.os.trans a1.os, HG3.out.tape.trans a1.tape, HG3.out.output.trans a1.output, Nat.le_trans a1.size HG3.out.size, fun i hi => (HG3.out.block i (by have := a1.size; omega) (by simp; omega)).trans (a1.block i hi)⟩
end Go.Proofs.Ytdclmhmdkhpekaa
