/- Walk of the reference's win, from good with one question less. Conditions: a state of numbers that sum to at most 60. -/
import Derived.Test.YtdclmhmdkhpekaaNextM
import Derived.Deep.CutRange
namespace Go.Proofs.Ytdclmhmdkhpekaa
open Go.RowKit

section
variable {OK : Int → Bool → Prop} {w w' : World} {mb g1 g2 g1' g2' : Nat} {L : List Int}
theorem Tab.set (h : Tab OK w mb g1 g2 L) {p : Addr} (hp : p.block ≠ mb ∧ p.block ≠ g1 ∧ p.block ≠ g2) (u : Value) : Tab OK (w.setCell p u) mb g1 g2 L := by
  obtain ⟨N, ks, ws, h⟩ := h
  exact ⟨N, ks, ws, h.bm.far hp.1.symm u, h.bk.far hp.2.1.symm u, h.bw.far hp.2.2.symm u, h.pw, h.half, h.good, h.tru⟩
theorem Tab.grown (h : Tab OK w mb g1 g2 L) {gb : Nat} (hg : w.grownBy w' (some gb)) (hp : gb ≠ mb ∧ gb ≠ g1 ∧ gb ≠ g2) : Tab OK w' mb g1 g2 L := by
  obtain ⟨N, ks, ws, h⟩ := h
  exact ⟨N, ks, ws, h.bm.grown hg (by simp; exact fun e => hp.1 e.symm), h.bk.grown hg (by simp; exact fun e => hp.2.1 e.symm), h.bw.grown hg (by simp; exact fun e => hp.2.2 e.symm), h.pw, h.half, h.good, h.tru⟩
theorem Step.setNew {W : World} (h : Step W w mb g1 g2 g1' g2') {p : Addr} (hp : W.heap.size ≤ p.block) (u : Value) : Step W (w.setCell p u) mb g1 g2 g1' g2' :=
  ⟨h.os, h.tape, h.output, by simpa using h.size, fun i hi a b c => (Below.heap_setCell w p u i (by omega)).trans (h.block i hi a b c), h.n1, h.n2⟩
theorem Step.grown {W : World} (h : Step W w mb g1 g2 g1' g2') {gb : Nat} (hg : w.grownBy w' (some gb)) (hp : W.heap.size ≤ gb) : Step W w' mb g1 g2 g1' g2' :=
  ⟨hg.os.trans h.os, hg.tape.trans h.tape, hg.output.trans h.output, Nat.le_trans h.size hg.size, fun i hi a b c => (hg.block i (by have := h.size; omega) (by simp; omega)).trans (h.block i hi a b c), h.n1, h.n2⟩
theorem Blk.step {b : Nat} {t : TypeId} {cs : Array Value} (h : Blk w b t cs) (k : Step w w' mb g1 g2 g1' g2') (hb : b ≠ mb ∧ b ≠ g1 ∧ b ≠ g2) : Blk w' b t cs ∧ b ≠ mb ∧ b ≠ g1' ∧ b ≠ g2' :=
  ⟨(k.block b h.lt hb.1 hb.2.1 hb.2.2).trans h, hb.1, by have := h.lt; rcases k.n1 with e | e <;> omega, by have := h.lt; rcases k.n2 with e | e <;> omega⟩
end
/-- What win knows while it goes through its questions. -/
structure QI (n q : Nat) (W w : World) (mb g1 g2 g1' g2' gb : Nat) (f : Nat → Int) (L L' : List Int) (A : Option Addr) (c : Nat) (xs : List Int) : Prop where
  tab : Tab (OKr n) w mb g1' g2' L'
  step : Step W w mb g1 g2 g1' g2'
  blk : Blk w gb 3 (arr n f)
  ge : W.heap.size ≤ gb
  ne : gb ≠ mb ∧ gb ≠ g1' ∧ gb ≠ g2'
  sl : SlT w mb g1' g2' A n c xs
  nb : ∀ a, A = some a → a.block < W.heap.size
  more : ∀ k, k ∈ L' → k ∈ L ∨ k < ((q : Int) + 2) * 61 ^ n
section
variable {n q : Nat} {W w w' : World} {mb g1 g2 g1' g2' gb : Nat} {f f' : Nat → Int} {L L' : List Int} {A : Option Addr} {c : Nat} {xs : List Int}
theorem QI.row (h : QI n q W w mb g1 g2 g1' g2' gb f L L' A c xs) (hn : n ≤ 1000000) : Sl w (some ⟨gb, 0, none⟩) n n ((fl n f).map (Value.int .i64)) := by
  rw [← fl_arr]
  exact Sl.of_own (blk_own h.blk (Nat.le_refl _) (arr_size _ _).symm hn)
theorem QI.grown (h : QI n q W w mb g1 g2 g1' g2' gb f L L' A c xs) (hg : w.grownBy w' (some gb)) (hb : Blk w' gb 3 (arr n f')) : QI n q W w' mb g1 g2 g1' g2' gb f' L L' A c xs := by
  refine ⟨h.tab.grown hg h.ne, h.step.grown hg h.ge, hb, h.ge, h.ne, ⟨⟨h.sl.sl.len, h.sl.sl.cap, h.sl.sl.capm, fun hn => ?_⟩, fun a ha => ?_⟩, h.nb, h.more⟩
  · obtain ⟨b, o, e, hlt, hc⟩ := h.sl.sl.pos hn
    have h1 := h.nb _ e
    have h2 := h.ge
    replace h1 : b < W.heap.size := h1
    refine ⟨b, o, e, Nat.lt_of_lt_of_le hlt hg.size, fun j u hu => ?_⟩
    exact (World.cell?_of_block (a := ⟨b, o + j, none⟩) (hg.block b hlt (by simp; omega))).trans (hc j u hu)
  · have := h.sl.ne a ha
    exact ⟨Nat.lt_of_lt_of_le this.1 hg.size, this.2⟩
theorem QI.set (h : QI n q W w mb g1 g2 g1' g2' gb f L L' A c xs) (i : Nat) (v : Int) (hf : ∀ j, j < n → f' j = if j = i then v else f j) : QI n q W (w.setCell ⟨gb, i, none⟩ (.int .i64 v)) mb g1 g2 g1' g2' gb f' L L' A c xs := by
  refine h.grown (grow_set (grow_refl _ _) i _) ?_
  have := h.blk.set i (.int .i64 v)
  rwa [arr_step hf] at this
theorem QI.drewN (h : QI n q W w mb g1 g2 g1' g2' gb f L L' A c xs) (k : Nat) : QI n q W (w.drewN k) mb g1 g2 g1' g2' gb f L L' A c xs := h.grown (grow_drewN (grow_refl _ _) k) (h.blk.drewN k)
theorem QI.aft (h : QI n q W w mb g1 g2 g1' g2' gb f L L' A c xs) (ha : Aft n w w' mb g1' g2' L' q) : ∃ a b M, QI n q W w' mb g1 g2 a b gb f L M A c xs := by
  obtain ⟨a, b, M, h1, h2, h3⟩ := ha
  have hb := h.blk.step h2 h.ne
  exact ⟨a, b, M, h1, h.step.trans h2, hb.1, h.ge, hb.2, h.sl.step h2, h.nb, fun k hk => (h3 k hk).elim (h.more k) .inr⟩
theorem QI.cong (h : QI n q W w mb g1 g2 g1' g2' gb f L L' A c xs) (hf : ∀ j, j < n → f' j = f j) : QI n q W w mb g1 g2 g1' g2' gb f' L L' A c xs :=
  ⟨h.tab, h.step, by rw [arr_congr hf]; exact h.blk, h.ge, h.ne, h.sl, h.nb, h.more⟩
end

set_option maxRecDepth 100000 in
set_option maxHeartbeats 1000000 in
theorem winR_zero (n : Nat) : WinR n 0 := by
  intro mb g1 g2 L A c xs W hx sx ht
  have hn := hx.hi
  have HT := hid (refTotal A n c xs 1000 (by omega) (by omega) hx.bd W sx.sl)
  have HTab := hid ht
  clear ht
  by_cases h1 : total xs ≤ 1
  · have k1 : decide (total xs ≤ 1) = true := decide_eq_true h1
    have HW := hid (show winS 0 xs = true from k1)
    clear h1
    go_enter Try.func60, Try.ntmps60
    go_wp2_with (go_at_call 65; refine HT.out.mono ?_; rintro e w' ⟨rfl, rfl⟩)
    go_ret
    exact ⟨ret_b HW.out, Aft.same HTab.out (Step.refl _ _ _ _)⟩
  · have k1 : decide (total xs ≤ 1) = false := decide_eq_false h1
    have HW := hid (show winS 0 xs = false from k1)
    clear h1
    go_enter Try.func60, Try.ntmps60
    go_wp2_with (go_at_call 65; refine HT.out.mono ?_; rintro e w' ⟨rfl, rfl⟩)
    go_quiet (fail)
    go_wp2
    go_ret
    exact ⟨ret_b HW.out, Aft.same (HTab.out.drewN _) ((Step.refl _ _ _ _).drewN _)⟩
end Go.Proofs.Ytdclmhmdkhpekaa
