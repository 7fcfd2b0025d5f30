/- What a call may change that knows the table; a key is put into a table that is not half full. Conditions: the key is not there, and bounded. -/
import Derived.Test.YtdclmhmdkhpekaaTabW
import Derived.BigQuiet
namespace Go.Proofs.Ytdclmhmdkhpekaa
open Go.RowKit

structure Step (W w' : World) (mb g1 g2 g1' g2' : Nat) : Prop where
  os : w'.os = W.os
  tape : w'.tape = W.tape
  output : w'.output = W.output
  size : W.heap.size ≤ w'.heap.size
  block : ∀ i, i < W.heap.size → i ≠ mb → i ≠ g1 → i ≠ g2 → w'.heap[i]? = W.heap[i]?
  n1 : g1' = g1 ∨ W.heap.size ≤ g1'
  n2 : g2' = g2 ∨ W.heap.size ≤ g2'
section
variable {W w w' : World} {mb g1 g2 g1' g2' g1'' g2'' : Nat}
theorem Step.refl (W : World) (mb g1 g2 : Nat) : Step W W mb g1 g2 g1 g2 := ⟨rfl, rfl, rfl, Nat.le_refl _, fun _ _ _ _ _ => rfl, .inl rfl, .inl rfl⟩
theorem Step.trans (h : Step W w mb g1 g2 g1' g2') (k : Step w w' mb g1' g2' g1'' g2'') : Step W w' mb g1 g2 g1'' g2'' :=
  ⟨k.os.trans h.os, k.tape.trans h.tape, k.output.trans h.output, Nat.le_trans h.size k.size,
    fun i hi a b c => (k.block i (by have := h.size; omega) a (by rcases h.n1 with e | e <;> omega) (by rcases h.n2 with e | e <;> omega)).trans (h.block i hi a b c),
    by rcases k.n1 with e | e
       · rw [e]; exact h.n1
       · exact .inr (Nat.le_trans h.size e),
    by rcases k.n2 with e | e
       · rw [e]; exact h.n2
       · exact .inr (Nat.le_trans h.size e)⟩
theorem Step.of_below (h : Below W.heap.size W w') : Step W w' mb g1 g2 g1 g2 := ⟨h.os, h.tape, h.output, h.size, fun i hi _ _ _ => h.block i hi, .inl rfl, .inl rfl⟩
theorem Step.drewN (h : Step W w mb g1 g2 g1' g2') (k : Nat) : Step W (w.drewN k) mb g1 g2 g1' g2' := h.trans ⟨rfl, rfl, rfl, Nat.le_refl _, fun _ _ _ _ _ => rfl, .inl rfl, .inl rfl⟩
theorem Step.then_below (h : Step W w mb g1 g2 g1' g2') (k : Below w.heap.size w w') : Step W w' mb g1 g2 g1' g2' := h.trans (Step.of_below k)
theorem Step.setCell (h : Step W w mb g1 g2 g1' g2') {p : Addr} (hp : p.block = mb ∨ p.block = g1' ∨ p.block = g2') (u : Value) : Step W (w.setCell p u) mb g1 g2 g1' g2' :=
  h.trans ⟨rfl, rfl, rfl, by simp, fun i _ a b c => Below.heap_setCell w p u i (by rcases hp with e | e | e <;> rw [e] <;> assumption), .inl rfl, .inl rfl⟩
theorem Step.below {B : Nat} {a : World} (h : Below B a W) (k : Step W w mb g1 g2 g1' g2') (hB : B ≤ W.heap.size) (hm : B ≤ mb) (h1 : B ≤ g1) (h2 : B ≤ g2) : Below B a w :=
  h.trans ⟨k.os, k.tape, k.output, k.size, fun i hi => k.block i (by omega) (by omega) (by omega) (by omega)⟩
/-- A slice that is none of the table's. -/
structure SlT (W : World) (mb g1 g2 : Nat) (A : Option Addr) (n c : Nat) (xs : List Int) : Prop where
  sl : Sl W A n c (xs.map (Value.int .i64))
  ne : ∀ a, A = some a → a.block < W.heap.size ∧ a.block ≠ mb ∧ a.block ≠ g1 ∧ a.block ≠ g2
theorem SlT.step {A : Option Addr} {n c : Nat} {xs : List Int} (h : SlT W mb g1 g2 A n c xs) (k : Step W w mb g1 g2 g1' g2') : SlT w mb g1' g2' A n c xs := by
  refine ⟨⟨h.sl.len, h.sl.cap, h.sl.capm, fun hn => ?_⟩, fun a ha => ?_⟩
  · obtain ⟨b, o, e, hb, hc⟩ := h.sl.pos hn
    have hne := h.ne _ e
    refine ⟨b, o, e, Nat.lt_of_lt_of_le hb k.size, fun j u hu => ?_⟩
    exact (World.cell?_of_block (a := ⟨b, o + j, none⟩) (k.block b hb hne.2.1 hne.2.2.1 hne.2.2.2)).trans (hc j u hu)
  · have hne := h.ne a ha
    exact ⟨Nat.lt_of_lt_of_le hne.1 k.size, hne.2.1, by rcases k.n1 with e | e <;> omega, by rcases k.n2 with e | e <;> omega⟩
theorem SlT.keep {A : Option Addr} {n c : Nat} {xs : List Int} (h : SlT W mb g1 g2 A n c xs) (k : Below W.heap.size W w) : SlT w mb g1 g2 A n c xs := h.step (Step.of_below k)
end

set_option maxRecDepth 100000 in
set_option maxHeartbeats 2000000 in
theorem putLow (OK : Int → Bool → Prop) (mb g1 g2 N : Nat) (ks : Nat → Int) (ws : Nat → Bool) (L : List Int) (k : Int) (b : Bool) (hb : Bounds OK) (hok : OK k b) (hno : k ∉ L) (hl : 2 * L.length < N) (w : World) (h : TabA OK w mb g1 g2 N ks ws L) :
    Calls Try.prog 88 #[.pointer (some ⟨mb, 0, none⟩), .int .i64 k, .bool b] w fun e w' => e = .returned (.tuple #[]) ∧ (∃ ks' ws', TabA OK w' mb g1 g2 N ks' ws' (k :: L)) ∧ Step w w' mb g1 g2 g1 g2 := by
  have hkb := hb k b hok
  have HPL := hid (placeS OK mb g1 g2 N ks ws L k hkb.1 hkb.2)
  have hN := h.nbd
  have c0 := h.bm.cell 0
  have c1 := h.bm.cell 1
  have c2 := h.bm.cell 2
  simp only [List.getElem?_toArray, List.getElem?_cons_zero, List.getElem?_cons_succ] at c0 c1 c2
  have g : decide ((N : Int) ≤ 2 * (L.length : Int)) = false := decide_eq_false (by omega)
  have hLn : (L.length : Int) ≤ 1073741824 := by omega
  have H := hid h
  clear h hkb
  go_enter Try.func88, Try.ntmps88
  go_wp2_with fail
  go_quiet (fail)
  go_wp2_with fail
  generalize hW : w.drewN _ = W at *
  have HW := hid (show TabA OK W mb g1 g2 N ks ws L by rw [← hW]; exact H.out.drewN _)
  have HS := hid (show Step w W mb g1 g2 g1 g2 by rw [← hW]; exact (Step.refl _ _ _ _).drewN _)
  clear c0 c1 c2 hW
  refine (HPL.out W HW.out).mono ?_; rintro e w1 ⟨⟨t, hf, rfl⟩, rfl⟩
  have hk0 : k ≠ 0 := by have := (hb k b hok).1; omega
  have hz : ks (slot N k t) = 0 := by
    rcases hf.at_ with e | e
    · exact e
    · exact absurd (HW.out.good.isin (by omega) e hk0) hno
  have hs := slot_lt (show 0 < N by omega) k t
  have HG := hid (HW.out.good.insert (by omega) hf hz hk0)
  have M1 := HW.out.m1; have M2 := HW.out.m2; have K2 := HW.out.k2
  generalize slot N k t = s at *
  have B1 := hid (show Blk (W.setCell ⟨g1, s, none⟩ (.int .i64 k)) g1 3 (arr N (upd ks s k)) by rw [← arr_upd]; exact HW.out.bk.set s _)
  have B2 := hid (HW.out.bw.far (p := ⟨g1, s, none⟩) K2.symm (.int .i64 k))
  have B3 := hid (HW.out.bm.far (p := ⟨g1, s, none⟩) M1 (.int .i64 k))
  have S1 := hid (HS.out.setCell (p := ⟨g1, s, none⟩) (.inr (.inl rfl)) (.int .i64 k))
  have C2 := hid (show Blk ((W.setCell ⟨g1, s, none⟩ (.int .i64 k)).setCell ⟨g2, s, none⟩ (.bool b)) g2 4 (barr N (upd ws s b)) by rw [← barr_upd]; exact B2.out.set s _)
  have C1 := hid (B1.out.far (p := ⟨g2, s, none⟩) K2 (.bool b))
  have C3 := hid (B3.out.far (p := ⟨g2, s, none⟩) M2 (.bool b))
  have S2 := hid (S1.out.setCell (p := ⟨g2, s, none⟩) (.inr (.inr rfl)) (.bool b))
  have D3 := hid (C3.out.set 2 (.int .i64 ((L.length : Int) + 1)))
  have D1 := hid (C1.out.far (p := ⟨mb, 2, none⟩) M1.symm (.int .i64 ((L.length : Int) + 1)))
  have D2 := hid (C2.out.far (p := ⟨mb, 2, none⟩) M2.symm (.int .i64 ((L.length : Int) + 1)))
  have S3 := hid (S2.out.setCell (p := ⟨mb, 2, none⟩) (.inl rfl) (.int .i64 ((L.length : Int) + 1)))
  have x0 := HW.out.bm.cell 0
  have x1 := B3.out.cell 1
  have x2 := C3.out.cell 2
  simp only [List.getElem?_toArray, List.getElem?_cons_zero, List.getElem?_cons_succ] at x0 x1 x2
  have z1 := HW.out.bk.cell s
  rw [arr_get hs] at z1
  have f1 := HW.out.bk.free s
  have z2 := B2.out.cell s
  rw [barr_get hs] at z2
  have f2 := B2.out.free s
  have f3 := C3.out.free 2
  clear hf hz HPL
  go_wp2_with fail
  go_end0
  have hbm : (#[Value.slice (some ⟨g1, 0, none⟩) N N, .slice (some ⟨g2, 0, none⟩) N N, .int .i64 (L.length : Nat)] : Array Value).setIfInBounds 2 (.int .i64 ((L.length : Int) + 1)) = #[Value.slice (some ⟨g1, 0, none⟩) N N, .slice (some ⟨g2, 0, none⟩) N N, .int .i64 ((k :: L).length : Nat)] := by
    rw [List.length_cons, Int.natCast_add]; rfl
  refine ⟨rfl, ⟨upd ks s k, upd ws s b, ⟨by rw [← hbm]; exact D3.out, D1.out, D2.out, HW.out.pw, ?_, HG.out, fun i hi hne => ?_⟩⟩, S3.out⟩
  · obtain ⟨e, h1, _, h3⟩ := HW.out.pw
    have h4 : N = 2 * 2 ^ (e - 1) := by rw [h3, ← Nat.pow_succ', show (e - 1).succ = e by omega]
    rw [List.length_cons]
    generalize 2 ^ (e - 1) = p at h4
    omega
  · unfold upd at hne ⊢
    by_cases e : i = s
    · rw [if_pos e, if_pos e]; exact hok
    · rw [if_neg e] at hne
      rw [if_neg e, if_neg e]
      exact HW.out.tru i hi hne
end Go.Proofs.Ytdclmhmdkhpekaa
