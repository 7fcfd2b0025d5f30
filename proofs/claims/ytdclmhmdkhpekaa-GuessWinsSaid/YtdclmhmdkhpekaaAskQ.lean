/- Walks of interview.ask, and of Wins and Ask. Conditions: the slice reads as a state. -/
import Derived.Test.YtdclmhmdkhpekaaGrowS
import Derived.Test.YtdclmhmdkhpekaaLiar2
namespace Go.Proofs.Ytdclmhmdkhpekaa
open Go.RowKit Go.Maps

theorem growS (bq bs bk bv bg vb M base : Nat) (A : Option Addr) (n c : Nat) (xs : List Int) (q : Nat) (hq : q ≤ 50) (O : Order bq bs bk bv bg vb M base n A) (HP : Plays xs) (HW : WinTo q) : ∀ r, GrowTo bq bs bk bv bg vb M base A n c xs q r := by
  intro r
  induction r with
  | zero => exact growZero bq bs bk bv bg vb M base A n c xs q hq O HP HW
  | succ r ih => exact growStep bq bs bk bv bg vb M base A n c xs q r O HP ih
theorem at_callw {P : Program} {f : FuncId} {args : Array Value} {Q : Ending → World → Prop} {w : World} (h : ∀ W, W = w → Calls P f args W Q) : Calls P f args w Q := h w rfl

set_option maxRecDepth 100000 in
set_option maxHeartbeats 4000000 in
theorem askS (q : Nat) (hq : q ≤ 50) (HW : WinTo q) : AskTo q := by
  intro vb M A n c xs W HP hiv
  have hO : Order (W.heap.size + 1 + 1 + 1) (W.heap.size + 1) (W.heap.size + 1 + 1) W.heap.size (W.heap.size + 1 + 1 + 1 + 1) vb M (W.heap.size + 1 + 1 + 1 + 1 + 1) n A :=
    ⟨hiv.blk.lt, hiv.memo.lt, by omega, by omega, by omega, by omega, by omega, fun h b o s e => by
      obtain ⟨b', o', e', hlt, _⟩ := hiv.sl.pos h
      rw [e] at e'; cases e'; exact hlt⟩
  have hG := growS (W.heap.size + 1 + 1 + 1) (W.heap.size + 1) (W.heap.size + 1 + 1) W.heap.size (W.heap.size + 1 + 1 + 1 + 1) vb M (W.heap.size + 1 + 1 + 1 + 1 + 1) A n c xs q hq hO HP HW n
  have HG := hid hG
  have HIV := hid hiv
  have hR : resQ (goodQ (winS q) q xs) xs [] = (findQ q xs).getD [] := rfl
  have hF : firstQ (goodQ (winS q) q xs) (xs.drop ([] : List Int).length) [] = findQ q xs := rfl
  have HR := hid hR; have HFQ := hid hF
  have hst := fun (w : World) (a : Addr) (cs : Array Value) => run_store Try.prog w a (.func (.func 95) #[] cs) .plain rfl
  clear hG hiv hO hR hF HP HW
  go_enter Try.func75, Try.ntmps75
  go_wp2_with fail
  refine at_callw fun W5 hW5 => ?_
  have HB5 := hid (show Below W.heap.size W W5 by
    rw [hW5]
    exact ((((((Below.refl _ _).alloc (Nat.le_refl _) _).alloc (by simp) _).alloc (by simp; omega) _).alloc (by simp; omega) _).alloc (by simp; omega) _))
  have z0 : Blk W5 W.heap.size 80 #[.pointer (some ⟨vb, 0, none⟩)] := by rw [hW5]; exact ((((Blk.new _ _ _).alloc _).alloc _).alloc _).alloc _
  have z1 : Blk W5 (W.heap.size + 1) 79 #[.slice A n c] := by rw [hW5]; exact (((Blk.new_at _ _ _ (by simp)).alloc _).alloc _).alloc _
  have z2 : Blk W5 (W.heap.size + 1 + 1) 3 #[.int .i64 ((q : Int) + 1)] := by rw [hW5]; exact ((Blk.new_at _ _ _ (by simp)).alloc _).alloc _
  have z3 : Blk W5 (W.heap.size + 1 + 1 + 1) 79 #[.slice none 0 0] := by rw [hW5]; exact (Blk.new_at _ _ _ (by simp)).alloc _
  have z4 : Blk W5 (W.heap.size + 1 + 1 + 1 + 1) 26 #[.func (.func 95) #[] #[.pointer (some ⟨W.heap.size + 1 + 1 + 1, 0, none⟩), .pointer (some ⟨W.heap.size + 1, 0, none⟩), .pointer (some ⟨W.heap.size + 1 + 1, 0, none⟩), .pointer (some ⟨W.heap.size, 0, none⟩), .pointer (some ⟨W.heap.size + 1 + 1 + 1 + 1, 0, none⟩)]] := by rw [hW5]; exact Blk.new_at _ _ _ (by simp)
  have hsz : W5.heap.size = W.heap.size + 1 + 1 + 1 + 1 + 1 := by rw [hW5]; simp
  have hBx : Boxes W5 (W.heap.size + 1 + 1 + 1) (W.heap.size + 1) (W.heap.size + 1 + 1) W.heap.size (W.heap.size + 1 + 1 + 1 + 1) vb M A n c xs q := ⟨z0, z1, z2, z4, HIV.out.below HB5.out⟩
  have HC := hid (HG.out [] W5 (.slice none 0 0) (by simp) (fun j hj => absurd hj (by simp)) hBx z3 (World.ownsRow_nil _ _ _ _) (by omega))
  have HSZ := hid hsz
  clear hW5 z0 z1 z2 z3 z4 hsz hBx
  rw [HFQ.out, HR.out] at HC
  refine HC.out.mono ?_; rintro e w6 ⟨rfl, hc, hm, qv, hbq, ho⟩
  obtain ⟨A6, c6, rfl⟩ := own_form ho
  have zq := hbq.cell 0
  simp at zq
  have HM := hid hm; have HO := hid ho
  have HGR := hid (show W.grownBy w6 (some M) from ⟨hc.os.trans HB5.out.os, hc.tape.trans HB5.out.tape, hc.output.trans HB5.out.output, Nat.le_trans HB5.out.size hc.size, fun i hi hr => (hc.block i (by have := HB5.out.size; omega) (by
    rintro (h | h | h)
    · omega
    · exact hr (by rw [h])
    · omega)).trans (HB5.out.block i hi)⟩)
  clear hc hm hbq ho
  go_wp2
  go_ret2
  refine ⟨A6, _, c6, rfl, HGR.out, HM.out, fun r hr => ?_⟩
  have h := HO.out
  rw [hr] at h ⊢
  exact own_more h (by omega)
theorem winAll : ∀ q, q ≤ 50 → WinTo q ∧ AskTo q := by
  intro q
  induction q with
  | zero => intro _; exact ⟨winZero, askS 0 (by omega) winZero⟩
  | succ q ih =>
    intro hq
    have h := winStep q (by omega) (ih (by omega)).2
    exact ⟨h, askS (q + 1) hq h⟩
end Go.Proofs.Ytdclmhmdkhpekaa
