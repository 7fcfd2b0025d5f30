/- Walk of asker.ask where the view is known, or settled. Conditions: an asker; a view of at most six elements. -/
import Derived.Test.YtjddbglbodkihaaDoorAskS
namespace Go.Proofs.YtjddbglbodkihaaDoor
open Go.RowKit Go.Maps
attribute [local go_sem ↓] shl_p2 shl_u or_u shr_u and_shrF shr_v and_shr andNot_v and_nn or_i

/-- The second map tells the best question of each view with fewer than m elements left. -/
def Good (n : Nat) (p : Nat → Bool) (B : Nat → Nat → Nat) (m : Nat) : Prop := ∀ a i, View n a i → un n a < m → settl (2 ^ n) p a i = false → B a i = bestN n p a i
/-- What a step of ask turns: its maps alone, and the second one forgets nothing. -/
structure Stp (M1 M2 : Nat) (w w' : World) : Prop where
  chg : Chg (Two M1 M2) w w'
  old : ∀ x, Has w M2 x → Has w' M2 x
section
variable {s n F M1 M2 : Nat} {B : Nat → Nat → Nat} {w w' w'' : World} {OK : Value → Value → Prop} {key : Value}
theorem Stp.refl (w : World) : Stp M1 M2 w w := ⟨Chg.refl _ _, fun _ h => h⟩
theorem Stp.trans (h : Stp M1 M2 w w') (k : Stp M1 M2 w' w'') : Stp M1 M2 w w'' := ⟨h.chg.trans k.chg, fun x hx => k.old x (h.old x hx)⟩
theorem Stp.drew (h : Stp M1 M2 w w') : Stp M1 M2 w w'.drew := ⟨h.chg.drew, h.old⟩
theorem Stp.drewN (h : Stp M1 M2 w w') (k : Nat) : Stp M1 M2 w (w'.drewN k) := ⟨h.chg.drewN k, h.old⟩
theorem Stp.of_below (hs : AS w s n F M1 M2 B) (hb : Below w.heap.size w w') : Stp M1 M2 w w' := ⟨Chg.of_below hb, fun _ hx => (has_same (hb.block _ hs.best.lt)).2 hx⟩
theorem Stp.need (hs : AS w s n F M1 M2 B) (hp : Put1 Tryd.prog 87 w w' M1 OK key) : Stp M1 M2 w w' := ⟨Chg.of_grow hp.grown (.inl rfl), fun _ hx => (has_same (hp.grown.block _ hs.best.lt (by simpa using Ne.symm hs.ne))).2 hx⟩
theorem Stp.best (hp : Put1 Tryd.prog 87 w w' M2 OK key) : Stp M1 M2 w w' := ⟨Chg.of_grow hp.grown (.inr rfl), hp.old⟩
end
/-- What ask does, for views with fewer than m elements left. -/
def AskTo (s n F M1 M2 m : Nat) : Prop := ∀ a i B W, un n a < m → View n a i → AS W s n F M1 M2 B → Good n F.testBit B m →
  Calls Tryd.prog 73 #[.pointer (some ⟨s, 0, none⟩), .agg #[.int .i64 a, .int .i64 i]] W fun e w' => e = .returned (.int .i64 (askN n F.testBit a i : Nat)) ∧ Stp M1 M2 W w' ∧ AS w' s n F M1 M2 B ∧ (settl (2 ^ n) F.testBit a i = false → Has w' M2 (keyA a i))
theorem view60 {n a i : Nat} (hn : n ≤ 6) (h : View n a i) : a < 64 ∧ i < 64 := by
  have h1 := h.lt; have h2 := h.ilt; have := two6 hn; omega

set_option maxRecDepth 100000 in
set_option maxHeartbeats 2000000 in
theorem askHit (s n F M1 M2 a i : Nat) (B : Nat → Nat → Nat) (w : World) (hn : n ≤ 6) (hv : View n a i) (hs : AS w s n F M1 M2 B) (hh : Has w M1 (keyA a i)) :
    Calls Tryd.prog 73 #[.pointer (some ⟨s, 0, none⟩), .agg #[.int .i64 a, .int .i64 i]] w fun e w' => e = .returned (.int .i64 (askN n F.testBit a i : Nat)) ∧ Stp M1 M2 w w' ∧ AS w' s n F M1 M2 B ∧ (settl (2 ^ n) F.testBit a i = false → Has w' M2 (keyA a i)) := by
  have hvb := view60 hn hv
  obtain ⟨kl, hkey⟩ := keyA_key (a := a) (i := i) (by omega) (by omega)
  have hb0 : Below w.heap.size w (w.alloc (.cells #[.int .i64 a, .int .i64 i] 87)) := (Below.refl w.heap.size w).alloc (Nat.le_refl _) _
  have hs1 := hs.below hb0
  have hb1 := Blk.new w 87 #[.int .i64 a, .int .i64 i]
  have hh1 : Has (w.alloc (.cells #[.int .i64 a, .int .i64 i] 87)) M1 (keyA a i) := (has_same (hb0.block _ hs.need.lt)).2 hh
  have hHB := hid hb0
  have HS0 := hid hs
  clear hb0
  go_enter Tryd.func73, Tryd.ntmps73
  go_wp2_with fail
  refine at_world fun W hW => ?_
  rw [← hW] at hs1 hb1 hh1 hHB
  clear hW
  rcases hs1.need.look K87 M110 Z3 hkey (.int .i64 (askN n F.testBit a i : Nat)) (fun v hv => hv a i rfl) with ⟨_, hlk⟩ | ⟨hno, _⟩
  · have hlk0 : ∀ k, (Instr.lookup 110 (.map (some M1)) (.agg #[.int .i64 a, .int .i64 i]) true).run Tryd.prog (W.drewN k) = .ok (.tuple #[.int .i64 (askN n F.testBit a i : Nat), .bool true]) (W.drewN k) := hlk true
    have c2 := hs1.blk.cell 2
    have z0 := hb1.cell 0; have z1 := hb1.cell 1
    simp only [List.getElem?_toArray, List.getElem?_cons_zero, List.getElem?_cons_succ] at c2 z0 z1
    have HS1 := hid hs1
    have HH1 := hid hh1
    clear hlk hs1 hb1 hh1 hkey hs hh hv hvb
    go_quiet (fail)
    go_wp2
    go_ret
    exact ⟨rfl, (Stp.of_below HS0.out hHB.out).drewN _, HS1.out.drewN _, fun h => HS1.out.link a i h HH1.out⟩
  · exact absurd hh1 hno

set_option maxRecDepth 100000 in
set_option maxHeartbeats 4000000 in
theorem askSet (s n F M1 M2 a i : Nat) (B : Nat → Nat → Nat) (w : World) (hn : n ≤ 6) (hF : F < 18446744073709551616) (hv : View n a i) (hs : AS w s n F M1 M2 B) (hh : ¬ Has w M1 (keyA a i)) (hst : settl (2 ^ n) F.testBit a i = true) :
    Calls Tryd.prog 73 #[.pointer (some ⟨s, 0, none⟩), .agg #[.int .i64 a, .int .i64 i]] w fun e w' => e = .returned (.int .i64 (askN n F.testBit a i : Nat)) ∧ Stp M1 M2 w w' ∧ AS w' s n F M1 M2 B ∧ (settl (2 ^ n) F.testBit a i = false → Has w' M2 (keyA a i)) := by
  have hvb := view60 hn hv
  obtain ⟨kl, hkey⟩ := keyA_key (a := a) (i := i) (by omega) (by omega)
  have hb0 : Below w.heap.size w (w.alloc (.cells #[.int .i64 a, .int .i64 i] 87)) := (Below.refl w.heap.size w).alloc (Nat.le_refl _) _
  have hs1 := hs.below hb0
  have hb1 := Blk.new w 87 #[.int .i64 a, .int .i64 i]
  have hh1 : ¬ Has (w.alloc (.cells #[.int .i64 a, .int .i64 i] 87)) M1 (keyA a i) := fun h => hh ((has_same (hb0.block _ hs.need.lt)).1 h)
  have hHB := hid hb0
  have HS0 := hid hs
  have hr0 : askN n F.testBit a i = 0 := ask_zero.2 hst
  have HC := hid fun W => show Calls Tryd.prog 96 #[.agg #[.int .i64 n, .int .u64 F], .agg #[.int .i64 a, .int .i64 i]] W fun e w' => e = .returned (.bool true) ∧ Below W.heap.size W w' from by
    have e := settledF n F a i W hn hF (by omega)
    rw [hst] at e
    exact e
  have HU := hid fun W (hW : AS W s n F M1 M2 B) => hW.need.weak (keyA a i) |>.update K87 M110 hkey (val := .int .i64 0) (by have := OKn_mk n F.testBit a i; rw [hr0] at this; exact this)
  have HST := hid hst
  have HR0 := hid hr0
  clear hb0 hvb hst hr0
  go_enter Tryd.func73, Tryd.ntmps73
  go_wp2_with fail
  refine at_world fun W hW => ?_
  rw [← hW] at hs1 hb1 hh1 hHB
  clear hW
  rcases hs1.need.look K87 M110 Z3 hkey (.int .i64 (askN n F.testBit a i : Nat)) (fun v hv => hv a i rfl) with ⟨hno, _⟩ | ⟨_, hlk⟩
  · exact absurd hno hh1
  · have hlk0 : ∀ k, (Instr.lookup 110 (.map (some M1)) (.agg #[.int .i64 a, .int .i64 i]) true).run Tryd.prog (W.drewN k) = .ok (.tuple #[.int .i64 0, .bool false]) (W.drewN k) := hlk
    have c2 := hs1.blk.cell 2
    have z0 := hb1.cell 0; have z1 := hb1.cell 1
    simp only [List.getElem?_toArray, List.getElem?_cons_zero, List.getElem?_cons_succ] at c2 z0 z1
    have HS1 := hid hs1
    have HB1 := hid hb1
    clear hlk hs1 hb1 hh1 hkey hs hh hv
    go_quiet (fail)
    go_wp2_with fail
    refine at_world fun W4 hW4 => ?_
    have HS4 : Hid (AS W4 s n F M1 M2 B) := hid (by rw [hW4]; exact HS1.out.drewN _)
    have HB4 : Hid (Blk W4 w.heap.size 87 #[.int .i64 a, .int .i64 i]) := hid (by rw [hW4]; exact HB1.out.drewN _)
    have HC4 : Hid (Stp M1 M2 w W4) := hid (by rw [hW4]; exact (Stp.of_below HS0.out hHB.out).drewN _)
    clear hW4 c2 z0 z1 hlk0
    have c0 := HS4.out.blk.cell 0; have c1 := HS4.out.blk.cell 1
    have z0 := HB4.out.cell 0; have z1 := HB4.out.cell 1
    simp only [List.getElem?_toArray, List.getElem?_cons_zero, List.getElem?_cons_succ] at c0 c1 z0 z1
    go_region_held3 (fun w' => w'.cell? ⟨s, 0, none⟩ = some (.int .i64 n) ∧ w'.cell? ⟨s, 1, none⟩ = some (.int .u64 F) ∧ w'.cell? ⟨w.heap.size, 0, none⟩ = some (.int .i64 a) ∧ w'.cell? ⟨w.heap.size, 1, none⟩ = some (.int .i64 i)) (first | assumption | exact ⟨c0, c1, z0, z1⟩ | go_keep)
      ((go_at_call 96; refine (HC.out _).mono ?_; rintro e w5 ⟨rfl, hb5⟩; have hk5 : w5.cell? ⟨s, 0, none⟩ = some (.int .i64 n) ∧ w5.cell? ⟨s, 1, none⟩ = some (.int .u64 F) ∧ w5.cell? ⟨w.heap.size, 0, none⟩ = some (.int .i64 a) ∧ w5.cell? ⟨w.heap.size, 1, none⟩ = some (.int .i64 i) := ⟨cell_keep hb5 c0, cell_keep hb5 c1, cell_keep hb5 z0, cell_keep hb5 z1⟩; have HS5 := hid (HS4.out.drew.below hb5); have HB5 := hid (HB4.out.drew.keep hb5); have HC5 := hid (HC4.out.drew.trans (Stp.of_below HS4.out.drew hb5)); clear hb5))
    go_wp2_with fail
    obtain ⟨w6, hrun, hput⟩ := HU.out w5.drew HS5.out.drew
    have hrun' : (Instr.mapUpdate 110 (.map (some M1)) (.agg #[.int .i64 a, .int .i64 i]) (.int .i64 0)).run Tryd.prog w5.drew = .ok () w6 := hrun
    have HS6 := hid (HS5.out.drew.done hput (by rw [HST.out]; intro h; cases h))
    have HC6 := hid (HC5.out.drew.trans (Stp.need HS5.out.drew hput))
    have hne : w.heap.size ≠ M1 := HS5.out.need.ne_blk HB5.out
    have HB6 := HB5.out.drew.grown hput.grown (by simpa using hne)
    clear hk5 z0 z1 c0 c1
    have c2 := HS5.out.blk.cell 2; have z0 := HB5.out.cell 0; have z1 := HB5.out.cell 1
    have d2 := HS6.out.blk.cell 2; have m0 := HB6.cell 0; have m1 := HB6.cell 1
    simp only [List.getElem?_toArray, List.getElem?_cons_zero, List.getElem?_cons_succ] at c2 z0 z1 d2 m0 m1
    clear hrun hput hne HB6
    go_region_held3 (fun w' => w'.cell? ⟨s, 2, none⟩ = some (.map (some M1)) ∧ w'.cell? ⟨w.heap.size, 0, none⟩ = some (.int .i64 a) ∧ w'.cell? ⟨w.heap.size, 1, none⟩ = some (.int .i64 i)) (first | assumption | exact ⟨c2, z0, z1⟩ | exact ⟨d2, m0, m1⟩ | go_keep)
      (fail)
    go_wp2
    go_ret
    refine ⟨by rw [HR0.out]; rfl, HC6.out, HS6.out, fun h => ?_⟩
    rw [HST.out] at h
    cases h

end Go.Proofs.YtjddbglbodkihaaDoor
