/- Walk of slices.Repeat at one fraction, three times. Condition: the fraction stands in memory. -/
import Derived.Test.YtciadmjdadnolaaGreatDoorE11
import Derived.Test.YtciadmjdadnolaaGreatDoorE6
import Derived.Laws.IdiomCopy
import Derived.Laws.MakeOwn
namespace Go.Proofs.YtciadmjdadnolaaGreatDoor
open Go.RowKit Go.Maps
section
variable {P : Program}
/-- copy of elements of two cells. -/
theorem run_copy_two (w : World) (dT sT ty elem : TypeId) (b o dLen dCap : Nat) (a : Addr) (sLen sCap : Nat) (cs : List Value)
 (hu : P.underlying dT = some (.slice elem)) (hs : (P.info? elem).map (·.size) = some 2) (hn : cs.length = Nat.min sLen dLen * 2)
 (hsrc : ∀ j v, cs[j]? = some v → w.cell? (a.add j) = some v) (hc : ∀ j, j < cs.length → (w.cell? ⟨b, o + j, none⟩).isSome = true) (hf : ∀ j, j < cs.length → w.frozen? ⟨b, o + j, none⟩ = false) (h1 : ∀ v ∈ cs, v.oneCell' = true) :
 (Builtin.copy_ #[dT, sT] ty #[.slice (some ⟨b, o, none⟩) dLen dCap, .slice (some a) sLen sCap]).run P w = .ok (goInt (Nat.min sLen dLen)) (w.setCells b o cs) := by
 have hl := run_loadCells_list (P := P) w a cs hsrc
 have hst := run_storeCells_cells (P := P) b o cs 0 w (by simpa using hc) (by simpa using hf) h1
 cases hq : P.info? elem with
 | none => simp [hq] at hs
 | some i =>
  have hi : i.size = 2 := by simpa [hq] using hs
  simp [Builtin.copy_, run_underlying hu, Builtin.lenOf, Builtin.firstCells, sizeOf, typeInfo, hq, hi, ← hn, hl, hst]
end
/-- n fractions, the first d of them 0/1. -/
def repC (d : Nat) : Array Value := ((List.range 6).map fun i => if i % 2 = 1 ∧ i / 2 < d then Value.int .i64 1 else .int .i64 0).toArray
theorem repC_get (d i : Nat) (hi : i < 6) : (repC d)[i]? = some (if i % 2 = 1 ∧ i / 2 < d then Value.int .i64 1 else .int .i64 0) := by simp [repC, hi]
theorem repC_set (d : Nat) (hd : d < 3) : ((repC d).setIfInBounds (d * 2) (.int .i64 0)).setIfInBounds (d * 2 + 1) (.int .i64 1) = repC (d + 1) := by
 rcases (show d = 0 ∨ d = 1 ∨ d = 2 by omega) with rfl | rfl | rfl <;> rfl
theorem blk_rep {X : World} {g d : Nat} (h : Blk X g 176 (repC d)) (hd : d < 3) : Blk (X.setCells g (d * 2) [.int .i64 0, .int .i64 1]) g 176 (repC (d + 1)) := by
 have := (h.set (d * 2) (.int .i64 0)).set (d * 2 + 1) (.int .i64 1)
 rw [repC_set d hd] at this
 exact this
theorem rep_step {X : World} {g d : Nat} (h : Blk X g 176 (repC d)) (hd : d = 1 ∨ d = 2) (a c : Nat) : (Builtin.copy_ #[138, 138] 3 #[.slice (some ⟨g, d * 2, none⟩) (3 - d) c, .slice (some ⟨g, 0, none⟩) d a]).run Tryz.prog X = .ok (.int .i64 1) (X.setCells g (d * 2) [.int .i64 0, .int .i64 1]) := by
 have hadd : ∀ j, (⟨g, 0, none⟩ : Addr).add j = ⟨g, j, none⟩ := fun j => by unfold Addr.add; split <;> simp_all
 have := run_copy_two (P := Tryz.prog) X 138 138 3 176 g (d * 2) (3 - d) c ⟨g, 0, none⟩ d a [.int .i64 0, .int .i64 1] Tryz.underlying138 (by kernel_rfl) (by rcases hd with rfl | rfl <;> rfl) (fun j v hv => by
  rw [hadd, h.cell]
  match j, hv with
  | 0, hv => simp at hv; subst hv; rw [repC_get _ _ (by omega)]; simp
  | 1, hv => simp at hv; subst hv; rw [repC_get _ _ (by omega)]; rw [if_pos (by omega)]) (fun j hj => by
  rw [h.cell, repC_get _ _ (by simp at hj; omega)]; rfl) (fun j hj => h.free _) (by simp [Value.oneCell'])
 rw [this]
 rcases hd with rfl | rfl <;> rfl
set_option maxRecDepth 100000 in
set_option maxHeartbeats 2000000 in
theorem repF (b c : Nat) (w : World) (h0 : w.cell? ⟨b, 0, none⟩ = some (.int .i64 0)) (h1 : w.cell? ⟨b, 1, none⟩ = some (.int .i64 1)) :
 Calls Tryz.prog 144 #[.slice (some ⟨b, 0, none⟩) 1 c, .int .i64 3] w fun e w' => ∃ g, e = .returned (.slice (some ⟨g, 0, none⟩) 3 3) ∧ Blk w' g 176 (repC 3) ∧ w.heap.size ≤ g ∧ Below w.heap.size w w' := by
 have HMU := hid fun W => sh_bits_Mul 1 3 (by decide) (by decide) W
 obtain ⟨i0, hi, hz0, hz1, hz2⟩ := info_parts TF.inf
 have hmk := run_make (P := Tryz.prog) w 138 176 i0 (.agg #[.int .i64 0, .int .i64 0]) TF.und hi hz0 .i64 .i64 3 3 (by omega) (Int.le_refl _) (by rw [hz2]; decide) (by omega)
 have hmc : madeCells (Value.agg #[.int .i64 0, .int .i64 0]).cells ((3 : Int).toNat * i0.size) = repC 0 := by rw [hz1]; kernel_rfl
 rw [hmc] at hmk
 have ht : ((3 : Int)).toNat = 3 := rfl
 rw [ht] at hmk
 have hB0 := Blk.new w 176 (repC 0)
 have hcp := run_copy_two (P := Tryz.prog) (w.alloc (.cells (repC 0) 176)) 138 138 3 176 w.heap.size 0 3 3 ⟨b, 0, none⟩ 1 c [.int .i64 0, .int .i64 1] Tryz.underlying138 (by kernel_rfl) rfl (fun j v hv => by
  have hadd : ∀ j, (⟨b, 0, none⟩ : Addr).add j = ⟨b, j, none⟩ := fun j => by unfold Addr.add; split <;> simp_all
  rw [hadd]
  have hb := (Below.refl w.heap.size w).alloc (Nat.le_refl _) (.cells (repC 0) 176)
  match j, hv with
  | 0, hv => simp at hv; subst hv; exact cell_keep hb h0
  | 1, hv => simp at hv; subst hv; exact cell_keep hb h1) (fun j hj => by
  rw [hB0.cell, repC_get _ _ (by simp at hj; omega)]; rfl) (fun j hj => hB0.free _) (by simp [Value.oneCell'])
 have HB1 := hid (blk_rep hB0 (by omega))
 have HW1 := hid (show Below w.heap.size w ((w.alloc (.cells (repC 0) 176)).setCells w.heap.size 0 [.int .i64 0, .int .i64 1]) from (((Below.refl _ w).alloc (Nat.le_refl _) _).setCell (Nat.le_refl _) _).setCell (Nat.le_refl _) _)
 rw [show goInt (Nat.min 1 3) = Value.int .i64 1 from rfl] at hcp
 generalize hX1 : (w.alloc (.cells (repC 0) 176)).setCells w.heap.size 0 [.int .i64 0, .int .i64 1] = X1 at hcp HW1
 rw [show (0 : Nat) * 2 = 0 from rfl, hX1] at HB1
 clear hi hz0 hz1 hz2 hmc ht hB0 hX1 h0 h1
 go_enter Tryz.func144, Tryz.ntmps144
 go_wp2_with fail
 refine (HMU.out _).mono ?_; rintro e w1 ⟨rfl, rfl⟩
 simp only [show ((1 * 3 / 18446744073709551616 : Nat) : Int) = 0 from rfl, show ((1 * 3 % 18446744073709551616 : Nat) : Int) = 3 from rfl]
 go_wp2_with fail
 clear hcp hmk
 go_loopg [8] 2 (fun gk v wr => ∃ d : Nat, gk + d = 3 ∧ 1 ≤ d ∧ v = .int .i64 d ∧ Hid (Blk wr w1.heap.size 176 (repC d)) ∧ Hid (Below w1.heap.size w1 wr))
 case atStart => exact ⟨1, rfl, by omega, rfl, HB1, HW1⟩
 case round =>
  clear HB1 HW1
  obtain ⟨d, hd, hd1, rfl, HB, HW⟩ := hrel
  have HD := hid hd
  have HB2 := hid HB.out.drew
  have HW2 := hid HW.out.drew
  by_cases h3 : d = 3
  · subst h3
    go_wp2
    go_ret
    exact ⟨w1.heap.size, rfl, HB.out, Nat.le_refl _, HW.out⟩
  · have hcp := rep_step HB2.out (show d = 1 ∨ d = 2 by omega)
    have HB3 := hid (blk_rep HB2.out (by omega))
    have HW3 := hid (show Below w1.heap.size w1 (wr.drew.setCells w1.heap.size (d * 2) [.int .i64 0, .int .i64 1]) from (HW2.out.setCell (Nat.le_refl _) _).setCell (Nat.le_refl _) _)
    generalize wr.drew.setCells w1.heap.size (d * 2) [.int .i64 0, .int .i64 1] = X3 at *
    rcases (show d = 1 ∨ d = 2 by omega) with rfl | rfl
    · go_wp2_with fail
      go_region
      all_goals go_wp2
      go_roundg (gk - 1)
      case measure => have := HD.out; omega
      case rel => exact ⟨2, by have := HD.out; omega, by omega, rfl, HB3, HW3⟩
    · go_wp2_with fail
      go_region
      all_goals go_wp2
      go_roundg (gk - 1)
      case measure => have := HD.out; omega
      case rel => exact ⟨3, by have := HD.out; omega, by omega, rfl, HB3, HW3⟩
end Go.Proofs.YtciadmjdadnolaaGreatDoor
