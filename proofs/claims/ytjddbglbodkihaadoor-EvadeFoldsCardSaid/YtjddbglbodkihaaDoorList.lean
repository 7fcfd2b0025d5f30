/- Walks of family.list, closed, kept and collect. Conditions: a family of at most six elements; the table of the library stands. -/
import Derived.Test.YtjddbglbodkihaaDoorWord
namespace Go.Proofs.YtjddbglbodkihaaDoor
open Go.RowKit
attribute [local go_sem ↓] shl_p2 shl_u or_u shr_u and_shrF

set_option maxRecDepth 100000 in
set_option maxHeartbeats 1000000 in
theorem listF (n : Int) (F : Nat) (w : World) (hF : F < 18446744073709551616) (hT : Tab w) :
    Calls Tryd.prog 61 #[.agg #[.int .i64 n, .int .u64 F]] w fun e w' => ∃ A c, e = .returned (.slice A (famL 64 F.testBit).length c) ∧ w'.ownsRow w.heap.size 3 1 (.slice A (famL 64 F.testBit).length c) (famL 64 F.testBit).length ((famL 64 F.testBit).map (Value.int .i64)) ∧ Below w.heap.size w w' := by
  have HT := hid fun W (hb : Below w.heap.size w W) => hT.below hb
  clear hT
  go_enter Tryd.func61, Tryd.ntmps61
  go_wp2
  go_loopg [3, 4] 64 (fun g v s wr => ∃ (k S : Nat), g + k = 64 ∧ s = .int .u64 S ∧ hiB F k S ∧ (∃ A c, v = .slice A (famL k F.testBit).length c ∧ Hid (wr.ownsRow w.heap.size 3 1 (.slice A (famL k F.testBit).length c) (famL k F.testBit).length ((famL k F.testBit).map (Value.int .i64)))) ∧ Hid (Below w.heap.size w wr))
  case atStart => exact ⟨0, F, rfl, rfl, hiB_zero F, ⟨none, 0, rfl, hid (World.ownsRow_nil _ _ _ _)⟩, hid ((Below.refl _ _).alloc (Nat.le_refl _) _)⟩
  case round =>
    obtain ⟨k, S, hk, rfl, hS, ⟨A, c, rfl, hO⟩, hb⟩ := hrel
    have HK := hid hk
    have hS64 := sub_lt64 hS hF
    have hz := hb.out.size
    by_cases h0 : S = 0
    · subst h0
      have HE := hid (hiB_end hS (by omega))
      clear hk hS
      go_wp2
      go_ret
      refine ⟨A, c, by rw [HE.out]; rfl, ?_, hb.out⟩
      rw [HE.out]; exact hO.out
    · obtain ⟨s1, s2, s3, s4⟩ := hiB_step hS h0 hS64
      have g1 : ((S : Int) != 0) = true := by simp; omega
      have HP := hid (pop_v (S := S) ⟨hS64, by omega⟩)
      have hlen := famL_len k F.testBit
      have HZ := hid (tz64 S hS64 wr (HT.out wr hb.out))
      have HS3 := hid s3; have HS4 := hid s4
      have HLE := hid s1; have HLT := hid s2
      have hk64 : (famL k F.testBit).length ≤ 64 := by omega
      have HKB := hid hk64
      clear hk hS s1 s2 s3 s4 hlen h0 hk64
      generalize Lib.ctz 64 S = m at *
      go_wp2_with (first
        | (go_at_call 93; refine HZ.out.mono ?_; rintro e w1 ⟨rfl, rfl⟩; have q1 := HKB.out)
        | (at_builtin; refine push1 TI22 wr #[.int .i64 (m : Int)] _ _ _ _ hO.out _ _ rfl rfl rfl rfl rfl (by simp [Value.oneCell']) (by omega) (by omega) hz ?_; intro v1 w3 hown1 hgr; have hb1 : Below w.heap.size w w3 := below_push hb.out hO.out hgr hz (Nat.le_refl _); obtain ⟨A1, c1, rfl⟩ := own_form hown1; have HO3 := hid hown1; have HB3 := hid hb1; clear hown1 hgr hb1))
      go_roundg (64 - (m + 1))
      case measure => have := HK.out; have := HLE.out; have := HLT.out; omega
      case rel =>
        have hl2 : (famL (m + 1) F.testBit).length = (famL k F.testBit).length + 1 := by rw [HS4.out]; simp
        refine ⟨m + 1, popF S, by have := HLT.out; omega, by rw [HP.out], HS3.out, ⟨A1, c1, by rw [hl2], ?_⟩, HB3⟩
        rw [hl2, HS4.out]
        exact hid (by simpa using HO3.out)
end Go.Proofs.YtjddbglbodkihaaDoor
