/- Walk of planchettop's takes. Condition: the library's variables stand. -/
import Derived.Test.YtflepjgcpdaodaaGreatDoorT1
import Derived.Test.YtflepjgcpdaodaaGreatDoorO37
namespace Go.Proofs.YtflepjgcpdaodaaGreatDoor
open Go.RowKit Go.Maps
theorem run_gold : runD bk0 [] ([sMGold].take 60) = (sG, [sMGold]) := by
 show (if (doL bk0 sMGold).2 ≠ 0 then runD bk0 [] [] else runD (doL bk0 sMGold).1 ([] ++ [sMGold]) []) = (sG, [sMGold])
 rw [doL_gold]
 rfl
set_option maxRecDepth 100000 in
set_option maxHeartbeats 4000000 in
theorem takesF (w : World) (he : EnvN w) (hT : Tab w) :
 Calls Tryz.prog 10 #[] w fun e w' => e = .returned (.bool true) ∧ Below w.heap.size w w' := by
 have hb := (Below.refl w.heap.size w).alloc (Nat.le_refl _) (.cells #[.string sMGold] 9)
 have HB0 := hid hb
 have HT := hid hT
 have HE := hid he
 have hs : Sl (w.alloc (.cells #[.string sMGold] 9)) (some ⟨w.heap.size, 0, none⟩) 1 1 (strV [sMGold]) := Sl.of_own (blk_own (base := 0) (Blk.new w 9 #[.string sMGold]) (Nat.zero_le _) rfl (by omega))
 have hof := openedT (w.alloc (.cells #[.string sMGold] 9)) (some ⟨w.heap.size, 0, none⟩) 1 1 [sMGold] (he.keep hb) (hT.below hb) hs (fun x hx => by simp at hx; subst hx; decide)
 rw [run_gold] at hof
 have HOF := hid hof
 unfold sMGold at HOF
 clear hof hs hb he hT
 go_enter Tryz.func10, Tryz.ntmps10
 go_wp2_with fail
 refine (HOF.out).mono ?_; rintro e w1 ⟨K, m, A, c, L, rfl, hop⟩
 obtain ⟨R, d, hmm, hft⟩ := hop.mm
 have hlow := below_call HB0.out hop.low HB0.out.size
 have HB1 := hid hlow
 have hrq := mintRollQ R m d L 1 _ false w1 hmm (HE.out.keep hlow) (HT.out.below hlow)
 unfold AskR sRoll2 at hrq
 have HA := hid hrq
 clear hop hmm hft hlow hrq HOF
 go_wp2_with fail
 refine (HA.out).mono ?_; rintro e w4 ⟨rfl, b4⟩
 have HB4 := hid (below_call HB1.out b4 HB1.out.size)
 clear b4 HA
 go_wp2
 go_ret
 exact ⟨rfl, HB4.out⟩
end Go.Proofs.YtflepjgcpdaodaaGreatDoor
