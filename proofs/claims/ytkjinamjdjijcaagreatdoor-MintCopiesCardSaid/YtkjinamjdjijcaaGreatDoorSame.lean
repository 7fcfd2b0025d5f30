/- Walk of same: copies and the reference's with the same contents are the same. No condition. -/
import Derived.Test.YtkjinamjdjijcaaGreatDoorBoth
namespace Go.Proofs.YtkjinamjdjijcaaGreatDoor
open Go.RowKit Go.Maps

set_option maxRecDepth 100000 in
set_option maxHeartbeats 8000000 in
theorem sameF (n : Nat) (hn : n ≤ 1000) (w W : World) (N : Nat) (hN : N ≤ 5) (A : Option Addr) (c : Nat) (R : Option Addr) (d : Nat) (L : List (Nat × Nat)) (M : List Nat) (st : Nat → CSt) (h : Both w W N A c R d L M st st) :
    Calls Tryz.prog 7 #[.slice A N c, .slice R N d, .int .i64 n] W fun x w' => x = .returned (.bool true) ∧ Below W.heap.size W w' := by
  have HS := hid h
  clear h
  go_enter Tryz.func7, Tryz.ntmps7
  go_wp2
  go_loopg [20] N (fun gk i wr => ∃ q : Nat, gk + q = N ∧ i = .int .i64 q ∧ Hid (Both w wr N A c R d L M st st) ∧ Hid (Below W.heap.size W wr))
  case atStart => exact ⟨0, by omega, rfl, HS, hid (Below.refl _ _)⟩
  case round =>
    clear HS
    obtain ⟨q, hq, rfl, HS, HB⟩ := hrel
    have HQ := hid hq
    by_cases hlt : q < N
    · have HLT := hid hlt
      obtain ⟨p, hp, hcp, b1, o1, rfl, ca⟩ := HS.out.atA hlt
      obtain ⟨b, hb, hrf, b2, o2, rfl, cr⟩ := HS.out.atR hlt
      have HK := hid (markF p.1 p.2 _ _ _ wr hcp)
      have r0 := hrf.c0
      have r1 := hrf.c1
      have hcapA := (Sl.of_own HS.out.ownA).cap
      have hcapR := (Sl.of_own HS.out.ownR).cap
      have HP := hid hp
      have HBB := hid hb
      clear hq hcp hrf hp hb
      cases haw : (st q).away
      · rw [haw] at HK r0
        simp only [Bool.not_false] at r0
        unfold mrkR at HK
        simp only [Bool.false_eq_true, if_false] at HK
        clear haw
        go_wp2_with fail
        refine (HK.out).mono ?_; rintro x w' ⟨rfl, rfl⟩
        clear HK
        go_wp2
        go_loopg [71] n (fun gk2 i wr2 => ∃ j : Nat, gk2 + j = n ∧ i = .int .i64 j ∧ Hid (Both w wr2 N (some ⟨b1, o1, none⟩) c (some ⟨b2, o2, none⟩) d L M st st) ∧ Hid (Below W.heap.size W wr2))
        case atStart => exact ⟨0, by omega, rfl, HS, HB⟩
        case round =>
          clear HS HB r0 r1 ca cr
          obtain ⟨j, hj, rfl, HS, HB⟩ := hrel
          have HJ := hid hj
          by_cases hlt2 : j < n
          · have HLT2 := hid hlt2
            have HG := hid (getF (j : Int) p.1 p.2 _ _ _ wr (HS.out.cp q p HP.out).1)
            clear hj
            go_wp2_with fail
            refine (HG.out).mono ?_; rintro x w3 ⟨rfl, bb3⟩
            have HS3 := hid (HS.out.keep bb3)
            have HB3 := hid (below_call HB.out bb3 HB.out.size)
            have HG2 := hid (refGetF (j : Int) b _ _ _ w3 (HS3.out.rf q b HBB.out).1)
            obtain ⟨p', hp', _, b1', o1', hA', ca⟩ := HS3.out.atA HLT.out
            obtain ⟨b', hb', _, b2', o2', hR', cr⟩ := HS3.out.atR HLT.out
            obtain rfl := Option.some.inj (HP.out.symm.trans hp')
            obtain rfl := Option.some.inj (HBB.out.symm.trans hb')
            cases hA'
            cases hR'
            clear bb3 HG HS HB hp' hb'
            generalize getR (st q).away (st q).e (j : Int) = g at *
            go_wp2_with fail
            refine (HG2.out).mono ?_; rintro x w4 ⟨rfl, bb4⟩
            have HS4 := hid (HS3.out.keep bb4)
            have HB4 := hid (below_call HB3.out bb4 HB3.out.size)
            clear bb4 HG2 HS3 HB3 ca cr
            go_wp2
            go_roundg (gk - 1)
            case measure => have := HJ.out; have := HLT2.out; omega
            case rel => exact ⟨j + 1, by have := HJ.out; have := HLT2.out; omega, by go_num, HS4, HB4⟩
          · obtain rfl : j = n := by have := HJ.out; omega
            clear hj hlt2
            go_wp2
            go_roundg (N - (q + 1))
            case measure => have := HQ.out; have := HLT.out; omega
            case rel => exact ⟨q + 1, by have := HQ.out; have := HLT.out; omega, by go_num, HS, HB⟩
      · rw [haw] at HK r0
        simp only [Bool.not_true] at r0
        unfold mrkR at HK
        simp only [if_true] at HK
        clear haw
        go_wp2_with fail
        refine (HK.out).mono ?_; rintro x w' ⟨rfl, rfl⟩
        clear HK
        go_wp2
        go_loopg [71] n (fun gk2 i wr2 => ∃ j : Nat, gk2 + j = n ∧ i = .int .i64 j ∧ Hid (Both w wr2 N (some ⟨b1, o1, none⟩) c (some ⟨b2, o2, none⟩) d L M st st) ∧ Hid (Below W.heap.size W wr2))
        case atStart => exact ⟨0, by omega, rfl, HS, HB⟩
        case round =>
          clear HS HB r0 r1 ca cr
          obtain ⟨j, hj, rfl, HS, HB⟩ := hrel
          have HJ := hid hj
          by_cases hlt2 : j < n
          · have HLT2 := hid hlt2
            have HG := hid (getF (j : Int) p.1 p.2 _ _ _ wr (HS.out.cp q p HP.out).1)
            clear hj
            go_wp2_with fail
            refine (HG.out).mono ?_; rintro x w3 ⟨rfl, bb3⟩
            have HS3 := hid (HS.out.keep bb3)
            have HB3 := hid (below_call HB.out bb3 HB.out.size)
            have HG2 := hid (refGetF (j : Int) b _ _ _ w3 (HS3.out.rf q b HBB.out).1)
            obtain ⟨p', hp', _, b1', o1', hA', ca⟩ := HS3.out.atA HLT.out
            obtain ⟨b', hb', _, b2', o2', hR', cr⟩ := HS3.out.atR HLT.out
            obtain rfl := Option.some.inj (HP.out.symm.trans hp')
            obtain rfl := Option.some.inj (HBB.out.symm.trans hb')
            cases hA'
            cases hR'
            clear bb3 HG HS HB hp' hb'
            generalize getR (st q).away (st q).e (j : Int) = g at *
            go_wp2_with fail
            refine (HG2.out).mono ?_; rintro x w4 ⟨rfl, bb4⟩
            have HS4 := hid (HS3.out.keep bb4)
            have HB4 := hid (below_call HB3.out bb4 HB3.out.size)
            clear bb4 HG2 HS3 HB3 ca cr
            go_wp2
            go_roundg (gk - 1)
            case measure => have := HJ.out; have := HLT2.out; omega
            case rel => exact ⟨j + 1, by have := HJ.out; have := HLT2.out; omega, by go_num, HS4, HB4⟩
          · obtain rfl : j = n := by have := HJ.out; omega
            clear hj hlt2
            go_wp2
            go_roundg (N - (q + 1))
            case measure => have := HQ.out; have := HLT.out; omega
            case rel => exact ⟨q + 1, by have := HQ.out; have := HLT.out; omega, by go_num, HS, HB⟩
    · obtain rfl : q = N := by have := HQ.out; omega
      clear hq hlt
      go_wp2
      go_ret
      exact ⟨rfl, HB.out⟩
end Go.Proofs.YtkjinamjdjijcaaGreatDoor
