/- Walks of game.worst and of the reference's Worst. Conditions: the game's numbers are small; the slice reads as codes. -/
import Derived.Test.YtdclmhmdkhpekaaPickM
namespace Go.Proofs.Ytdclmhmdkhpekaa
open Go.RowKit Go.Maps

set_option maxRecDepth 100000 in
set_option maxHeartbeats 4000000 in
theorem worstS (p : Nat) (c : Int) (N : Nat) (A : Option Addr) (n cp : Nat) (l : List Int) (a : Int) (w : World) (hp : p ≤ 10) (hc1 : 1 ≤ c) (hc2 : c ≤ 6) (hs : Sl w A n cp (l.map (Value.int .i64))) (hl : ∀ x ∈ l, 0 ≤ x ∧ x ≤ 1000) (hn : n ≤ 1000) (ha : 0 ≤ a ∧ a ≤ 1000) :
    Calls Try.prog 69 #[.agg #[.int .i64 p, .int .i64 c, .int .i64 N], .slice A n cp, .int .i64 a] w fun e w' => e = .returned (.int .i64 (worstL c p l a)) ∧ Below w.heap.size w w' := by
  have hlen : l.length = n := by simpa using hs.len
  have HP := hid fun w1 (hb : Below w.heap.size w w1) => partsS p c N A n cp l a w1 hp hc1 hc2 (hs.below hb) hl hn ha
  have HLN := hid hlen
  have HB0 := hid ((Below.refl w.heap.size w).alloc (Nat.le_refl _) (.cells #[.int .i64 p, .int .i64 c, .int .i64 N] 68))
  clear hs hl hlen
  go_enter Try.func69, Try.ntmps69
  go_wp2_with fail
  refine (HP.out _ HB0.out).mono ?_; rintro e w1 ⟨rfl, hG, hb1⟩; have HB1 := hid (below_call HB0.out hb1 (by simp)); have hz1 := HB1.out.size; have HG : Hid (Grp w1 (w.heap.size + 1 + 1) (w.heap.size + 1 + 1 + 1) (partL c p l a)) := hid (by simpa using hG); clear hb1 hG
  go_wp2_with (at_range; refine wpList_range_grp _ rfl _ rfl rfl HG.out (fun m => (partL c p l a m).length ≤ 0) ?_; intro w2 cnt hrg hb2)
  go_frame
  have HB2 := hid (below_call HB1.out hb2 hz1)
  have HRG := hid hrg
  clear hb2 hrg
  go_loopg [7] cnt (fun g o wr => ∃ m : Nat, o = .int .i64 m ∧ m ≤ n ∧ Hid (m = 0 ∨ ∃ k, (partL c p l a k).length = m) ∧ Hid (Rng wr (w.heap.size + 1 + 1) w1.heap.size (w.heap.size + 1 + 1 + 1) (partL c p l a) g (fun k => (partL c p l a k).length ≤ m)) ∧ Hid (Below w.heap.size w wr))
  case atStart => exact ⟨0, rfl, Nat.zero_le _, hid (.inl rfl), HRG, HB2⟩
  case round =>
    obtain ⟨m, rfl, hmn, hex, HR, HW⟩ := hrel
    have HMN := hid hmn
    go_wp2_with (at_next; refine wpList_next_rng _ rfl _ rfl rfl HR.out ?_ ?_)
    · intro hdone
      have hW : worstL c p l a = m := (worst_is c p l a).one ⟨fun k => by
        by_cases hk : partL c p l a k = []
        · rw [hk]; simp
        · exact hdone k.1 k.2 hk, hex.out⟩
      have HE := hid hW
      clear hdone hW
      go_wp2
      go_ret
      exact ⟨by rw [HE.out]; rfl, HW.out⟩
    · intro mx my v w3 cnt' hlt hsm hne hg3 hz3 ho3 hen hR3
      obtain ⟨A3, c3, rfl⟩ := own_form ho3
      have hz := HW.out.size
      have HB3 := hid (HW.out.grown hg3 (by omega) (by intro j hj; simp at hj; omega))
      have HR3 := hid hR3
      have HLT := hid hlt
      have hle : (partL c p l a (mx, my)).length ≤ n := by have := part_len_le c p l a (mx, my); have := HLN.out; omega
      clear hg3 ho3 hR3 hlt hsm hne hmn
      have HLE := hid hle
      clear hle
      go_wp2
      case inl =>
        go_roundg cnt'
        case measure => exact HLT.out
        case rel => exact ⟨(partL c p l a (mx, my)).length, rfl, HLE.out, hid (.inr ⟨_, rfl⟩), hid (HR3.out.weak fun u hu => by
          rcases hu with h | rfl
          · exact Nat.le_trans h (by omega)
          · exact Nat.le_refl _), HB3⟩
      case inr =>
        go_roundg cnt'
        case measure => exact HLT.out
        case rel => exact ⟨m, rfl, HMN.out, hex, hid (HR3.out.weak fun u hu => by
          rcases hu with h | rfl
          · exact h
          · omega), HB3⟩

set_option maxRecDepth 100000 in
set_option maxHeartbeats 4000000 in
theorem refWorst (p : Nat) (c : Int) (A : Option Addr) (n cp : Nat) (l : List Int) (a : Int) (w : World) (hp : p ≤ 4) (hc1 : 1 ≤ c) (hc2 : c ≤ 6) (hs : Sl w A n cp (l.map (Value.int .i64))) (hl : ∀ x ∈ l, 0 ≤ x ∧ x ≤ 1000) (hn : n ≤ 1000) (ha : 0 ≤ a ∧ a ≤ 1000) :
    Calls Try.prog 47 #[.int .i64 p, .int .i64 c, .slice A n cp, .int .i64 a] w fun e w' => e = .returned (.int .i64 (worstL c p l a)) ∧ Below w.heap.size w w' := by
  have HP := hid (groupsS p c A n cp l a w hp hc1 hc2 hs hl hn ha)
  clear hs hl
  go_enter Try.func47, Try.ntmps47
  go_wp2_with (go_at_call 73; refine HP.out.mono ?_; rintro e w1 ⟨vs, rfl, hR, hb1⟩; have HR1 := hid hR; have HB1 := hid hb1; clear hb1 hR)
  go_loopg [9, 17] 25 (fun g o i wr => ∃ q : Nat, g + q = 25 ∧ i = .int .i64 q ∧ o = .int .i64 (wTo c p l a q) ∧ w1 = wr)
  case atStart => exact ⟨0, rfl, rfl, rfl, rfl⟩
  case round =>
    obtain ⟨q, hq, rfl, rfl, rfl⟩ := hrel
    have HQ := hid hq
    by_cases hq25 : q < 25
    · have hix := run_index96 vs q hq25
      have ho := HR1.out.own q hq25
      obtain ⟨Aq, cq, hv⟩ := own_form ho
      rw [hv] at hix
      clear hq ho hv
      go_wp2
      all_goals
        go_roundg (gk - 1)
        case measure => have := HQ.out; omega
        case rel => exact ⟨q + 1, by have := HQ.out; omega, by go_num, by simp only [wTo]; congr 2; omega, rfl⟩
    · obtain rfl : q = 25 := by omega
      clear hq
      go_wp2
      go_ret
      exact ⟨by rw [wTo_all hp hc1 hc2]; rfl, HB1.out⟩
end Go.Proofs.Ytdclmhmdkhpekaa
