/- Walk of isName: small letters, one to eight of them. No condition. -/
import Derived.Test.YtkjinamjdjijcaaGreatDoorMint
namespace Go.Proofs.YtkjinamjdjijcaaGreatDoor
open Go.RowKit Go.Maps

/-- Is a byte no small letter? -/
def notLow (b : UInt8) : Bool := decide (b.toNat < 97) || decide (122 < b.toNat)
/- The rune that stands at a place is a small letter just where the byte is one; then it is one byte wide. -/
theorem below_iter (w : World) (s : ByteArray) (pos : Nat) : Below w.heap.size w (w.iter s pos) := (Below.refl _ w).alloc (Nat.le_refl _) _
theorem low_rune (s : ByteArray) (pos : Nat) (h : pos < s.size) : (notLow (s[pos]'h) = true ∧ ((Utf8.decode s pos).1 < 97 ∨ 122 < (Utf8.decode s pos).1)) ∨ (notLow (s[pos]'h) = false ∧ (Utf8.decode s pos) = ((s[pos]'h).toNat, 1) ∧ 97 ≤ (s[pos]'h).toNat ∧ (s[pos]'h).toNat ≤ 122) := by
  unfold notLow
  by_cases ha : (s[pos]'h).toNat < 128
  · rw [decode_ascii s pos h ha]
    by_cases h1 : (s[pos]'h).toNat < 97
    · exact .inl ⟨by simp [h1], .inl (by simp; omega)⟩
    · by_cases h2 : 122 < (s[pos]'h).toNat
      · exact .inl ⟨by simp [h2], .inr (by simp; omega)⟩
      · exact .inr ⟨by simp [h1, h2], rfl, by omega, by omega⟩
  · have := (decode_high s pos h (by omega)).1
    exact .inl ⟨by simp; omega, .inr (by omega)⟩
set_option maxRecDepth 100000 in
set_option maxHeartbeats 1000000 in
theorem nameF (s : ByteArray) (q : Bool) (w : World) (hq : q = true ↔ ((∀ i (h : i < s.size), notLow (s[i]'h) = false) ∧ 0 < s.size ∧ s.size ≤ 8)) (hsz : s.size ≤ 1000000000) :
    Calls Tryz.prog 78 #[.string s] w fun e w' => e = .returned (.bool q) ∧ Below w.heap.size w w' := by
  have HQ := hid hq
  clear hq
  go_enter Tryz.func78, Tryz.ntmps78
  go_wp2
  go_loopg [4] s.size (fun gk r wr => ∃ pos : Nat, gk + pos = s.size ∧ wr = w.iter s pos ∧ Hid (∀ i (h : i < s.size), i < pos → notLow (s[i]'h) = false))
  case atStart => exact ⟨0, by omega, rfl, hid fun i _ h => absurd h (by omega)⟩
  case round =>
    obtain ⟨pos, hp, hw, HN⟩ := hrel
    subst hw
    have HP := hid hp
    by_cases hlt : pos < s.size
    · have HLT := hid hlt
      have hnx : ∀ ty, (Instr.next (.pointer (some ⟨w.heap.size, 0, none⟩)) true ty).run Tryz.prog (w.iter s pos) = _ := fun ty => run_next_any w s pos ty hlt
      have HLR := hid (low_rune s pos hlt)
      have hd2 : 1 ≤ (Utf8.decode s pos).2 ∧ True := ⟨by
        by_cases ha : (s[pos]'hlt).toNat < 128
        · rw [decode_ascii s pos hlt ha]; exact Nat.le_refl _
        · exact (decode_high s pos hlt (by omega)).2, trivial⟩
      rcases HLR.out with ⟨hn, hr | hr⟩ | ⟨hn, hr, hr1, hr2⟩
      · have hq : q = false := by
          cases q
          · rfl
          · have := (HQ.out.1 rfl).1 pos hlt; rw [hn] at this; cases this
        subst hq
        clear hn hd2 hp HLR
        generalize Utf8.decode s pos = d at *
        have g1 : decide ((d.1 : Int) < 97) = true := decide_eq_true (by omega)
        go_wp2
        go_ret
        exact ⟨rfl, below_iter _ _ _⟩
      · have hq : q = false := by
          cases q
          · rfl
          · have := (HQ.out.1 rfl).1 pos hlt; rw [hn] at this; cases this
        subst hq
        clear hn hd2 hp HLR
        generalize Utf8.decode s pos = d at *
        have g1 : decide ((d.1 : Int) < 97) = false := decide_eq_false (by omega)
        have g2 : decide ((122 : Int) < d.1) = true := decide_eq_true (by omega)
        have g3 : decide (122 < d.1) = true := decide_eq_true (by omega)
        go_wp2
        go_ret
        exact ⟨rfl, below_iter _ _ _⟩
      · have HN2 := hid (show ∀ i (h : i < s.size), i < pos + 1 → notLow (s[i]'h) = false from fun i h hi => by
          by_cases e : i = pos
          · subst e; exact hn
          · exact HN.out i h (by omega))
        rw [hr] at hnx
        have HR := hid hr
        clear hn hd2 hp HLR hr HN
        generalize (s[pos]'hlt).toNat = b at *
        have g1 : decide ((b : Int) < 97) = false := decide_eq_false (by omega)
        have g2 : decide ((122 : Int) < b) = false := decide_eq_false (by omega)
        have g3 : decide (122 < b) = false := decide_eq_false (by omega)
        have g4 : decide (b < 97) = false := decide_eq_false (by omega)
        go_wp2
        go_roundg (gk - 1)
        case measure => have := HP.out; have := HLT.out; omega
        case rel => exact ⟨pos + 1, by have := HP.out; have := HLT.out; omega, rfl, HN2⟩
    · have hnx : ∀ ty, (Instr.next (.pointer (some ⟨w.heap.size, 0, none⟩)) true ty).run Tryz.prog (w.iter s pos) = _ := fun ty => run_next_end w s pos ty hlt
      have HA := hid (show ∀ i (h : i < s.size), notLow (s[i]'h) = false from fun i h => HN.out i h (by omega))
      have hqe : q = (decide (0 < s.size) && decide (s.size ≤ 8)) := by
        rw [Bool.eq_iff_iff, HQ.out, Bool.and_eq_true, decide_eq_true_iff, decide_eq_true_iff]
        exact ⟨fun h => h.2, fun h => ⟨HA.out, h.1, h.2⟩⟩
      have hsl : s.toList.length = s.size := by rw [ByteArray.toList_eq]; simp
      by_cases h0 : s.size = 0
      · have hnil : s.toList = [] := List.eq_nil_of_length_eq_zero (by omega)
        have hq : q = false := by rw [hqe]; simp [h0]
        subst hq
        clear hqe hp
        go_wp2
        go_ret
        exact ⟨rfl, below_iter _ _ _⟩
      · have hne : ¬ s.toList = [] := fun e => by rw [e] at hsl; simp at hsl; omega
        by_cases h8 : s.size ≤ 8
        · have hq : q = true := by rw [hqe]; simp; omega
          subst hq
          have g5 : decide ((s.size : Int) ≤ 8) = true := decide_eq_true (by omega)
          clear hqe hp
          have he : s.toList.isEmpty = false := by cases hl : s.toList with | nil => exact absurd hl hne | cons _ _ => rfl
          go_wp2
          go_ret
          exact ⟨rfl, below_iter _ _ _⟩
        · have hq : q = false := by rw [hqe]; simp; omega
          subst hq
          have g5 : decide ((s.size : Int) ≤ 8) = false := decide_eq_false (by omega)
          clear hqe hp
          go_wp2
          go_ret
          exact ⟨rfl, below_iter _ _ _⟩
end Go.Proofs.YtkjinamjdjijcaaGreatDoor
