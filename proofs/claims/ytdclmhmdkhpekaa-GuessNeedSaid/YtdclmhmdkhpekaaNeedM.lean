/- Plain laws of the least number of guesses: one hole, one colour, a colour more; the small games by the kernel. Condition: the numbers are a game of at most 27 codes. -/
import Derived.Test.YtdclmhmdkhpekaaPegsL
namespace Go.Proofs.Ytdclmhmdkhpekaa

theorem solves_mono_le {c : Int} {p N n m : Nat} (h : n ≤ m) {l : List Int} (hs : solvesL c p N n l = true) : solvesL c p N m l = true := by
  induction h with
  | refl => exact hs
  | step _ ih => exact solves_mono _ _ _ _ _ ih
theorem Needs.le {c : Int} {p N n k : Nat} (h : Needs c p N n) (hk : 1 ≤ k) (hs : solvesL c p N k (upto N) = true) : n ≤ k := by
  rcases Nat.lt_or_ge k n with g | g
  · rw [h.no k hk g] at hs; cases hs
  · exact g
theorem Needs.gt {c : Int} {p N n k : Nat} (h : Needs c p N n) (hs : solvesL c p N k (upto N) = false) : k < n := by
  rcases Nat.lt_or_ge k n with g | g
  · exact g
  · have := solves_mono_le g h.yes
    rw [hs] at this; cases this
theorem hole_all : solvesL 1 1 1 0 (upto 1) = false ∧ solvesL 2 1 2 1 (upto 2) = false ∧ solvesL 3 1 3 2 (upto 3) = false ∧ solvesL 4 1 4 3 (upto 4) = false ∧ solvesL 5 1 5 4 (upto 5) = false ∧ solvesL 6 1 6 5 (upto 6) = false := by decide +kernel
theorem need_facts : solvesL 2 2 4 3 (upto 4) = true ∧ solvesL 3 2 9 2 (upto 9) = false ∧ solvesL 3 2 9 3 (upto 9) = true ∧ solvesL 4 2 16 2 (upto 16) = false ∧ solvesL 4 2 16 4 (upto 16) = true ∧ solvesL 2 3 8 3 (upto 8) = true ∧ solvesL 3 3 27 2 (upto 27) = false ∧ solvesL 5 2 25 3 (upto 25) = false := by decide +kernel
theorem need_hole {c : Int} {n N : Nat} (hc1 : 1 ≤ c) (hc6 : c ≤ 6) (hN : (N : Int) = pw c 1) (h : Needs c 1 N n) : (n : Int) = c := by
  have G : Game c 1 N := ⟨hc1, hc6, hN⟩
  simp only [pw] at hN
  have h1 := G.need_le h (by omega)
  have h2 : (c : Int) ≤ n := by
    obtain ⟨a1, a2, a3, a4, a5, a6⟩ := hole_all
    rcases (show (c = 1 ∧ N = 1) ∨ (c = 2 ∧ N = 2) ∨ (c = 3 ∧ N = 3) ∨ (c = 4 ∧ N = 4) ∨ (c = 5 ∧ N = 5) ∨ (c = 6 ∧ N = 6) by omega) with ⟨rfl, rfl⟩ | ⟨rfl, rfl⟩ | ⟨rfl, rfl⟩ | ⟨rfl, rfl⟩ | ⟨rfl, rfl⟩ | ⟨rfl, rfl⟩
    · have := h.gt a1; omega
    · have := h.gt a2; omega
    · have := h.gt a3; omega
    · have := h.gt a4; omega
    · have := h.gt a5; omega
    · have := h.gt a6; omega
  omega
theorem Game.need_one {c : Int} {p N n : Nat} (G : Game c p N) (h : Needs c p N n) : n = 1 ↔ N ≤ 1 := by
  constructor
  · rintro rfl
    rcases Nat.eq_zero_or_pos N with g | g
    · omega
    · have hl : upto N ≠ [] := by intro e; have := upto_len N; rw [e] at this; simp at this; omega
      obtain ⟨a, ha, hall⟩ := (solves_succ hl).1 h.yes
      have := (rise_upto N).all_same (a := a) fun b hb => by
        rcases hall b hb with h1 | h1
        · exact (G.same (mem_upto.1 ha) (mem_upto.1 hb)).1 h1
        · simp only [solvesL, List.isEmpty_iff] at h1
          have h2 : b ∈ partL c p (upto N) a (mrk c p a b) := mem_part.2 ⟨hb, rfl⟩
          rw [h1] at h2
          cases h2
      rw [upto_len] at this
      exact this
  · intro hN
    have := h.pos
    rcases Nat.eq_zero_or_pos N with g | g
    · subst g
      have : n ≤ 1 := h.le (by omega) (by exact solves_nil _ _ _ _)
      omega
    · have := G.need_le h g
      omega
theorem pw_one (p : Nat) : pw 1 p = 1 := by induction p with
  | zero => rfl
  | succ n ih => simp [pw, ih]
theorem pw_ge {c : Int} (hc : 2 ≤ c) : ∀ p : Nat, 1 ≤ p → 2 ≤ pw c p := by
  intro p
  induction p with
  | zero => intro h; omega
  | succ n ih =>
    intro _
    simp only [pw]
    rcases Nat.eq_zero_or_pos n with g | g
    · subst g; simp only [pw]; omega
    · have h1 := ih g
      have := Int.mul_le_mul h1 hc (by omega) (by omega)
      omega
/-- A colour more needs no fewer guesses. -/
theorem need_more {c : Int} {p N M n m : Nat} (hp1 : 1 ≤ p) (hp4 : p ≤ 4) (hc1 : 1 ≤ c) (hc5 : c + 1 ≤ 6) (hN : (N : Int) = pw c p) (hM : (M : Int) = pw (c + 1) p) (hM27 : M ≤ 27)
    (h : Needs c p N n) (k : Needs (c + 1) p M m) : n ≤ m := by
  have G : Game c p N := ⟨hc1, by omega, hN⟩
  obtain ⟨f1, f2, f3, f4, f5, f6, f7, f8⟩ := need_facts
  rcases (show p = 1 ∨ p = 2 ∨ p = 3 ∨ p = 4 by omega) with rfl | rfl | rfl | rfl
  · have h1 := need_hole hc1 (by omega) hN h
    have h2 := need_hole (by omega) hc5 hM k
    omega
  all_goals
    by_cases e1 : c = 1
    · subst e1
      rw [pw_one] at hN
      have h1 := (G.need_one h).2 (by omega)
      have h2 := k.pos
      omega
  · simp only [pw] at hN hM
    rcases (show c = 2 ∨ c = 3 ∨ c = 4 ∨ c = 5 by omega) with rfl | rfl | rfl | rfl
    · obtain rfl : N = 4 := by omega
      obtain rfl : M = 9 := by omega
      have h1 := h.le (by omega) f1
      have h2 := Needs.gt (c := 3) k f2
      omega
    · obtain rfl : N = 9 := by omega
      obtain rfl : M = 16 := by omega
      have h1 := h.le (by omega) f3
      have h2 := Needs.gt (c := 4) k f4
      omega
    · obtain rfl : N = 16 := by omega
      obtain rfl : M = 25 := by omega
      have h1 := h.le (by omega) f5
      have h2 := Needs.gt (c := 5) k f8
      omega
    · omega
  · simp only [pw] at hN hM
    rcases (show c = 2 ∨ c = 3 ∨ c = 4 ∨ c = 5 by omega) with rfl | rfl | rfl | rfl
    · obtain rfl : N = 8 := by omega
      obtain rfl : M = 27 := by omega
      have h1 := h.le (by omega) f6
      have h2 := Needs.gt (c := 3) k f7
      omega
    · omega
    · omega
    · omega
  · simp only [pw] at hN hM
    rcases (show c = 2 ∨ c = 3 ∨ c = 4 ∨ c = 5 by omega) with rfl | rfl | rfl | rfl <;> omega
end Go.Proofs.Ytdclmhmdkhpekaa
