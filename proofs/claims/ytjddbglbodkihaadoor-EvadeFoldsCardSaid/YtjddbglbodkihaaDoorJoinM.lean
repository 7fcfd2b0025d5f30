/- Plain laws of joins and of parts of families. No condition. -/
import Derived.Test.YtjddbglbodkihaaDoorSumM
namespace Go.Proofs.YtjddbglbodkihaaDoor

theorem low_bit (s n y : Nat) : (s &&& (2 ^ n - 1)).testBit y = (s.testBit y && decide (y < n)) := by
  rw [Nat.testBit_and, Nat.testBit_two_pow_sub_one]
theorem join_low {n x u : Nat} (hx : x < 2 ^ n) : (x ||| (u <<< n)) &&& (2 ^ n - 1) = x := by
  apply bits_ext
  intro y
  rw [low_bit, Nat.testBit_or, Nat.testBit_shiftLeft]
  by_cases h : y < n
  · have h2 : ¬ y ≥ n := by omega
    simp [h, h2]
  · have : x.testBit y = false := by
      cases e : x.testBit y
      · rfl
      · exact absurd (bit_lt hx e) h
    simp [h, this]
theorem join_high {n x u : Nat} (hx : x < 2 ^ n) : (x ||| (u <<< n)) >>> n = u := by
  apply bits_ext
  intro y
  rw [Nat.testBit_shiftRight, Nat.testBit_or, Nat.testBit_shiftLeft]
  have : x.testBit (n + y) = false := by
    cases e : x.testBit (n + y)
    · rfl
    · have := bit_lt hx e; omega
  simp [this]
theorem join_split (s n : Nat) : (s &&& (2 ^ n - 1)) ||| ((s >>> n) <<< n) = s := by
  apply bits_ext
  intro y
  rw [Nat.testBit_or, low_bit, Nat.testBit_shiftLeft, Nat.testBit_shiftRight]
  by_cases h : y < n
  · have : ¬ y ≥ n := by omega
    simp [h, this]
  · have h2 : y ≥ n := by omega
    simp [h, h2, show n + (y - n) = y by omega]
theorem join_lt {n m x u : Nat} (hx : x < 2 ^ n) (hu : u < 2 ^ m) : x ||| (u <<< n) < 2 ^ (n + m) := by
  apply lt_of_bits
  intro y hy
  rw [Nat.testBit_or, Nat.testBit_shiftLeft] at hy
  rcases orE hy with h | h
  · have := bit_lt hx h; omega
  · obtain ⟨h1, h2⟩ := andE h
    have := bit_lt hu h2
    simp at h1
    omega
def joinP (n F G s : Nat) : Bool := F.testBit (s &&& (2 ^ n - 1)) && G.testBit (s >>> n)
def joinR (n : Nat) (f g : List Int) (s : Nat) : Bool := f.any fun x => g.any fun u => (x.toNat ||| (u.toNat <<< n)) == s
theorem join_ref {n : Nat} {f g : List Int} (hf : ∀ x ∈ f, 0 ≤ x ∧ x < (2 ^ n : Nat)) (hg : ∀ x ∈ g, 0 ≤ x) (s : Nat) : joinR n f g s = joinP n (setF f) (setF g) s := by
  unfold joinR joinP
  rw [Bool.eq_iff_iff, List.any_eq_true, Bool.and_eq_true]
  constructor
  · rintro ⟨x, hx, h⟩
    rw [List.any_eq_true] at h
    obtain ⟨u, hu, e⟩ := h
    have e := beq_iff_eq.1 e
    have hx1 := hf x hx
    have hlt : x.toNat < 2 ^ n := by omega
    rw [← e, join_low hlt, join_high hlt]
    exact ⟨(setF_mem (fun x hx => (hf x hx).1) _).2 (by rw [show ((x.toNat : Nat) : Int) = x by omega]; exact hx), (setF_mem hg _).2 (by rw [show ((u.toNat : Nat) : Int) = u by have := hg u hu; omega]; exact hu)⟩
  · rintro ⟨h1, h2⟩
    refine ⟨_, (setF_mem (fun x hx => (hf x hx).1) _).1 h1, List.any_eq_true.2 ⟨_, (setF_mem hg _).1 h2, ?_⟩⟩
    rw [beq_iff_eq, Int.toNat_natCast, Int.toNat_natCast]
    exact join_split s n
/-- The family of all parts of some sets. -/
def partsR (f : List Int) (s : Nat) : Bool := f.any fun x => s &&& x.toNat == s
theorem parts_ref {n : Nat} {f : List Int} (hf : ∀ x ∈ f, 0 ≤ x) {G : Nat} (hG : Clo n (setF f) G) (hd : DownN n G) {s : Nat} (hf2 : ∀ x ∈ f, x < (2 ^ n : Nat)) : partsR f s = G.testBit s := by
  unfold partsR
  rw [Bool.eq_iff_iff, List.any_eq_true]
  constructor
  · rintro ⟨x, hx, e⟩
    have e := beq_iff_eq.1 e
    have h1 := hf x hx
    have h2 := hf2 x hx
    refine down_part hd x.toNat s (by omega) (fun y hy => ?_) (hG.up _ ((setF_mem hf _).2 (by rw [show ((x.toNat : Nat) : Int) = x by omega]; exact hx)))
    rw [← e, Nat.testBit_and] at hy
    exact (andE hy).2
  · intro h
    obtain ⟨t, ht, hs⟩ := hG.lo s h
    refine ⟨_, (setF_mem hf _).1 ht, ?_⟩
    rw [beq_iff_eq, Int.toNat_natCast]
    apply bits_ext
    intro y
    rw [Nat.testBit_and]
    cases hy : s.testBit y
    · rfl
    · rw [hs y hy]; rfl
end Go.Proofs.YtjddbglbodkihaaDoor
