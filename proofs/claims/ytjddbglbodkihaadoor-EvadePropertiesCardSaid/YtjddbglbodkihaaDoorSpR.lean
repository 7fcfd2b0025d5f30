/- Plain laws of the reference's Spread. Condition: two to four nodes. -/
import Derived.Test.YtjddbglbodkihaaDoorExM
import Derived.Test.YtjddbglbodkihaaDoorRefC
import Derived.Test.YtjddbglbodkihaaDoorRefProp
namespace Go.Proofs.YtjddbglbodkihaaDoor

/-- The family of partsR is the least one. -/
theorem parts_clo {n : Nat} {xs : List Int} (hb : ∀ x ∈ xs, 0 ≤ x ∧ x < (2 ^ n : Nat)) {G : Nat} (hG : Clo n (setF xs) G) : famL (2 ^ n) (partsR xs) = famL (2 ^ n) G.testBit :=
  famL_congr fun _ _ => parts_ref (fun x hx => (hb x hx).1) hG hG.down fun x hx => (hb x hx).2
theorem sb_and {u t : Nat} : (u &&& t == u) = true ↔ Sb u t := by
  rw [beq_iff_eq]
  constructor
  · intro h y hy
    rw [← h, Nat.testBit_and] at hy
    exact (andE hy).2
  · intro h
    apply bits_ext
    intro y
    rw [Nat.testBit_and]
    cases hu : u.testBit y
    · rfl
    · rw [h y hu]; rfl
theorem clo_exists {n F : Nat} (hF : F < 2 ^ (2 ^ n)) : ∃ G, Clo n F G := by
  refine ⟨mkN (2 ^ n) fun u => (List.range (2 ^ n)).any fun t => F.testBit t && (u &&& t == u), mkN_lt _ _, fun u hu => ?_, fun u hu => ?_, fun s x hx hs => ?_⟩
  · have hl := bit_lt hF hu
    rw [mkN_bit, decide_eq_true hl, Bool.true_and, List.any_eq_true]
    exact ⟨u, List.mem_range.2 hl, by rw [hu, Bool.true_and, sb_and]; exact fun _ h => h⟩
  · rw [mkN_bit] at hu
    obtain ⟨_, h⟩ := andE hu
    rw [List.any_eq_true] at h
    obtain ⟨t, _, ht⟩ := h
    obtain ⟨h1, h2⟩ := andE ht
    exact ⟨t, h1, sb_and.1 h2⟩
  · rw [mkN_bit] at hs ⊢
    obtain ⟨h0, h⟩ := andE hs
    have h0 := of_decide_eq_true h0
    rw [List.any_eq_true] at h
    obtain ⟨t, ht, h'⟩ := h
    obtain ⟨h1, h2⟩ := andE h'
    have hle := rm_le s x
    rw [decide_eq_true (show rm s x < 2 ^ n by omega), Bool.true_and, List.any_eq_true]
    refine ⟨t, ht, ?_⟩
    rw [h1, Bool.true_and, sb_and]
    intro y hy
    rw [rm_bit] at hy
    exact sb_and.1 h2 y (andE hy).1
/-- One graph and all its exchanges. -/
def moreX (m g X Y : Nat) : List Int := (List.range X).flatMap (fun x => (List.range x).map fun y => ((exS m g x y (pairsL m) : Nat) : Int)) ++ (List.range Y).map fun y => ((exS m g X y (pairsL m) : Nat) : Int)
def moreL (m : Nat) (l : List Int) : List Int := l.flatMap fun g => g :: moreX m g.toNat m 0
theorem mem_moreX {m g X Y : Nat} {z : Int} : z ∈ moreX m g X Y ↔ ∃ x y, (x < X ∧ y < x ∨ x = X ∧ y < Y) ∧ z = ((exS m g x y (pairsL m) : Nat) : Int) := by
  unfold moreX
  rw [List.mem_append, List.mem_flatMap, List.mem_map]
  constructor
  · rintro (⟨x, hx, hz⟩ | ⟨y, hy, rfl⟩)
    · obtain ⟨y, hy, rfl⟩ := List.mem_map.1 hz
      exact ⟨x, y, .inl ⟨List.mem_range.1 hx, List.mem_range.1 hy⟩, rfl⟩
    · exact ⟨X, y, .inr ⟨rfl, List.mem_range.1 hy⟩, rfl⟩
  · rintro ⟨x, y, ⟨hx, hy⟩ | ⟨rfl, hy⟩, rfl⟩
    · exact .inl ⟨x, List.mem_range.2 hx, List.mem_map.2 ⟨y, List.mem_range.2 hy, rfl⟩⟩
    · exact .inr ⟨y, List.mem_range.2 hy, rfl⟩
theorem mem_more {m : Nat} {l : List Int} {z : Int} : z ∈ moreL m l ↔ ∃ g ∈ l, z = g ∨ ∃ x y, x < m ∧ y < x ∧ z = ((exS m g.toNat x y (pairsL m) : Nat) : Int) := by
  unfold moreL
  rw [List.mem_flatMap]
  constructor
  · rintro ⟨g, hg, hz⟩
    refine ⟨g, hg, ?_⟩
    rcases List.mem_cons.1 hz with rfl | hz
    · exact .inl rfl
    · obtain ⟨x, y, ⟨hx, hy⟩ | ⟨_, hy⟩, rfl⟩ := mem_moreX.1 hz
      · exact .inr ⟨x, y, hx, hy, rfl⟩
      · omega
  · rintro ⟨g, hg, rfl | ⟨x, y, hx, hy, rfl⟩⟩
    · exact ⟨z, hg, by simp⟩
    · exact ⟨g, hg, List.mem_cons_of_mem _ (mem_moreX.2 ⟨x, y, .inl ⟨hx, hy⟩, rfl⟩)⟩
section
variable {m F Fc Fn : Nat} (h2 : 2 ≤ m) (h4 : m ≤ 4) (hlt : Fc < 2 ^ (2 ^ nP m))
include h2 h4 hlt
omit hlt in
theorem more_bd : ∀ z ∈ moreL m (famL (2 ^ nP m) Fc.testBit), 0 ≤ z ∧ z < (2 ^ nP m : Nat) := by
  intro z hz
  obtain ⟨g, hg, rfl | ⟨x, y, hx, hy, rfl⟩⟩ := mem_more.1 hz
  · obtain ⟨a, b, _⟩ := mem_famL.1 hg
    exact ⟨a, b⟩
  · obtain ⟨a, b, _⟩ := mem_famL.1 hg
    have := exS_lt (g := g.toNat) h2 h4 (by omega) hx hy
    omega
theorem more_bit (u : Nat) : (setF (moreL m (famL (2 ^ nP m) Fc.testBit))).testBit u = true ↔ Fc.testBit u = true ∨ ∃ g x y, Fc.testBit g = true ∧ x < m ∧ y < x ∧ u = exS m g x y (pairsL m) := by
  rw [setF_mem (fun z hz => (more_bd h2 h4 z hz).1), mem_more]
  constructor
  · rintro ⟨g, hg, e | ⟨x, y, hx, hy, e⟩⟩
    · obtain ⟨a, b, c⟩ := mem_famL.1 hg
      left
      rw [← e, Int.toNat_natCast] at c
      exact c
    · obtain ⟨a, b, c⟩ := mem_famL.1 hg
      exact .inr ⟨g.toNat, x, y, c, hx, hy, by omega⟩
  · rintro (h | ⟨g, x, y, hg, hx, hy, e⟩)
    · exact ⟨(u : Int), mem_famL.2 ⟨by omega, by have := bit_lt hlt h; omega, by rw [Int.toNat_natCast]; exact h⟩, .inl rfl⟩
    · exact ⟨(g : Int), mem_famL.2 ⟨by omega, by have := bit_lt hlt hg; omega, by rw [Int.toNat_natCast]; exact hg⟩, .inr ⟨x, y, hx, hy, by rw [Int.toNat_natCast]; omega⟩⟩
theorem spr_step (hd : DownN (nP m) Fc) (hs : SubF F Fc) (hl : Lst m F Fc) (hn : Clo (nP m) (setF (moreL m (famL (2 ^ nP m) Fc.testBit))) Fn) : SubF Fc Fn ∧ Lst m F Fn ∧ (Fn = Fc → Spr m F Fc) := by
  refine ⟨fun u hu => hn.up u ((more_bit h2 h4 hlt u).2 (.inl hu)), fun S k1 k2 k3 k4 u hu => ?_, fun e => ?_⟩
  · obtain ⟨t, ht, hst⟩ := hn.lo u hu
    have hS : S.testBit t = true := by
      rcases (more_bit h2 h4 hlt t).1 ht with h | ⟨g, x, y, hg, hx, hy, rfl⟩
      · exact hl S k1 k2 k3 k4 t h
      · exact (exch_all h2 h4 k4).1 k3 g (hl S k1 k2 k3 k4 g hg) x y hx hy
    exact down_part k2 t u (bit_lt k4 hS) hst hS
  · subst e
    refine ⟨hlt, hs, hd, (exch_all h2 h4 hlt).2 fun g hg x y hx hy => ?_, hl⟩
    exact hn.up _ ((more_bit h2 h4 hlt _).2 (.inr ⟨g, x, y, hg, hx, hy, rfl⟩))
end
end Go.Proofs.YtjddbglbodkihaaDoor
