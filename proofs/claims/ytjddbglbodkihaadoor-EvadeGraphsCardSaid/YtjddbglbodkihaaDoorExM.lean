/- Plain laws: an exchange of any two nodes is a row of exchanges of neighbours. Condition: at most four nodes (the kernel looks at all graphs). -/
import Derived.Test.YtjddbglbodkihaaDoorExchW
import Derived.Test.YtjddbglbodkihaaDoorSpM
namespace Go.Proofs.YtjddbglbodkihaaDoor

/-- The neighbours that are exchanged one after the other. -/
def pathL (y x : Nat) : List Nat := (List.range (x - y)).map (y + ·) ++ ((List.range (x - 1 - y)).map (y + ·)).reverse
def movP (m g : Nat) (p : List Nat) : Nat := p.foldl (fun g k => movF g (toL m k)) g
theorem path2 : ∀ g : Fin 2, exS 2 g.val 1 0 (pairsL 2) = movP 2 g.val (pathL 0 1) := by decide +kernel
theorem path3 : ∀ g : Fin 8, ∀ x y : Fin 3, y.val < x.val → exS 3 g.val x.val y.val (pairsL 3) = movP 3 g.val (pathL y.val x.val) := by decide +kernel
theorem path4 : ∀ g : Fin 64, ∀ x y : Fin 4, y.val < x.val → exS 4 g.val x.val y.val (pairsL 4) = movP 4 g.val (pathL y.val x.val) := by decide +kernel
theorem path_all {m g x y : Nat} (h2 : 2 ≤ m) (h4 : m ≤ 4) (hg : g < 2 ^ nP m) (hx : x < m) (hy : y < x) : exS m g x y (pairsL m) = movP m g (pathL y x) := by
  obtain rfl | rfl | rfl : m = 2 ∨ m = 3 ∨ m = 4 := by omega
  · obtain rfl : x = 1 := by omega
    obtain rfl : y = 0 := by omega
    exact path2 ⟨g, hg⟩
  · exact path3 ⟨g, hg⟩ ⟨x, hx⟩ ⟨y, by omega⟩ hy
  · exact path4 ⟨g, hg⟩ ⟨x, hx⟩ ⟨y, by omega⟩ hy
theorem path_step {y : Nat} : pathL y (y + 1) = [y] := by
  unfold pathL
  have e1 : y + 1 - y = 1 := by omega
  have e2 : y + 1 - 1 - y = 0 := by omega
  rw [e1, e2]; simp
theorem path_mem {y x k : Nat} (h : k ∈ pathL y x) : k + 1 ≤ x := by
  unfold pathL at h
  simp at h
  omega
/-- Kept by the exchanges of all two nodes. -/
def ExchA (m F : Nat) : Prop := ∀ g, F.testBit g = true → ∀ x y, x < m → y < x → F.testBit (exS m g x y (pairsL m)) = true
theorem exch_all {m F : Nat} (h2 : 2 ≤ m) (h4 : m ≤ 4) (hF : F < 2 ^ (2 ^ nP m)) : Exch m F ↔ ExchA m F := by
  constructor
  · intro h g hg x y hx hy
    rw [path_all h2 h4 (bit_lt hF hg) hx hy]
    have key : ∀ (p : List Nat) (g : Nat), (∀ k ∈ p, k < m - 1) → F.testBit g = true → F.testBit (movP m g p) = true := by
      intro p
      induction p with
      | nil => intro g _ hg; exact hg
      | cons k p ih =>
        intro g hk hg
        refine ih (movF g (toL m k)) (fun j hj => hk j (by simp [hj])) (h g hg _ ?_)
        unfold exL
        exact List.mem_map.2 ⟨k, List.mem_range.2 (hk k (by simp)), rfl⟩
    exact key _ _ (fun k hk => by have := path_mem hk; omega) hg
  · intro h s hs l hl
    unfold exL at hl
    obtain ⟨k, hk, rfl⟩ := List.mem_map.1 hl
    rw [List.mem_range] at hk
    have := h s hs (k + 1) k (by omega) (by omega)
    rw [path_all h2 h4 (bit_lt hF hs) (by omega) (by omega), path_step] at this
    exact this
end Go.Proofs.YtjddbglbodkihaaDoor
