/- Plain laws of pairs of nodes and exchanges of nodes. Conditions: at most four nodes. -/
import Derived.Test.YtjddbglbodkihaaDoorFamM
namespace Go.Proofs.YtjddbglbodkihaaDoor

def rowL (a b : Nat) : List (Int × Int) := (List.range (b - (a + 1))).map fun i => ((a : Int), ((a + 1 + i : Nat) : Int))
theorem rowL_succ {a b : Nat} (h : a + 1 ≤ b) : rowL a (b + 1) = rowL a b ++ [((a : Int), (b : Int))] := by
  unfold rowL
  have e : b + 1 - (a + 1) = (b - (a + 1)) + 1 := by omega
  rw [e, List.range_succ, List.map_append]
  have e2 : a + 1 + (b - (a + 1)) = b := by omega
  simp only [List.map_cons, List.map_nil, e2]
theorem rowL_none (a : Nat) : rowL a (a + 1) = [] := by unfold rowL; simp
theorem rowL_len (a b : Nat) : (rowL a b).length = b - (a + 1) := by unfold rowL; simp
/-- The pairs with the first node below a. -/
def prL (m a : Nat) : List (Int × Int) := (List.range a).flatMap fun x => rowL x m
theorem prL_succ (m a : Nat) : prL m (a + 1) = prL m a ++ rowL a m := by
  unfold prL; rw [List.range_succ, List.flatMap_append]; simp
def pairsL (m : Nat) : List (Int × Int) := prL m m
theorem prL_len : ∀ m a : Fin 5, (prL m.val a.val).length ≤ 12 := by decide
/-- Where node a goes when k and k + 1 are exchanged. -/
def swapI (k a : Int) : Int := if a = k then k + 1 else if a = k + 1 then k else a
def idxL (l : List (Int × Int)) (p : Int × Int) : Int := if p ∈ l then (l.idxOf p : Nat) else -1
def swapP (k : Int) (p : Int × Int) : Int × Int := (min (swapI k p.1) (swapI k p.2), max (swapI k p.1) (swapI k p.2))
def toL (m k : Nat) : List Int := (pairsL m).map fun p => idxL (pairsL m) (swapP k p)
def exL (m : Nat) : List (List Int) := (List.range (m - 1)).map fun k => toL m k
/-- A graph after an exchange. -/
def movF (s : Nat) (to : List Int) : Nat := (to.zipIdx).foldl (fun o p => o ||| ((s.testBit p.2).toNat <<< p.1.toNat)) 0
theorem idxL_at {l : List (Int × Int)} {p : Int × Int} {d : Nat} (h : l[d]? = some p) (hn : ∀ j y, j < d → l[j]? = some y → y ≠ p) : idxL l p = d := by
  unfold idxL
  have hd := (List.getElem?_eq_some_iff.1 h).1
  rw [if_pos (List.mem_of_getElem? h)]
  have h1 : l.idxOf p ≤ d := by
    rcases Nat.lt_or_ge d (l.idxOf p) with c | c
    · exfalso
      have h2 := List.not_of_lt_findIdx (p := fun x => x == p) (xs := l) (i := d) c
      rw [(List.getElem?_eq_some_iff.1 h).2] at h2
      simp at h2
    · exact c
  rcases Nat.lt_or_ge (l.idxOf p) d with c | c
  · exfalso
    have hl : l.idxOf p < l.length := by omega
    exact hn _ _ c (List.getElem?_eq_getElem hl) (by simp)
  · have : l.idxOf p = d := by omega
    rw [this]
theorem idxL_none {l : List (Int × Int)} {p : Int × Int} (hn : ∀ (j : Nat) y, l[j]? = some y → y ≠ p) : idxL l p = -1 := by
  unfold idxL
  rw [if_neg]
  intro h
  obtain ⟨j, hj⟩ := List.getElem?_of_mem h
  exact hn j p hj rfl
/-- The first d pairs moved. -/
def movD (s d : Nat) (to : List Int) : Nat := movF s (to.take d)
theorem movF_snoc (s : Nat) (to : List Int) (x : Int) : movF s (to ++ [x]) = movF s to ||| ((s.testBit to.length).toNat <<< x.toNat) := by
  unfold movF
  rw [List.zipIdx_append, List.foldl_append]
  simp
end Go.Proofs.YtjddbglbodkihaaDoor
