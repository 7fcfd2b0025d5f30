/- Plain laws of properties of graphs: the least family that holds some graphs and is kept by exchanges. Condition: at most four nodes. -/
import Derived.Test.YtjddbglbodkihaaDoorPrM
import Derived.Test.YtjddbglbodkihaaDoorClone
namespace Go.Proofs.YtjddbglbodkihaaDoor

def nP (m : Nat) : Nat := (pairsL m).length
theorem nP_all : nP 2 = 1 ∧ nP 3 = 3 ∧ nP 4 = 6 := by decide
def Exch (m F : Nat) : Prop := ∀ s, F.testBit s = true → ∀ l ∈ exL m, F.testBit (movF s l) = true
def SubF (F G : Nat) : Prop := ∀ u, F.testBit u = true → G.testBit u = true
theorem SubF.refl (F : Nat) : SubF F F := fun _ h => h
theorem SubF.trans {F G H : Nat} (h : SubF F G) (k : SubF G H) : SubF F H := fun u hu => k u (h u hu)
theorem SubF.le {F G : Nat} (h : SubF F G) : F ≤ G := by
  have e : F ||| G = G := bits_ext fun u => by
    rw [Nat.testBit_or]
    cases hf : F.testBit u
    · simp
    · rw [h u hf]; rfl
  rw [← e]; exact Nat.left_le_or
/-- Part of each property that holds F. -/
def Lst (m F G : Nat) : Prop := ∀ S, SubF F S → DownN (nP m) S → Exch m S → S < 2 ^ (2 ^ nP m) → SubF G S
/-- The least property that holds F. -/
structure Spr (m F G : Nat) : Prop where
  lt : G < 2 ^ (2 ^ nP m)
  up : SubF F G
  down : DownN (nP m) G
  ex : Exch m G
  least : Lst m F G
theorem Spr.one {m F G H : Nat} (h : Spr m F G) (k : Spr m F H) : G = H := bits_ext fun u => by
  rw [Bool.eq_iff_iff]
  exact ⟨h.least H k.up k.down k.ex k.lt u, k.least G h.up h.down h.ex h.lt u⟩
theorem Spr.same {m F G : Nat} (h : Spr m F G) (hF : F < 2 ^ (2 ^ nP m)) : G = F ↔ DownN (nP m) F ∧ Exch m F := by
  constructor
  · rintro rfl; exact ⟨h.down, h.ex⟩
  · rintro ⟨h1, h2⟩
    exact h.one ⟨hF, SubF.refl _, h1, h2, fun S hS _ _ _ => hS⟩
/-- Where spread's loops stand: N holds the closed G; the graphs below d of G are moved by all exchanges, graph d by those below q. -/
structure SpS (m F G : Nat) (l : List Int) (N d q : Nat) : Prop where
  lt : N < 2 ^ (2 ^ nP m)
  up : SubF G N
  least : Lst m F N
  done : ∀ j, j < d → ∀ t ∈ exL m, N.testBit (movF (at0 l j).toNat t) = true
  here : ∀ r t, r < q → (exL m)[r]? = some t → N.testBit (movF (at0 l d).toNat t) = true
theorem sp_start {m F Fc G : Nat} {l : List Int} (hc : Clo (nP m) Fc G) (hl : Lst m F Fc) : SpS m F G l G 0 0 :=
  ⟨hc.lt, SubF.refl _, fun S h1 h2 h3 h4 u hu => by
    obtain ⟨t, ht, hs⟩ := hc.lo u hu
    have := hl S h1 h2 h3 h4 t ht
    exact down_part h2 t u (bit_lt h4 this) hs this, fun j hj => absurd hj (by omega), fun r t hr => absurd hr (by omega)⟩
theorem SpS.step {m F G N d q : Nat} {l : List Int} {t : List Int} (h : SpS m F G l N d q) (hq : (exL m)[q]? = some t) (hg : G.testBit (at0 l d).toNat = true) (hm : movF (at0 l d).toNat t < 2 ^ nP m) : SpS m F G l (N ||| (1 <<< movF (at0 l d).toNat t)) d (q + 1) := by
  have hb : SubF N (N ||| (1 <<< movF (at0 l d).toNat t)) := fun u hu => by rw [or_bit1, hu]; rfl
  refine ⟨or_lt h.lt hm, h.up.trans hb, fun S h1 h2 h3 h4 u hu => ?_, fun j hj k hk => hb _ (h.done j hj k hk), fun r k hr hk => ?_⟩
  · rw [or_bit1] at hu
    rcases orE hu with g | g
    · exact h.least S h1 h2 h3 h4 u g
    · have := of_decide_eq_true g
      subst this
      exact h3 _ (h.least S h1 h2 h3 h4 _ (h.up _ hg)) t (List.mem_of_getElem? hq)
  · by_cases e : r = q
    · subst e
      rw [hq] at hk
      cases hk
      rw [or_bit1]; simp
    · exact hb _ (h.here r k (by omega) hk)
theorem SpS.next {m F G N d : Nat} {l : List Int} (h : SpS m F G l N d (exL m).length) : SpS m F G l N (d + 1) 0 :=
  ⟨h.lt, h.up, h.least, fun j hj t ht => by
    by_cases e : j = d
    · subst e
      obtain ⟨r, hr⟩ := List.getElem?_of_mem ht
      exact h.here r t (List.getElem?_eq_some_iff.1 hr).1 hr
    · exact h.done j (by omega) t ht, fun r t hr => absurd hr (by omega)⟩
/-- Where nothing was new. -/
theorem SpS.same {m F Fc G : Nat} (hc : Clo (nP m) Fc G) (hF : SubF F Fc) (h : SpS m F G (famL 64 G.testBit) Fc (famL 64 G.testBit).length 0) (hn : nP m ≤ 6) : Spr m F Fc := by
  have e : G = Fc := by
    apply bits_ext
    intro u
    rw [Bool.eq_iff_iff]
    exact ⟨h.up u, hc.up u⟩
  subst e
  refine ⟨h.lt, hF, hc.down, fun s hs t ht => ?_, h.least⟩
  have h64 : 2 ^ nP m ≤ 64 := Nat.pow_le_pow_right (show 0 < 2 by decide) hn
  have hm : (s : Int) ∈ famL 64 G.testBit := mem_famL.2 ⟨by omega, by have := bit_lt h.lt hs; omega, by rw [Int.toNat_natCast]; exact hs⟩
  obtain ⟨j, hj, hje⟩ := List.mem_iff_getElem.1 hm
  have := h.done j hj t ht
  rwa [at0_get ((List.getElem?_eq_getElem hj).trans (congrArg some hje)), Int.toNat_natCast] at this
end Go.Proofs.YtjddbglbodkihaaDoor
