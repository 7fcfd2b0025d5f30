/- Texts of this proof, one behind the other; each says its condition at its head. -/
import Derived.Test.YtnibidmlkbcfkaaGreatDoorT5
import Derived.Test.YtnibidmlkbcfkaaGreatDoorT2
namespace Go.Proofs.YtnibidmlkbcfkaaGreatDoor
/- The plain law of bets' equations: their coefficients stay -1, 0 and 1, and their right sides small. No program in sight. -/
section
/-- Numbers in rows. -/
abbrev Mx := Nat → Nat → Int
def swapF (f : Mx) (j p : Nat) : Mx := fun i c => if i = j then f p c else if i = p then f j c else f i c
def divF (f : Mx) (j : Nat) : Mx := fun i c => if i = j then sg (f j j) (f j c) else f i c
def subF (f : Mx) (j : Nat) : Mx := fun i c => if i = j then f i c else if f i j = 0 then f i c else f i c - sg (f i j) (f j c)
/-- One column settled: by row p. -/
def elimF (f : Mx) (j p : Nat) : Mx := subF (divF (swapF f j p) j) j
/-- The first row from j on that is not 0 at j. -/
def pivF (f : Mx) (m j : Nat) : Option Nat := (List.range m).find? fun i => decide (j ≤ i) && decide (f i j ≠ 0)
def solveGo (m k : Nat) : Nat → Nat → Mx → Option Mx
 | 0, _, f => some f
 | n + 1, j, f =>
  match pivF f m j with
  | none => none
  | some p => if j + 1 = m ∧ j + 1 < k then none else solveGo m k n (j + 1) (elimF f j p)
/-- The one solution of m equations with k unknowns. -/
def solveF (m k : Nat) (f : Mx) : Option (List Int) :=
 match solveGo m k k 0 f with
 | none => none
 | some g => if (List.range m).all (fun i => decide (i < k) || decide (g i k = 0)) then some ((List.range k).map fun i => g i k) else none
structure EqI (m k j : Nat) (f : Mx) : Prop where
 r : ∀ i, i < m → -(12 * 2 ^ j) ≤ f i k ∧ f i k ≤ 12 * 2 ^ j
 c : ∀ i c, i < m → c < k → f i c = 0 ∨ f i c = 12 ∨ f i c = -12
 p0 : j = 0 → ∀ c, c < k → f 0 c = 12
 q0 : j = 0 → ∀ i c, i < m → c < k → f i c = 0 ∨ f i c = 12
 p1 : j = 1 → ∀ c, c < k → f 0 c = 12
 q1 : j = 1 → ∀ i, 1 ≤ i → i < m → f i 0 = 0 ∧ ((∀ c, 1 ≤ c → c < k → f i c = 0 ∨ f i c = 12) ∨ (∀ c, 1 ≤ c → c < k → f i c = 0 ∨ f i c = -12))
 p2 : j = 2 → f 0 0 = 12 ∧ f 0 1 = 0 ∧ f 1 0 = 0 ∧ f 1 1 = 12 ∧ (2 < k → (f 0 2 = 0 ∨ f 0 2 = 12) ∧ (f 1 2 = 0 ∨ f 1 2 = 12))
 q2 : j = 2 → ∀ i, 2 ≤ i → i < m → f i 0 = 0 ∧ f i 1 = 0
theorem pivF_some {f : Mx} {m j p : Nat} (h : pivF f m j = some p) : j ≤ p ∧ p < m ∧ f p j ≠ 0 ∧ ∀ i, j ≤ i → i < p → f i j = 0 := by
 unfold pivF at h
 obtain ⟨h1, as1, bs, h2, h3⟩ := List.find?_eq_some_iff_append.1 h
 simp only [Bool.and_eq_true, decide_eq_true_eq] at h1
 have hm : p ∈ List.range m := by rw [h2]; simp
 refine ⟨h1.1, by simpa using hm, h1.2, fun i hi hp => ?_⟩
 have hpos : as1.length = p := by
  have e1 : (List.range m)[as1.length]? = some p := by rw [h2]; simp
  have := (List.getElem?_eq_some_iff.1 e1)
  obtain ⟨hlt, e⟩ := this
  rw [List.getElem_range] at e
  exact e
 have e2 : (List.range m)[i]? = as1[i]? := by rw [h2, List.getElem?_append_left (by omega)]
 have him : i < m := by
  have : p < m := by simpa using hm
  omega
 rw [List.getElem?_range him] at e2
 have := h3 i (List.mem_of_getElem? e2.symm)
 simp only [Bool.not_eq_true', Bool.and_eq_false_iff, decide_eq_false_iff_not] at this
 rcases this with this | this
 · omega
 · exact Classical.not_not.1 this
theorem pivF_none {f : Mx} {m j : Nat} (h : pivF f m j = none) : ∀ i, j ≤ i → i < m → f i j = 0 := by
 unfold pivF at h
 rw [List.find?_eq_none] at h
 intro i hi hm
 have := h i (by simpa using hm)
 simp only [Bool.and_eq_true, decide_eq_true_eq, not_and, Classical.not_not] at this
 exact this hi
theorem pivF_of {f : Mx} {m j p : Nat} (h1 : j ≤ p) (h2 : p < m) (h3 : f p j ≠ 0) (h4 : ∀ i, j ≤ i → i < p → f i j = 0) : pivF f m j = some p := by
 cases h : pivF f m j with
 | none => exact absurd (pivF_none h p h1 h2) h3
 | some q =>
  obtain ⟨a1, a2, a3, a4⟩ := pivF_some h
  rcases Nat.lt_trichotomy p q with hlt | rfl | hlt
  · exact absurd (a4 p h1 hlt) h3
  · rfl
  · exact absurd (h4 q a1 hlt) a3
theorem EqI.bd {m k j : Nat} {f : Mx} (h : EqI m k j f) (hj : j ≤ 2) : ∀ i c, i < m → c ≤ k → -48 ≤ f i c ∧ f i c ≤ 48 := by
 intro i c hi hc
 by_cases e : c = k
 · subst e
   have := h.r i hi
   have h2 : (2 : Int) ^ j ≤ 4 := by
    rcases (show j = 0 ∨ j = 1 ∨ j = 2 by omega) with rfl | rfl | rfl <;> decide
   omega
 · have := h.c i c hi (by omega)
   omega
theorem EqI.step {m k j p : Nat} {f : Mx} (h : EqI m k j f) (hj : j < k) (hk : k ≤ 3) (hp : pivF f m j = some p) : (f p j = 12 ∨ f p j = -12) ∧ EqI m k (j + 1) (elimF f j p) := by
 obtain ⟨a1, a2, a3, a4⟩ := pivF_some hp
 have hpj := h.c p j a2 hj
 refine ⟨by omega, ?_⟩
 have hb : sg (f p j) (f p j) = 12 := by unfold sg; split <;> omega
 -- the pivot's row
 have hrow : ∀ c, elimF f j p j c = sg (f p j) (f p c) := fun c => by simp [elimF, subF, divF, swapF]
 have hoth : ∀ i c, i ≠ j → elimF f j p i c = if swapF f j p i j = 0 then swapF f j p i c else swapF f j p i c - sg (swapF f j p i j) (sg (f p j) (f p c)) := fun i c hi => by
  simp [elimF, subF, divF, hi, swapF]
 have hsw : ∀ i c, i ≠ j → i < m → ∃ i', i' < m ∧ swapF f j p i c = f i' c ∧ (i' = i ∨ i' = j) ∧ (i < j → i' = i) ∧ (∀ c', swapF f j p i c' = f i' c') := fun i c hi hm => by
  by_cases e : i = p
  · subst e
    exact ⟨j, by omega, by simp [swapF, hi], .inr rfl, fun hl => by omega, fun c' => by simp [swapF, hi]⟩
  · exact ⟨i, hm, by simp [swapF, hi, e], .inl rfl, fun _ => rfl, fun c' => by simp [swapF, hi, e]⟩
 have hsg : ∀ b y B : Int, -B ≤ y → y ≤ B → -B ≤ sg b y ∧ sg b y ≤ B := fun b y B h1 h2 => by unfold sg; split <;> omega
 have hr : ∀ i, i < m → -(12 * 2 ^ (j + 1)) ≤ elimF f j p i k ∧ elimF f j p i k ≤ 12 * 2 ^ (j + 1) := by
  intro i hi
  have hpow : (2 : Int) ^ (j + 1) = 2 * 2 ^ j := by rw [Int.pow_succ]; omega
  have h0 : (0 : Int) < 2 ^ j := by
   rcases (show j = 0 ∨ j = 1 ∨ j = 2 by omega) with rfl | rfl | rfl <;> decide
  have hpk := h.r p a2
  have s1 := hsg (f p j) (f p k) _ hpk.1 hpk.2
  by_cases e : i = j
  · subst e
    rw [hrow]
    omega
  · rw [hoth i k e]
    obtain ⟨i', hi', e1, _⟩ := hsw i k e hi
    rw [e1]
    have := h.r i' hi'
    have s2 := hsg (swapF f j p i j) _ _ s1.1 s1.2
    split <;> omega
 rcases (show j = 0 ∨ j = 1 ∨ j = 2 by omega) with rfl | rfl | rfl
 · -- the first column: the first row is all ones
   have hp0 : p = 0 := by
    rcases Nat.eq_zero_or_pos p with h0 | h0
    · exact h0
    · have := a4 0 (by omega) h0
      rw [h.p0 rfl 0 hj] at this
      omega
   subst hp0
   have hrow' : ∀ c, c < k → elimF f 0 0 0 c = 12 := fun c hc => by
    rw [hrow, h.p0 rfl 0 hj, h.p0 rfl c hc]; rfl
   have hother : ∀ i c, 1 ≤ i → c < k → elimF f 0 0 i c = if f i 0 = 0 then f i c else f i c - sg (f i 0) 12 := fun i c hi hc => by
    have e : ∀ c', swapF f 0 0 i c' = f i c' := fun c' => by
     have h0 : i ≠ 0 := by omega
     simp [swapF, h0]
    rw [hoth i c (by omega), e, e, h.p0 rfl 0 hj, h.p0 rfl c hc]; rfl
   refine ⟨hr, fun i c hi hc => ?_, by omega, by omega, fun _ c hc => hrow' c hc, fun _ i h1 hi => ?_, by omega, by omega⟩
   · by_cases e : i = 0
     · subst e; rw [hrow' c hc]; omega
     · rw [hother i c (by omega) hc]
       have := h.q0 rfl i c hi hc
       have := h.q0 rfl i 0 hi hj
       unfold sg
       split
       · omega
       · split <;> omega
   · refine ⟨?_, ?_⟩
     · rw [hother i 0 h1 hj]
       have := h.q0 rfl i 0 hi hj
       unfold sg
       split
       · assumption
       · split <;> omega
     · by_cases e : f i 0 = 0
       · left
         intro c _ hc
         rw [hother i c h1 hc, if_pos e]
         exact h.q0 rfl i c hi hc
       · right
         intro c _ hc
         rw [hother i c h1 hc, if_neg e]
         have := h.q0 rfl i 0 hi hj
         have := h.q0 rfl i c hi hc
         unfold sg
         split <;> omega
 · -- the second column
   have hq := h.q1 rfl p a1 a2
   have hz : sg (f p 1) (f p 0) = 0 := by rw [hq.1]; unfold sg; split <;> rfl
   have hx : ∀ c, 1 ≤ c → c < k → sg (f p 1) (f p c) = 0 ∨ sg (f p 1) (f p c) = 12 := fun c h1 hc => by
    rcases hq.2 with hq | hq
    · have := hq 1 (by omega) hj
      have := hq c h1 hc
      unfold sg; split <;> omega
    · have := hq 1 (by omega) hj
      have := hq c h1 hc
      unfold sg; split <;> omega
   have h0 : ∀ c, c < k → elimF f 1 p 0 c = 12 - sg (f p 1) (f p c) := fun c hc => by
    have e : ∀ c', swapF f 1 p 0 c' = f 0 c' := fun c' => by simp [swapF]; intro e; omega
    rw [hoth 0 c (by omega), e, e, h.p1 rfl 1 hj, h.p1 rfl c hc]; rfl
   have hi : ∀ i c, 2 ≤ i → i < m → c < k → (c = 0 → elimF f 1 p i c = 0) ∧ (c = 1 → elimF f 1 p i c = 0) ∧ (2 ≤ c → elimF f 1 p i c = 0 ∨ elimF f 1 p i c = 12 ∨ elimF f 1 p i c = -12) := fun i c h2 hm hc => by
    obtain ⟨i', hi', _, hor, _, e'⟩ := hsw i c (by omega) hm
    rw [hoth i c (by omega), e', e']
    have hq' := h.q1 rfl i' (by omega) hi'
    refine ⟨fun e => ?_, fun e => ?_, fun e => ?_⟩
    · subst e
      rw [hz, hq'.1]
      have : ∀ b : Int, sg b 0 = 0 := fun b => by unfold sg; split <;> rfl
      rw [this]; split <;> rfl
    · subst e
      rw [hb]
      rcases hq'.2 with hq' | hq'
      · have := hq' 1 (by omega) hj
        split
        · assumption
        · unfold sg; split <;> omega
      · have := hq' 1 (by omega) hj
        split
        · assumption
        · unfold sg; split <;> omega
    · have hxc := hx c (by omega) hc
      rcases hq'.2 with hq' | hq'
      · have := hq' 1 (by omega) hj
        have := hq' c (by omega) hc
        split
        · omega
        · unfold sg at *; split <;> split at hxc <;> omega
      · have := hq' 1 (by omega) hj
        have := hq' c (by omega) hc
        split
        · omega
        · unfold sg at *; split <;> split at hxc <;> omega
   have hc1 : ∀ c, c < k → c = 0 ∨ c = 1 ∨ c = 2 := by omega
   refine ⟨hr, fun i c him hc => ?_, by omega, by omega, by omega, by omega, fun _ => ?_, fun _ i h2 hm => ⟨(hi i 0 h2 hm (by omega)).1 rfl, (hi i 1 h2 hm hj).2.1 rfl⟩⟩
   · rcases (show i = 0 ∨ i = 1 ∨ 2 ≤ i by omega) with rfl | rfl | h2
     · rw [h0 c hc]
       rcases hc1 c hc with rfl | hc'
       · rw [hz]; omega
       · have := hx c (by omega) hc; omega
     · rw [hrow]
       rcases hc1 c hc with rfl | hc'
       · rw [hz]; omega
       · have := hx c (by omega) hc; omega
     · obtain ⟨b1, b2, b3⟩ := hi i c h2 him hc
       rcases hc1 c hc with hc' | hc' | hc'
       · left; exact b1 hc'
       · left; exact b2 hc'
       · exact b3 (by omega)
   · refine ⟨?_, ?_, ?_, ?_, fun h2 => ?_⟩
     · rw [h0 0 (by omega), hz]; rfl
     · rw [h0 1 hj, hb]; rfl
     · rw [hrow, hz]
     · rw [hrow, hb]
     · have := hx 2 (by omega) h2
       rw [h0 2 h2, hrow]
       omega
 · -- the third column
   have hk3 : k = 3 := by omega
   subst hk3
   obtain ⟨c0, c1, c2, c3, c4⟩ := h.p2 rfl
   obtain ⟨c5, c6⟩ := c4 (by omega)
   have hq := h.q2 rfl p a1 a2
   have z0 : sg (f p 2) (f p 0) = 0 := by rw [hq.1]; unfold sg; split <;> rfl
   have z1 : sg (f p 2) (f p 1) = 0 := by rw [hq.2]; unfold sg; split <;> rfl
   have hsz : ∀ b : Int, sg b 0 = 0 := fun b => by unfold sg; split <;> rfl
   refine ⟨hr, fun i c him hc => ?_, by omega, by omega, by omega, by omega, by omega, by omega⟩
   have hcc : c = 0 ∨ c = 1 ∨ c = 2 := by omega
   by_cases e : i = 2
   · subst e
     rw [hrow]
     rcases hcc with rfl | rfl | rfl
     · rw [z0]; omega
     · rw [z1]; omega
     · rw [hb]; omega
   · obtain ⟨i', hi', _, hor, hlt, e'⟩ := hsw i c e him
     rw [hoth i c e, e', e']
     have hc2 := h.c i' c hi' hc
     have hi2 := h.c i' 2 hi' (by omega)
     rcases hcc with rfl | rfl | rfl
     · rw [z0, hsz]; split <;> omega
     · rw [z1, hsz]; split <;> omega
     · rw [hb]
       split
       · omega
       · unfold sg; split <;> omega
/- ## Half done -/
def setF (f : Mx) (i c : Nat) (v : Int) : Mx := fun i' c' => if i' = i ∧ c' = c then v else f i' c'
/-- Row j divided, below column d. -/
def mixC (g : Mx) (j d : Nat) : Mx := fun i c => if i = j ∧ c < d then sg (g j j) (g j c) else g i c
theorem mixC_at (g : Mx) (j d : Nat) : mixC g j d j d = g j d := if_neg (by omega)
theorem mixC_zero (g : Mx) (j : Nat) : mixC g j 0 = g := by
 funext i c
 exact if_neg (by omega)
theorem mixC_step (g : Mx) (j d : Nat) : setF (mixC g j d) j d (sg (g j j) (g j d)) = mixC g j (d + 1) := by
 funext i c
 unfold setF mixC
 by_cases e : i = j ∧ c = d
 · rw [if_pos e, if_pos (by omega), e.2]
 · rw [if_neg e]
   by_cases e2 : i = j ∧ c < d
   · rw [if_pos e2, if_pos (by omega)]
   · rw [if_neg e2, if_neg (by omega)]
theorem mixC_full (g : Mx) (j k : Nat) {i c : Nat} (hc : c ≤ k) : mixC g j (k + 1) i c = divF g j i c := by
 unfold mixC divF
 by_cases e : i = j
 · rw [if_pos ⟨e, by omega⟩, if_pos e]
 · rw [if_neg (fun x => e x.1), if_neg e]
/-- The rows above i taken off, and row i below column d. -/
def mixR (g : Mx) (j i d : Nat) : Mx := fun i' c => if i' < i ∨ (i' = i ∧ c < d) then subF g j i' c else g i' c
theorem subF_j (g : Mx) (j c : Nat) : subF g j j c = g j c := if_pos rfl
theorem mixR_at (g : Mx) (j i d : Nat) : mixR g j i d i d = g i d := if_neg (by omega)
theorem mixR_at' (g : Mx) (j i c : Nat) : mixR g j i 0 i c = g i c := if_neg (by omega)
theorem mixR_j (g : Mx) (j i d c : Nat) : mixR g j i d j c = g j c := by
 unfold mixR
 split
 · exact subF_j g j c
 · rfl
theorem mixR_zero (g : Mx) (j : Nat) : mixR g j 0 0 = g := by
 funext i c
 exact if_neg (by omega)
theorem mixR_step (g : Mx) (j i d : Nat) : setF (mixR g j i d) i d (subF g j i d) = mixR g j i (d + 1) := by
 funext i' c
 unfold setF mixR
 by_cases e : i' = i ∧ c = d
 · rw [if_pos e, if_pos (by omega), e.1, e.2]
 · rw [if_neg e]
   by_cases e2 : i' < i ∨ (i' = i ∧ c < d)
   · rw [if_pos e2, if_pos (by omega)]
   · rw [if_neg e2, if_neg (by omega)]
theorem mixR_next (g : Mx) (j i k : Nat) {i' c : Nat} (hc : c ≤ k) : mixR g j i (k + 1) i' c = mixR g j (i + 1) 0 i' c := by
 unfold mixR
 by_cases e : i' < i ∨ (i' = i ∧ c < k + 1)
 · rw [if_pos e, if_pos (by omega)]
 · rw [if_neg e, if_neg (by omega)]
theorem mixR_skip (g : Mx) (j i : Nat) (h : i = j ∨ g i j = 0) : mixR g j i 0 = mixR g j (i + 1) 0 := by
 funext i' c
 unfold mixR
 by_cases e : i' < i
 · rw [if_pos (by omega), if_pos (by omega)]
 · rw [if_neg (by omega)]
   by_cases e2 : i' = i
   · rw [if_pos (by omega), e2]
     unfold subF
     rcases h with h | h
     · rw [if_pos h]
     · by_cases e3 : i = j
       · rw [if_pos e3]
       · rw [if_neg e3, if_pos h]
   · rw [if_neg (by omega)]
theorem mixR_done (g : Mx) (j m : Nat) {i c : Nat} (hi : i < m) : mixR g j m 0 i c = subF g j i c := if_pos (by omega)
end
/- Slices of structs of two numbers: how they lie in memory, and how they are copied. No condition. -/
section
open Go.RowKit
theorem TB : TS Tryz.prog 147 182 2 16 (.agg #[.int .i64 0, .int .i64 0]) := ⟨Tryz.underlying147, by kernel_rfl, rfl, by decide⟩
theorem TF : TS Tryz.prog 219 48 2 16 (.agg #[.int .i64 0, .int .i64 0]) := ⟨Tryz.underlying219, by kernel_rfl, rfl, by decide⟩
/-- A slice of pairs that reads as xs. -/
structure Sl2 (w : World) (A : Option Addr) (n c : Nat) (xs : List (Int × Int)) : Prop where
 len : xs.length = n
 cap : n ≤ c
 capm : c ≤ maxLen
 pos : 0 < n → ∃ b o, A = some ⟨b, o, none⟩ ∧ b < w.heap.size ∧ ∀ j u, xs[j]? = some u → w.cell? ⟨b, o + j * 2, none⟩ = some (.int .i64 u.1) ∧ w.cell? ⟨b, o + (j * 2 + 1), none⟩ = some (.int .i64 u.2)
def flat (xs : List (Int × Int)) : List Value := xs.flatMap fun u => [.int .i64 u.1, .int .i64 u.2]
theorem flat_len (xs : List (Int × Int)) : (flat xs).length = xs.length * 2 := by
 induction xs with
 | nil => rfl
 | cons u xs ih =>
  have : flat (u :: xs) = .int .i64 u.1 :: .int .i64 u.2 :: flat xs := rfl
  rw [this, List.length_cons, List.length_cons, ih, List.length_cons]; omega
theorem flat_one (xs : List (Int × Int)) : ∀ u ∈ flat xs, u.oneCell' = true := by
 intro u hu
 unfold flat at hu
 simp at hu
 obtain ⟨a, b, _, h | h⟩ := hu <;> subst h <;> rfl
theorem flat_get : ∀ (xs : List (Int × Int)) (j : Nat) (u : Int × Int), xs[j]? = some u → (flat xs)[j * 2]? = some (.int .i64 u.1) ∧ (flat xs)[j * 2 + 1]? = some (.int .i64 u.2) := by
 intro xs
 induction xs with
 | nil => intro j u h; simp at h
 | cons v xs ih =>
  intro j u h
  have e : flat (v :: xs) = .int .i64 v.1 :: .int .i64 v.2 :: flat xs := rfl
  rw [e]
  cases j with
  | zero => simp at h; subst h; exact ⟨rfl, rfl⟩
  | succ j =>
   have := ih j u (by simpa using h)
   have e2 : (j + 1) * 2 = j * 2 + 2 := by omega
   rw [e2]
   exact ⟨by simpa using this.1, by simpa using this.2⟩
section
variable {w w' : World} {A : Option Addr} {n c : Nat} {xs : List (Int × Int)}
theorem Sl2.below (h : Sl2 w A n c xs) (hb : Below w.heap.size w w') : Sl2 w' A n c xs :=
 ⟨h.len, h.cap, h.capm, fun hn => by
  obtain ⟨b, o, e, hl, hc⟩ := h.pos hn
  refine ⟨b, o, e, by have := hb.size; omega, fun j u hu => ?_⟩
  exact ⟨(hb.cell (p := ⟨b, o + j * 2, none⟩) hl).trans (hc j u hu).1, (hb.cell (p := ⟨b, o + (j * 2 + 1), none⟩) hl).trans (hc j u hu).2⟩⟩
theorem Sl2.drewN (h : Sl2 w A n c xs) (k : Nat) : Sl2 (w.drewN k) A n c xs := ⟨h.len, h.cap, h.capm, h.pos⟩
theorem Sl2.take (h : Sl2 w A n c xs) (k : Nat) (hk : k ≤ n) : Sl2 w A k c (xs.take k) :=
 ⟨by simp [h.len]; omega, by have := h.cap; omega, h.capm, fun hn => by
  obtain ⟨b, o, e, hb, hc⟩ := h.pos (by omega)
  exact ⟨b, o, e, hb, fun j u hu => hc j u (by
   rw [List.getElem?_take] at hu
   split at hu
   · exact hu
   · cases hu)⟩⟩
theorem Sl2.at (h : Sl2 w A n c xs) {k : Nat} (hk : k < n) : ∃ b o u, A = some ⟨b, o, none⟩ ∧ b < w.heap.size ∧ xs[k]? = some u ∧ w.cell? ⟨b, o + k * 2, none⟩ = some (.int .i64 u.1) ∧ w.cell? ⟨b, o + (k * 2 + 1), none⟩ = some (.int .i64 u.2) := by
 obtain ⟨b, o, e, hb, hc⟩ := h.pos (by omega)
 have hl : k < xs.length := by have := h.len; omega
 have := hc k _ (List.getElem?_eq_getElem hl)
 exact ⟨b, o, xs[k], e, hb, List.getElem?_eq_getElem hl, this.1, this.2⟩
theorem Sl2.len_le (h : Sl2 w A n c xs) : n ≤ 9223372036854775807 := by have := h.cap; have := h.capm; unfold maxLen at this; omega
theorem Sl2.none_zero (h : Sl2 w none n c xs) : n = 0 ∧ xs = [] := by
 have h0 : n = 0 := by
  rcases Nat.eq_zero_or_pos n with h0 | h0
  · exact h0
  · obtain ⟨_, _, e, _⟩ := h.pos h0
    cases e
 exact ⟨h0, List.eq_nil_of_length_eq_zero (by have := h.len; omega)⟩
theorem Sl2.of_own {base : Nat} {e : TypeId} (h : w.ownsRow base e 2 (.slice A n c) n (flat xs)) : Sl2 w A n c xs := by
 have hlen : xs.length = n := by
  have h1 := h.1
  have h2 := flat_len xs
  omega
 rcases h.2 with ⟨hv, hn⟩ | ⟨g, cap, cur, hv, hb, hg, hc, hm, hs, ht⟩
 · simp at hv
   obtain ⟨rfl, -, rfl⟩ := hv
   subst hn
   exact ⟨hlen, Nat.le_refl _, Nat.zero_le _, fun h => absurd h (by omega)⟩
 · simp at hv
   obtain ⟨rfl, rfl⟩ := hv
   have hadd : ∀ j, (⟨g, 0, none⟩ : Addr).add j = ⟨g, j, none⟩ := fun j => by unfold Addr.add; split <;> simp_all
   refine ⟨hlen, hc, hm, fun _ => ⟨g, 0, rfl, lt_of_block hg, fun j u hu => ?_⟩⟩
   have hf := flat_get xs j u hu
   have c0 := h.cells (g := g) rfl _ _ hf.1
   have c1 := h.cells (g := g) rfl _ _ hf.2
   rw [hadd] at c0 c1
   simpa using ⟨c0, c1⟩
end
theorem Sl2.cells {w : World} {ad : Addr} {n c : Nat} {xs : List (Int × Int)} (h : Sl2 w (some ad) n c xs) : ∀ j u, (flat xs)[j]? = some u → w.cell? (ad.add j) = some u := by
 intro j u hu
 have hj := (List.getElem?_eq_some_iff.1 hu).1
 rw [flat_len] at hj
 obtain ⟨b, o, e, hb, hc⟩ := h.pos (by have := h.len; omega)
 obtain rfl := Option.some.inj e
 have hadd : (⟨b, o, none⟩ : Addr).add j = ⟨b, o + j, none⟩ := by unfold Addr.add; split <;> simp_all
 rw [hadd]
 have hl : j / 2 < xs.length := by omega
 have hf := flat_get xs (j / 2) _ (List.getElem?_eq_getElem hl)
 have hc' := hc (j / 2) _ (List.getElem?_eq_getElem hl)
 by_cases h0 : j % 2 = 0
 · have e : j / 2 * 2 = j := by omega
   rw [e] at hf hc'
   rw [hf.1] at hu
   cases hu
   exact hc'.1
 · have e : j / 2 * 2 + 1 = j := by omega
   rw [e] at hf hc'
   rw [hf.2] at hu
   cases hu
   exact hc'.2
theorem Sl2.grown {w w' : World} {b o n c : Nat} {xs : List (Int × Int)} {row : Option Nat} (h : Sl2 w (some ⟨b, o, none⟩) n c xs) (hg : w.grownBy w' row) (hb : row ≠ some b) : Sl2 w' (some ⟨b, o, none⟩) n c xs :=
 ⟨h.len, h.cap, h.capm, fun hn => by
  obtain ⟨b', o', e, hl, hc⟩ := h.pos hn
  cases e
  exact ⟨b, o, rfl, Nat.lt_of_lt_of_le hl hg.size, fun j u hu => ⟨(World.cell?_of_block (a := ⟨b, o + j * 2, none⟩) (hg.block b hl (fun e => hb e.symm))).trans (hc j u hu).1, (World.cell?_of_block (a := ⟨b, o + (j * 2 + 1), none⟩) (hg.block b hl (fun e => hb e.symm))).trans (hc j u hu).2⟩⟩⟩
theorem Sl2.nil (w : World) : Sl2 w none 0 0 [] := ⟨rfl, Nat.le_refl _, Nat.zero_le _, fun h => absurd h (by omega)⟩
set_option maxRecDepth 100000 in
set_option maxHeartbeats 400000 in
theorem cloneB (A : Option Addr) (n c : Nat) (xs : List (Int × Int)) (hn : n ≤ 1000000) (w : World) (hs : Sl2 w A n c xs) :
 Calls Tryz.prog 127 #[.slice A n c] w fun e w' => ∃ A' c', e = .returned (.slice A' n c') ∧ w'.ownsRow w.heap.size 182 2 (.slice A' n c') n (flat xs) ∧ Below w.heap.size w w' := by
 have qT : ∀ (w : World) (a : Option Addr) (n c n' c' : Nat), (binOp .eql 147 (.slice a n c) (.slice none n' c')).run Tryz.prog w = .ok (.bool a.isNone) w := fun w a n c n' c' => Lib.run_eql_slice_nil w _ _ a n c n' c' Tryz.underlying147
 obtain ⟨i0, hi, hz0, hz1, hz2⟩ := info_parts TB.inf
 cases A with
 | none =>
  obtain ⟨rfl, hx⟩ := hs.none_zero
  have HX := hid hx
  clear hx
  go_enter Tryz.func127, Tryz.ntmps127
  go_wp2
  go_ret
  exact ⟨none, 0, rfl, by rw [HX.out]; exact World.ownsRow_nil _ _ _ _, Below.refl _ _⟩
 | some ad =>
  have hl := hid (show (flat xs).length = n * 2 by rw [flat_len, hs.len])
  have hcell := hid hs.cells
  clear hs
  go_enter Tryz.func127, Tryz.ntmps127
  go_wp2_with (at_builtin; refine wpList_append_own _ rfl _ _ 147 rfl w.heap.size 182 i0 (.agg #[.int .i64 0, .int .i64 0]) 2 16 TB.und hi hz0 hz1 hz2 rfl (by decide) _ 0 [] rfl (World.ownsRow_made w #[] 0 (Nat.le_refl _) (by unfold maxLen; omega) rfl) ad n c (flat xs) rfl ?c1 ?c2 (flat_one _) ?c3 ?c4 ?c5 ?c6)
  case c1 => rw [hl.out]
  case c2 => exact fun j u hu => cell_keep ((Below.refl _ _).alloc (Nat.le_refl _) _) (hcell.out j u hu)
  case c3 => unfold maxLen; omega
  case c4 => omega
  case c5 => simp
  case c6 =>
   intro v' w1 hown hg _
   obtain ⟨A', c', rfl⟩ := own_form hown
   have hb : Below w.heap.size w w1 := ((Below.refl _ _).alloc (Nat.le_refl _) _).grown hg (by simp) (fun k hk => by simp [Value.ownBlock] at hk; omega)
   clear hg
   go_wp2
   go_ret
   exact ⟨A', c', rfl, hown, hb⟩
end
end Go.Proofs.YtnibidmlkbcfkaaGreatDoor
