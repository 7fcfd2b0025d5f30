/- Texts of this proof, one behind the other; each says its condition at its head. -/
import Derived.Test.YtflepjgcpdaodaaGreatDoorO31
import Derived.Test.YtflepjgcpdaodaaGreatDoorO26
/- Plain law of the best order of a tournament, and of its kings. No condition. -/
namespace Go.Proofs.YtflepjgcpdaodaaGreatDoor
open Go.RowKit Go.Maps
/-- How many below n. -/
def onesN : Nat → (Nat → Bool) → Nat
 | 0, _ => 0
 | n+1, f => onesN n f + (if f n then 1 else 0)
theorem onesN_succ (n : Nat) (f : Nat → Bool) : onesN (n + 1) f = onesN n f + (if f n then 1 else 0) := rfl
theorem onesN_congr {n : Nat} {f g : Nat → Bool} (h : ∀ i, i < n → f i = g i) : onesN n f = onesN n g := by
 induction n with
 | zero => rfl
 | succ n ih =>
  unfold onesN
  rw [ih fun i hi => h i (by omega), h n (by omega)]
theorem onesN_le (f : Nat → Bool) : ∀ n, onesN n f ≤ n := by
 intro n
 induction n with
 | zero => simp [onesN]
 | succ n ih => unfold onesN; split <;> omega
theorem onesN_more (f : Nat → Bool) {n m : Nat} (h : n ≤ m) (hf : ∀ i, n ≤ i → f i = false) : onesN m f = onesN n f := by
 induction m with
 | zero =>
  obtain rfl : n = 0 := by omega
  rfl
 | succ m ih =>
  by_cases e : n = m + 1
  · rw [e]
  · rw [onesN_succ, ih (by omega), hf m (by omega)]
    simp
/-- One more. -/
theorem onesN_add {f : Nat → Bool} {i : Nat} (hf : f i = false) : ∀ {n : Nat}, i < n → onesN n (fun k => f k || decide (k = i)) = onesN n f + 1 := by
 intro n hi
 induction n with
 | zero => omega
 | succ n ih =>
  unfold onesN
  by_cases e : i = n
  · subst e
    rw [onesN_congr (n := i) (f := fun k => f k || decide (k = i)) (g := f) fun k hk => by
     have : ¬ k = i := by omega
     simp [this]]
    simp [hf]
  · rw [ih (by omega)]
    have : ¬ n = i := fun h => e h.symm
    simp only [this, decide_false, Bool.or_false]
    omega
theorem onesN_lt {f : Nat → Bool} {i : Nat} (hf : f i = false) : ∀ {n : Nat}, i < n → onesN n f + 1 ≤ n := by
 intro n hi
 have h1 := onesN_add hf hi
 have h2 := onesN_le (fun k => f k || decide (k = i)) n
 omega
/-- The size of a set of eight at most. -/
def sz8 (x : Nat) : Nat := onesN 8 x.testBit
theorem sz8_mk {n : Nat} (hn : n ≤ 8) (f : Nat → Bool) : sz8 (mkN n f) = onesN n f := by
 unfold sz8
 rw [onesN_more _ hn fun i hi => by rw [mkN_bit]; simp; omega]
 exact onesN_congr fun i hi => by rw [mkN_bit]; simp [hi]
section
variable (n : Nat) (b : Nat → Nat → Bool)
/-- How many of a set i beats. -/
def ag (S : Nat → Bool) (i : Nat) : Nat := onesN n (fun k => b i k && S k)
def addS (S : Nat → Bool) (i k : Nat) : Bool := S k || decide (k = i)
/-- Who is not in a set. -/
def outS (S : Nat → Bool) : List Nat := (List.range n).filter fun k => !S k
/-- The least number of pairs that the players behind a set bring, of k players more. -/
def valF : Nat → (Nat → Bool) → Nat
 | 0, _ => 0
 | k+1, S => (outS n S).foldl (fun m i => min m (ag n b S i + valF k (addS S i))) (n * n)
/-- How many are behind a set. -/
def lackS (S : Nat → Bool) : Nat := onesN n (fun k => !S k)
def valS (S : Nat → Bool) : Nat := valF n b (lackS n S) S
/-- The first best order of who is behind a set. -/
def wayF : Nat → (Nat → Bool) → List Nat
 | 0, _ => []
 | k+1, S => match (outS n S).find? (fun i => ag n b S i + valS n b (addS S i) == valS n b S) with
  | none => []
  | some i => i :: wayF k (addS S i)
def bestL : List Nat := wayF n b n (fun _ => false)
end
section
variable {n : Nat} {b : Nat → Nat → Bool} {S : Nat → Bool}
theorem mem_outS {i : Nat} : i ∈ outS n S ↔ i < n ∧ S i = false := by
 unfold outS
 simp
theorem lack_add {i : Nat} (hi : i < n) (hs : S i = false) : lackS n (addS S i) + 1 = lackS n S := by
 unfold lackS addS
 have h := onesN_add (f := fun k => !(S k || decide (k = i))) (i := i) (by simp) hi
 rw [← h]
 apply onesN_congr
 intro k _
 by_cases e : k = i
 · subst e; simp [hs]
 · simp [e]
theorem lack_pos {i : Nat} (hi : i < n) (hs : S i = false) : 0 < lackS n S := by have := lack_add hi hs; omega
theorem lack_le : lackS n S ≤ n := onesN_le _ _
theorem lack_zero (h : ∀ k, k < n → S k = true) : lackS n S = 0 := by
 unfold lackS
 rw [onesN_congr (g := fun _ => false) fun i hi => by rw [h i hi]; rfl]
 clear h
 induction n with
 | zero => rfl
 | succ n ih => unfold onesN; rw [ih]; rfl
theorem lack_zero_iff : lackS n S = 0 ↔ ∀ k, k < n → S k = true := by
 refine ⟨fun h k hk => ?_, lack_zero⟩
 cases e : S k with
 | true => rfl
 | false => have := lack_pos hk e; omega
theorem ag_congr {T : Nat → Bool} (h : ∀ k, k < n → S k = T k) (i : Nat) : ag n b S i = ag n b T i := by
 unfold ag
 exact onesN_congr fun k hk => by rw [h k hk]
theorem outS_congr {T : Nat → Bool} (h : ∀ k, k < n → S k = T k) : outS n S = outS n T := by
 unfold outS
 exact List.filter_congr fun k hk => by rw [h k (List.mem_range.1 hk)]
theorem lack_congr {T : Nat → Bool} (h : ∀ k, k < n → S k = T k) : lackS n S = lackS n T := by
 unfold lackS
 exact onesN_congr fun k hk => by rw [h k hk]
theorem addS_congr {T : Nat → Bool} (h : ∀ k, k < n → S k = T k) (i : Nat) : ∀ k, k < n → addS S i k = addS T i k := fun k hk => by
 unfold addS; rw [h k hk]
theorem valF_congr : ∀ (k : Nat) {S T : Nat → Bool}, (∀ j, j < n → S j = T j) → valF n b k S = valF n b k T := by
 intro k
 induction k with
 | zero => intro S T _; rfl
 | succ k ih =>
  intro S T h
  unfold valF
  rw [outS_congr h]
  congr 1
  funext m i
  rw [ag_congr h, ih (addS_congr h i)]
theorem valS_congr {T : Nat → Bool} (h : ∀ j, j < n → S j = T j) : valS n b S = valS n b T := by
 unfold valS
 rw [lack_congr h, valF_congr _ h]
theorem foldl_min_congr {α : Type} {f g : α → Nat} : ∀ (l : List α) (m : Nat), (∀ i ∈ l, f i = g i) → l.foldl (fun m i => min m (f i)) m = l.foldl (fun m i => min m (g i)) m := by
 intro l
 induction l with
 | nil => intro m _; rfl
 | cons x l ih =>
  intro m h
  rw [List.foldl_cons, List.foldl_cons, h x (by simp)]
  exact ih _ fun i hi => h i (by simp [hi])
/-- The step of the table. -/
theorem valS_step (h : lackS n S ≠ 0) : valS n b S = (outS n S).foldl (fun m i => min m (ag n b S i + valS n b (addS S i))) (n * n) := by
 obtain ⟨k, hk⟩ : ∃ k, lackS n S = k + 1 := ⟨lackS n S - 1, by omega⟩
 conv => lhs; unfold valS; rw [hk]; unfold valF
 refine foldl_min_congr _ _ fun i hi => ?_
 have hm := mem_outS.1 hi
 have := lack_add hm.1 hm.2
 unfold valS
 rw [show lackS n (addS S i) = k by omega]
theorem valS_zero (h : lackS n S = 0) : valS n b S = 0 := by
 unfold valS
 rw [h]
 rfl
theorem foldl_min_le {α : Type} {f : α → Nat} : ∀ (l : List α) (m : Nat), l.foldl (fun m i => min m (f i)) m ≤ m ∧ ∀ i ∈ l, l.foldl (fun m i => min m (f i)) m ≤ f i := by
 intro l
 induction l with
 | nil => intro m; exact ⟨Nat.le_refl _, fun i hi => by simp at hi⟩
 | cons x l ih =>
  intro m
  rw [List.foldl_cons]
  obtain ⟨h1, h2⟩ := ih (min m (f x))
  refine ⟨by omega, fun i hi => ?_⟩
  rcases List.mem_cons.1 hi with rfl | hi
  · omega
  · exact h2 i hi
theorem foldl_min_at {α : Type} {f : α → Nat} : ∀ (l : List α) (m : Nat), l.foldl (fun m i => min m (f i)) m = m ∨ ∃ i ∈ l, l.foldl (fun m i => min m (f i)) m = f i := by
 intro l
 induction l with
 | nil => intro m; exact .inl rfl
 | cons x l ih =>
  intro m
  rw [List.foldl_cons]
  rcases ih (min m (f x)) with h | ⟨i, hi, h⟩
  · rcases Nat.le_total m (f x) with hm | hm
    · exact .inl (by omega)
    · exact .inr ⟨x, by simp, by omega⟩
  · exact .inr ⟨i, by simp [hi], h⟩
theorem out_ne (h : lackS n S ≠ 0) : ∃ i, i < n ∧ S i = false := by
 apply Classical.byContradiction
 intro hc
 refine h (lack_zero fun k hk => ?_)
 cases e : S k with
 | true => rfl
 | false => exact absurd ⟨k, hk, e⟩ hc
theorem ag_le (hb : TourOk n b) {i : Nat} (hi : i < n) : ag n b S i ≤ n - 1 := by
 unfold ag
 have := onesN_lt (f := fun k => b i k && S k) (i := i) (by simp [hb.1 i hi]) hi
 omega
theorem valS_le (hb : TourOk n b) : ∀ (k : Nat) (S : Nat → Bool), lackS n S = k → valS n b S ≤ k * (n - 1) := by
 intro k
 induction k with
 | zero => intro S h; rw [valS_zero h]; omega
 | succ k ih =>
  intro S h
  have hne : lackS n S ≠ 0 := by omega
  obtain ⟨i, hi, hs⟩ := out_ne hne
  rw [valS_step hne]
  have h1 := (foldl_min_le (f := fun i => ag n b S i + valS n b (addS S i)) (outS n S) (n * n)).2 i (mem_outS.2 ⟨hi, hs⟩)
  have h2 := lack_add hi hs
  have h3 := ih (addS S i) (by omega)
  have h4 := ag_le (S := S) hb hi
  have h5 : (k + 1) * (n - 1) = k * (n - 1) + (n - 1) := Nat.succ_mul _ _
  omega
theorem valS_lt (hb : TourOk n b) (h : lackS n S ≠ 0) : valS n b S < n * n := by
 have h1 := valS_le hb _ S rfl
 have h2 := lack_le (n := n) (S := S)
 have hn : 0 < n := by omega
 have h3 : lackS n S * (n - 1) ≤ n * (n - 1) := Nat.mul_le_mul_right _ h2
 have h4 : n * (n - 1) < n * n := Nat.mul_lt_mul_of_pos_left (by omega) hn
 omega
theorem valS_bd (hb : TourOk n b) : valS n b S ≤ n * n := by
 by_cases h : lackS n S = 0
 · rw [valS_zero h]; omega
 · exact Nat.le_of_lt (valS_lt hb h)
/-- One of those behind a set is the best. -/
theorem way_some (hb : TourOk n b) (h : lackS n S ≠ 0) : ∃ i, (outS n S).find? (fun i => ag n b S i + valS n b (addS S i) == valS n b S) = some i := by
 rw [← Option.isSome_iff_exists, List.find?_isSome]
 have h1 := valS_lt hb h
 rw [valS_step h] at h1
 rcases foldl_min_at (f := fun i => ag n b S i + valS n b (addS S i)) (outS n S) (n * n) with h2 | ⟨i, hi, h2⟩
 · omega
 · refine ⟨i, hi, ?_⟩
   rw [beq_iff_eq, valS_step h]
   exact h2.symm
theorem way_mem {i : Nat} (h : (outS n S).find? (fun i => ag n b S i + valS n b (addS S i) == valS n b S) = some i) : i < n ∧ S i = false ∧ ag n b S i + valS n b (addS S i) = valS n b S := by
 have h1 := mem_outS.1 (List.mem_of_find?_eq_some h)
 have h2 := List.find?_some h
 exact ⟨h1.1, h1.2, by simpa using h2⟩
theorem way_lt (k : Nat) : ∀ (S : Nat → Bool), ∀ i ∈ wayF n b k S, i < n := by
 induction k with
 | zero => intro S i hi; simp [wayF] at hi
 | succ k ih =>
  intro S i hi
  unfold wayF at hi
  split at hi
  · simp at hi
  · rename_i j hj
    rcases List.mem_cons.1 hi with rfl | hi
    · exact (way_mem hj).1
    · exact ih _ i hi
theorem best_lt {i : Nat} (h : i ∈ bestL n b) : i < n := way_lt _ _ i h
end
end Go.Proofs.YtflepjgcpdaodaaGreatDoor
/- Plain law of the best order and the kings, as MintOrder asks it. No condition. -/
namespace Go.Proofs.YtflepjgcpdaodaaGreatDoor
open Go.RowKit Go.Maps
section
variable {n : Nat} {b : Nat → Nat → Bool} {S : Nat → Bool}
theorem way_len (hb : TourOk n b) : ∀ (k : Nat) (S : Nat → Bool), lackS n S = k → (wayF n b k S).length = k := by
 intro k
 induction k with
 | zero => intro S _; rfl
 | succ k ih =>
  intro S h
  obtain ⟨i, hi⟩ := way_some (n := n) (b := b) (S := S) hb (by omega)
  have hm := way_mem hi
  have := lack_add hm.1 hm.2.1
  unfold wayF
  rw [hi]
  simp only [List.length_cons]
  rw [ih _ (by omega)]
theorem way_new : ∀ (k : Nat) (S : Nat → Bool), ∀ i ∈ wayF n b k S, S i = false := by
 intro k
 induction k with
 | zero => intro S i hi; simp [wayF] at hi
 | succ k ih =>
  intro S i hi
  unfold wayF at hi
  split at hi
  · simp at hi
  · rename_i j hj
    rcases List.mem_cons.1 hi with rfl | hi
    · exact (way_mem hj).2.1
    · have := ih _ i hi
      unfold addS at this
      rw [Bool.or_eq_false_iff] at this
      exact this.1
theorem way_nodup : ∀ (k : Nat) (S : Nat → Bool), (wayF n b k S).Nodup := by
 intro k
 induction k with
 | zero => intro S; simp [wayF]
 | succ k ih =>
  intro S
  unfold wayF
  split
  · simp
  · rename_i j hj
    rw [List.nodup_cons]
    refine ⟨fun hm => ?_, ih _⟩
    have := way_new _ _ j hm
    unfold addS at this
    simp at this
theorem ag_add {i j : Nat} (hi : i < n) (hs : S i = false) : ag n b (addS S i) j = ag n b S j + (if b j i then 1 else 0) := by
 unfold ag addS
 cases e : b j i with
 | false =>
  simp only [if_neg (Bool.false_ne_true), Nat.add_zero]
  apply onesN_congr
  intro k _
  by_cases ek : k = i
  · subst ek; simp [e]
  · simp [ek]
 | true =>
  rw [if_pos rfl]
  rw [← onesN_add (f := fun k => b j k && S k) (i := i) (by simp [hs]) hi]
  apply onesN_congr
  intro k _
  by_cases ek : k = i
  · subst ek; simp [e]
  · simp [ek]
theorem val_le {i : Nat} (hi : i < n) (hs : S i = false) : valS n b S ≤ ag n b S i + valS n b (addS S i) := by
 rw [valS_step (by have := lack_pos hi hs; omega)]
 exact (foldl_min_le (f := fun i => ag n b S i + valS n b (addS S i)) (outS n S) (n * n)).2 i (mem_outS.2 ⟨hi, hs⟩)
/-- Of two that follow each other in the best order the first one beats the second. -/
theorem way_two (hb : TourOk n b) {i j : Nat} (h1 : (outS n S).find? (fun i => ag n b S i + valS n b (addS S i) == valS n b S) = some i)
 (h2 : (outS n (addS S i)).find? (fun k => ag n b (addS S i) k + valS n b (addS (addS S i) k) == valS n b (addS S i)) = some j) : b i j = true := by
 obtain ⟨hi, si, e1⟩ := way_mem h1
 obtain ⟨hj, sj, e2⟩ := way_mem h2
 have hne : j ≠ i := fun e => by subst e; unfold addS at sj; simp at sj
 have sj2 : S j = false := by unfold addS at sj; rw [Bool.or_eq_false_iff] at sj; exact sj.1
 have si2 : addS S j i = false := by unfold addS; simp [si]; exact fun e => hne e.symm
 have v1 := val_le (b := b) hj sj2
 have v2 := val_le (b := b) hi si2
 have a1 := ag_add (b := b) (j := j) hi si
 have a2 := ag_add (b := b) (j := i) hj sj2
 have vc : valS n b (addS (addS S i) j) = valS n b (addS (addS S j) i) := valS_congr fun k _ => by
  unfold addS
  cases S k <;> cases decide (k = i) <;> cases decide (k = j) <;> rfl
 have hx := hb.2 i j hi hj (fun e => hne e.symm)
 cases hij : b i j with
 | true => rfl
 | false =>
  rw [hij] at hx a2
  have hji : b j i = true := by cases e : b j i <;> simp [e] at hx ⊢
  rw [hji, if_pos rfl] at a1
  rw [if_neg Bool.false_ne_true] at a2
  omega
theorem way_cons (k : Nat) (S : Nat → Bool) {i : Nat} {l : List Nat} (h : wayF n b (k + 1) S = i :: l) : (outS n S).find? (fun i => ag n b S i + valS n b (addS S i) == valS n b S) = some i ∧ l = wayF n b k (addS S i) := by
 unfold wayF at h
 split at h
 · cases h
 · rename_i j hj
   cases h
   exact ⟨hj, rfl⟩
theorem way_adj (hb : TourOk n b) : ∀ (k : Nat) (S : Nat → Bool) (q i j : Nat), (wayF n b k S)[q]? = some i → (wayF n b k S)[q + 1]? = some j → b i j = true := by
 intro k
 induction k with
 | zero => intro S q i j h; simp [wayF] at h
 | succ k ih =>
  intro S q i j h1 h2
  cases hw : wayF n b (k + 1) S with
  | nil => rw [hw] at h1; simp at h1
  | cons x l =>
   obtain ⟨e1, e2⟩ := way_cons k S hw
   rw [hw] at h1 h2
   cases q with
   | succ q =>
    simp only [List.getElem?_cons_succ] at h1 h2
    subst e2
    exact ih _ q i j h1 h2
   | zero =>
    simp only [List.getElem?_cons_zero, List.getElem?_cons_succ, Nat.zero_add] at h1 h2
    cases h1
    cases k with
    | zero => subst e2; simp [wayF] at h2
    | succ k =>
     cases hl : l with
     | nil => rw [hl] at h2; simp at h2
     | cons y l2 =>
      rw [hl] at h2
      simp only [List.getElem?_cons_zero] at h2
      cases h2
      rw [hl] at e2
      exact way_two hb e1 (way_cons k _ e2.symm).1
theorem best_len (hb : TourOk n b) : (bestL n b).length = n := by
 have : lackS n (fun _ => false) = n := by
  unfold lackS
  clear hb
  induction n with
  | zero => rfl
  | succ n ih => unfold onesN; rw [ih]; rfl
 exact way_len hb n _ this
theorem best_nodup : (bestL n b).Nodup := way_nodup _ _
theorem best_adj (hb : TourOk n b) (q i j : Nat) (h1 : (bestL n b)[q]? = some i) (h2 : (bestL n b)[q + 1]? = some j) : b i j = true := way_adj hb _ _ q i j h1 h2
/-- The kings: who beats each other one, or one that beats it. -/
def kingB (n : Nat) (b : Nat → Nat → Bool) (i : Nat) : Bool := (List.range n).all fun j => decide (j = i) || (b i j || (List.range n).any fun k => b i k && b k j)
theorem kingB_iff {i : Nat} : kingB n b i = true ↔ ∀ j, j < n → j = i ∨ b i j = true ∨ ∃ k, k < n ∧ b i k = true ∧ b k j = true := by
 unfold kingB
 rw [List.all_eq_true]
 refine ⟨fun h j hj => ?_, fun h j hj => ?_⟩
 · have := h j (List.mem_range.2 hj)
   simp only [Bool.or_eq_true, decide_eq_true_eq, List.any_eq_true, List.mem_range, Bool.and_eq_true] at this
   rcases this with e | e | ⟨k, hk, e1, e2⟩
   · exact .inl e
   · exact .inr (.inl e)
   · exact .inr (.inr ⟨k, hk, e1, e2⟩)
 · simp only [Bool.or_eq_true, decide_eq_true_eq, List.any_eq_true, List.mem_range, Bool.and_eq_true]
   rcases h j (List.mem_range.1 hj) with e | e | ⟨k, hk, e1, e2⟩
   · exact .inl e
   · exact .inr (.inl e)
   · exact .inr (.inr ⟨k, hk, e1, e2⟩)
/-- Who beats all others is the only king. -/
theorem king_alone (hb : TourOk n b) {i m : Nat} (hi : i < n) (hall : ∀ j, j < n → j ≠ i → b i j = true) (hm : m < n) (hk : kingB n b m = true) : m = i := by
 apply Classical.byContradiction
 intro hne
 have h1 := hb.2 m i hm hi hne
 rw [hall m hm hne] at h1
 rcases kingB_iff.1 hk i hi with e | e | ⟨k, hkn, e1, e2⟩
 · exact hne e.symm
 · rw [h1] at e; cases e
 · by_cases ek : k = i
   · subst ek; rw [h1] at e1; cases e1
   · have h2 := hb.2 k i hkn hi ek
     rw [hall k hkn ek, e2] at h2
     cases h2
theorem onesN_mono {f g : Nat → Bool} (h : ∀ i, i < n → f i = true → g i = true) : onesN n f ≤ onesN n g := by
 induction n with
 | zero => simp [onesN]
 | succ n ih =>
  unfold onesN
  have h1 := ih fun i hi => h i (by omega)
  have h2 := h n (by omega)
  split <;> split <;> first | omega | (rename_i a c; exact absurd (h2 a) c)
theorem onesN_strict {f g : Nat → Bool} (h : ∀ i, i < n → f i = true → g i = true) {k : Nat} (hk : k < n) (hf : f k = false) (hg : g k = true) : onesN n f < onesN n g := by
 have h1 := onesN_add hf hk
 have h2 : onesN n (fun m => f m || decide (m = k)) ≤ onesN n g := onesN_mono fun i hi e => by
  rw [Bool.or_eq_true, decide_eq_true_eq] at e
  rcases e with e | rfl
  · exact h i hi e
  · exact hg
 omega
/-- There is a king. -/
theorem king_some (hb : TourOk n b) (hn : 0 < n) : ∃ i, i < n ∧ kingB n b i = true := by
 obtain ⟨i, hi, hmax⟩ : ∃ i, i < n ∧ ∀ j, j < n → onesN n (b j) ≤ onesN n (b i) := by
  clear hb
  have : ∀ m, 0 < m → ∃ i, i < m ∧ ∀ j, j < m → onesN n (b j) ≤ onesN n (b i) := by
   intro m
   induction m with
   | zero => intro h; omega
   | succ m ih =>
    intro _
    by_cases e : m = 0
    · subst e
      refine ⟨0, by omega, fun j hj => ?_⟩
      obtain rfl : j = 0 := by omega
      exact Nat.le_refl _
    · obtain ⟨i, hi, h⟩ := ih (by omega)
      by_cases hc : onesN n (b m) ≤ onesN n (b i)
      · refine ⟨i, by omega, fun j hj => ?_⟩
        by_cases ej : j = m
        · rw [ej]; exact hc
        · exact h j (by omega)
      · refine ⟨m, by omega, fun j hj => ?_⟩
        by_cases ej : j = m
        · rw [ej]; exact Nat.le_refl _
        · have := h j (by omega); omega
  exact this n hn
 refine ⟨i, hi, kingB_iff.2 fun j hj => ?_⟩
 apply Classical.byContradiction
 intro hc
 simp only [not_or, not_exists, not_and] at hc
 obtain ⟨c1, c2, c3⟩ := hc
 have c2' : b i j = false := by simpa using c2
 have hji : b j i = true := by
  have := hb.2 j i hj hi c1
  rw [c2'] at this
  exact this
 have := onesN_strict (n := n) (f := b i) (g := b j) (fun k hk e => by
  by_cases ek : k = j
  · subst ek; rw [c2'] at e; cases e
  · have h1 := hb.2 j k hj hk (fun e => ek e.symm)
    have h2 := c3 k hk e
    have h3 : b k j = false := by simpa using h2
    rw [h3] at h1
    exact h1) (k := i) hi (hb.1 i hi) hji
 have := hmax j hj
 omega
end
end Go.Proofs.YtflepjgcpdaodaaGreatDoor
/- Walks of ranks' players and of its closure. Condition: the library's table of 64 numbers stands in its variable; the set's box is known. -/
namespace Go.Proofs.YtflepjgcpdaodaaGreatDoor
open Go.RowKit Go.Shelf
attribute [local go_sem] Oper.semAt_some
set_option maxRecDepth 100000 in
/-- The maker: the set is boxed, and the function value holds the box. -/
theorem playersF (s : Int) (w : World) :
 Calls Tryz.prog 28 #[.int .i64 s] w fun e w' => e = .returned (.func (.func 47) #[] #[.pointer (some ⟨w.heap.size, 0, none⟩)]) ∧ w.alloc (.cells #[.int .i64 s] 3) = w' := by
 go_enter Tryz.func28, Tryz.ntmps28
 go_wp2
 go_ret
 exact ⟨rfl, rfl⟩
set_option maxRecDepth 100000 in
set_option maxHeartbeats 2000000 in
theorem players_iter (n c s : Nat) (xs : List Nat) (W : World) (hx : Elems s xs) (hc : Blk W c 3 #[.int .i64 s]) :
 IterC Tryz.prog n 47 c 3 xs W := fun l J Jx hS hT hY W1 hW1 h0 => by
 have hc1 : Blk W1 c 3 #[.int .i64 s] := hW1.trans hc
 refine callsIn_of_wp Tryz.func47 rfl trivial ?_ rfl
 simp only [Tryz.ntmps47, List.size_toArray, List.length_cons, List.length_nil, Nat.reduceAdd, Nat.reduceSub, Array.replicate_succ, Array.replicate_zero, List.push_toArray, List.append_toArray, List.nil_append, List.cons_append]
 gi_wp2
 gi_loopw [3] (fun _ wr => ∃ (k s' : Nat), k ≤ xs.length ∧ Elems s' (xs.drop k) ∧ Blk wr c 3 #[.int .i64 s'] ∧ J k wr) (fun _ wr => boxN wr c)
 case atStart => exact ⟨0, s, Nat.zero_le _, hx, hc1, h0⟩
 case round =>
  obtain ⟨k, s', hk, he, hb, hj⟩ := hrel
  have HB := hid hb
  have HJ := hid hj
  have HK := hid hk
  have c0 := hb.cell 0
  simp only [List.getElem?_toArray, List.getElem?_cons_zero] at c0
  have f0 := hb.free 0
  cases hd : xs.drop k with
  | nil =>
   rw [hd] at he
   obtain rfl : s' = 0 := he
   have hkl : k = xs.length := by have := List.drop_eq_nil_iff.1 hd; omega
   subst hkl
   clear hd hb hj hk
   gi_wp2
   go_end0
   exact ⟨⟨_, rfl⟩, .inl HJ.out⟩
  | cons x rest =>
   rw [hd] at he
   obtain ⟨hne, hlt, rfl, hr⟩ := he
   have hxk : xs[k]? = some (Lib.ctz 64 s') := by
    have : (xs.drop k)[0]? = some (Lib.ctz 64 s') := by rw [hd]; rfl
    simpa using this
   have hkl : k < xs.length := (List.getElem?_eq_some_iff.1 hxk).1
   have hdr : xs.drop (k + 1) = rest := by rw [← List.drop_drop, hd]; rfl
   have HR := hid hr
   have HD := hid hdr
   have HL := hid hkl
   have HNE := hid hne
   obtain ⟨fn, tmps, assign, body, hy, hR⟩ := hY k _ wr hj hxk ⟨_, hb⟩
   have HTZ := hid (tzU s' (by omega) wr (hT k wr hj))
   clear hd hb hj hk hr hdr hxk hkl
   generalize Lib.ctz 64 s' = z at *
   have q1 : ((s' : Int) != 0) = true := by rw [bne_iff_ne]; omega
   have q2 : (s' != 0) = true := by rw [bne_iff_ne]; exact hne
   gi_wp2
   refine ⟨trivial, (fun h => by cases h), (callsIn_wide.2 HTZ.out).mono ?_⟩
   rintro e w' ⟨rfl, rfl⟩
   gi_wp2
   refine ⟨(fun h => by cases h), hR.mono ?_⟩
   rintro e W3 (⟨rfl, hj3, hc3⟩ | ⟨rfl, hx3⟩)
   · have hb3 : Blk W3 c 3 #[.int .i64 s'] := hc3.trans HB.out
     have d0 := hb3.cell 0
     simp only [List.getElem?_toArray, List.getElem?_cons_zero] at d0
     have f3 := hb3.free 0
     have HB3 := hid (hb3.set 0 (.int .i64 (s' &&& (s' - 1) : Nat)))
     have HJ3 := hid (hS _ _ (.int .i64 (s' &&& (s' - 1) : Nat)) hj3)
     have hand : bits .and .i64 (s' : Int) ((s' : Int) - 1) = ((s' &&& (s' - 1) : Nat) : Int) := by
      have := i64_and s' (s' - 1) (by omega) (by omega)
      rwa [show ((s' - 1 : Nat) : Int) = (s' : Int) - 1 by omega] at this
     have HM := hid (and_pred_lt hne)
     have HBN := hid (boxN_of HB.out)
     clear hj3 hc3 hb3
     generalize s' &&& (s' - 1) = s2 at *
     gi_wp2
     go_roundw
     case rel => exact ⟨k + 1, s2, HL.out, by rw [HD.out]; exact HR.out, HB3.out, HJ3.out⟩
     case measure => rw [boxN_of HB3.out, HBN.out]; exact HM.out
   · gi_wp2
     refine bodyPost_ret (results_none rfl _ _ _) rfl ?_
     exact ⟨⟨_, rfl⟩, .inr hx3⟩
end Go.Proofs.YtflepjgcpdaodaaGreatDoor
