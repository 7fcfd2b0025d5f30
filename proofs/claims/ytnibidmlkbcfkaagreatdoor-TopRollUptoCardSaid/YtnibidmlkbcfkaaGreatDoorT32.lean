/- Texts of this proof, one behind the other; each says its condition at its head. -/
import Derived.Test.YtnibidmlkbcfkaaGreatDoorT31
import Derived.Test.YtnibidmlkbcfkaaGreatDoorT24
import Derived.Test.YtnibidmlkbcfkaaGreatDoorT26
import Derived.Test.YtnibidmlkbcfkaaGreatDoorT28
import Derived.Test.YtnibidmlkbcfkaaGreatDoorT27
namespace Go.Proofs.YtnibidmlkbcfkaaGreatDoor
/- Walk of ranks.Order. Conditions: a tournament of one to eight players; the library's table of 64 numbers stands in its variable. -/
section
open Go.RowKit Go.Shelf
attribute [local go_sem] Oper.semAt_some
attribute [local go_sem ↓] shl_p2 shr_v and_shr
end
/- Walks of the questions order and kings. Conditions: what a mint's books keep; the library's variables stand. -/
section
open Go.RowKit Go.Maps
attribute [local go_sem ↓] shr_v and_shr
theorem TourI.bits {l : List Int} (h : TourI l) : l = ordL l.length (bitsOf l) ∧ TourOk l.length (bitsOf l) := by
 obtain ⟨b, h1, h2⟩ := h
 have h3 : ∀ i j, i < l.length → j < l.length → bitsOf l i j = b i j := fun i j hi hj => by
  conv => lhs; rw [h1]
  exact bits_ordL hi hj
 exact ⟨h1.trans (ordL_congr fun i j hi hj => (h3 i j hi hj).symm), h2.congr fun i j hi hj => (h3 i j hi hj).symm⟩
theorem nm_size {l : List ByteArray} (h : ∀ v ∈ l, isNm v = true) : ∀ s ∈ l, s.size ≤ 100 := fun s hs => by
 have h1 := h s hs
 unfold isNm at h1
 simp only [Bool.and_eq_true, decide_eq_true_eq] at h1
 omega
end
/- Plain law of MintOrder: what the journal says of the players, and what the replies to order and kings read as. No condition. -/
section
open Go.RowKit Go.Maps
theorem idx_nodup {l : List ByteArray} (hn : l.Nodup) {i : Nat} (hi : i < l.length) : idxZ l (l.getD i ByteArray.empty) = i := by
 have he : l[i]? = some (l.getD i ByteArray.empty) := by rw [List.getD_eq_getElem?_getD, List.getElem?_eq_getElem hi]; rfl
 refine idxZ_at _ l i he (fun j hj h => ?_)
 have h1 : l[j]? = l[i]? := h.trans he.symm
 have := (List.getElem?_inj (by omega) hn).1 h1
 omega
theorem nmd_size (names : List ByteArray) (h : ∀ s ∈ names, s.size ≤ 100) : ∀ (l : List Nat) (v : ByteArray), (nmd v names l).size ≤ v.size + 101 * l.length
 | [], v => by simp [nmd]
 | i :: l, v => by
  have h1 : nmd v names (i :: l) = nmd (v ++ (⟨#[32]⟩ ++ names.getD i ByteArray.empty)) names l := rfl
  have h2 := nmd_size names h l (v ++ (⟨#[32]⟩ ++ names.getD i ByteArray.empty))
  have h3 : (names.getD i ByteArray.empty).size ≤ 100 := by
   rw [List.getD_eq_getElem?_getD]
   cases he : names[i]? with
   | none => exact Nat.zero_le _
   | some x => exact h x (List.mem_of_getElem? he)
  have h4 : (v ++ ((⟨#[32]⟩ : ByteArray) ++ names.getD i ByteArray.empty)).size = v.size + (1 + (names.getD i ByteArray.empty).size) := by rw [ByteArray.size_append, ByteArray.size_append]; rfl
  rw [h1, List.length_cons]
  omega
end
/- Plain law of counting lines: the lines with i before j and those with j before i are all lines of a free pair. No program in sight. -/
section
open Go.RowKit
/-- The elements of a set below 64, rising. -/
def bitsL (s : Nat) : List Nat := (List.range 6).filter fun i => s.testBit i
def clr (s i : Nat) : Nat := s - 2 ^ i
/-- i can come last in the set s. -/
def lastB (n : Nat) (a : Nat → Nat → Bool) (s i : Nat) : Bool := (List.range n).all fun j => (!a j i || s.testBit j) && !(a i j && s.testBit j)
/-- What is counted for the first m sets. -/
def wayL (n : Nat) (a : Nat → Nat → Bool) : Nat → List Nat
 | 0 => []
 | m + 1 => wayL n a m ++ [if m = 0 then 1 else ((bitsL m).map fun i => if lastB n a m i = true then (wayL n a m).getD (clr m i) 0 else 0).sum]
def ways (n : Nat) (a : Nat → Nat → Bool) (s : Nat) : Nat := (wayL n a (s + 1)).getD s 0
def term (n : Nat) (a : Nat → Nat → Bool) (s i : Nat) : Nat := if lastB n a s i = true then ways n a (clr s i) else 0
theorem wayL_len (n : Nat) (a : Nat → Nat → Bool) : ∀ m, (wayL n a m).length = m
 | 0 => rfl
 | m + 1 => by unfold wayL; simp [wayL_len n a m]
theorem wayL_get (n : Nat) (a : Nat → Nat → Bool) {k : Nat} : ∀ {m}, k < m → (wayL n a m).getD k 0 = ways n a k
 | m + 1, h => by
  by_cases e : k = m
  · subst e; rfl
  · have h1 : k < m := by omega
    rw [← wayL_get n a h1]
    conv => lhs; unfold wayL
    rw [List.getD_eq_getElem?_getD, List.getElem?_append_left (by rw [wayL_len]; exact h1), List.getD_eq_getElem?_getD]
set_option maxRecDepth 100000 in
theorem bits_all : (List.range 64).all (fun s => (List.range 6).all fun i => !s.testBit i || (decide (2 ^ i ≤ s) && decide (clr s i < s) && decide ((bitsL (clr s i)).length + 1 = (bitsL s).length) && (List.range 6).all fun j => (clr s i).testBit j == (s.testBit j && !decide (j = i)))) = true := by decide +kernel
theorem bit_lt {s i : Nat} (hs : s < 64) (h : s.testBit i = true) : i < 6 := by
 rcases Nat.lt_or_ge i 6 with h1 | h1
 · exact h1
 · rw [Nat.testBit_lt_two_pow (Nat.lt_of_lt_of_le hs (Nat.pow_le_pow_right (by decide) h1 : 2 ^ 6 ≤ 2 ^ i))] at h
   cases h
theorem clr_facts {s i : Nat} (hs : s < 64) (h : s.testBit i = true) : 2 ^ i ≤ s ∧ clr s i < s ∧ (bitsL (clr s i)).length + 1 = (bitsL s).length ∧ ∀ j, (clr s i).testBit j = (s.testBit j && !decide (j = i)) := by
 have h1 := List.all_eq_true.1 (List.all_eq_true.1 bits_all s (List.mem_range.2 hs)) i (List.mem_range.2 (bit_lt hs h))
 simp only [h, Bool.not_true, Bool.false_or, Bool.and_eq_true, decide_eq_true_eq, List.all_eq_true, List.mem_range, beq_iff_eq] at h1
 obtain ⟨⟨⟨h2, h3⟩, h4⟩, h5⟩ := h1
 refine ⟨h2, h3, h4, fun j => ?_⟩
 rcases Nat.lt_or_ge j 6 with hj | hj
 · exact h5 j hj
 · have e1 : (clr s i).testBit j = false := Nat.testBit_lt_two_pow (Nat.lt_of_lt_of_le (by omega : clr s i < 2 ^ 6) (Nat.pow_le_pow_right (by decide) hj))
   have e2 : s.testBit j = false := Nat.testBit_lt_two_pow (Nat.lt_of_lt_of_le (by omega : s < 2 ^ 6) (Nat.pow_le_pow_right (by decide) hj))
   rw [e1, e2]; rfl
theorem mem_bits {s i : Nat} (hs : s < 64) : i ∈ bitsL s ↔ s.testBit i = true := by
 unfold bitsL
 rw [List.mem_filter, List.mem_range]
 exact ⟨fun h => h.2, fun h => ⟨bit_lt hs h, h⟩⟩
theorem ways_zero (n : Nat) (a : Nat → Nat → Bool) : ways n a 0 = 1 := rfl
theorem ways_eq {n : Nat} {a : Nat → Nat → Bool} {s : Nat} (hs : s < 64) (h0 : s ≠ 0) : ways n a s = ((bitsL s).map (term n a s)).sum := by
 unfold ways
 conv => lhs; unfold wayL
 rw [List.getD_eq_getElem?_getD, List.getElem?_append_right (by rw [wayL_len]; exact Nat.le_refl _), wayL_len, Nat.sub_self]
 simp only [List.getElem?_cons_zero, Option.getD_some, if_neg h0]
 congr 1
 refine List.map_congr_left fun i hi => ?_
 have hb := (mem_bits hs).1 hi
 unfold term
 split
 · rw [wayL_get n a (clr_facts hs hb).2.1]
 · rfl
theorem sum_congr2 {l : List Nat} {f g h : Nat → Nat} (e : ∀ i ∈ l, f i = g i + h i) : (l.map f).sum = (l.map g).sum + (l.map h).sum := by
 induction l with
 | nil => rfl
 | cons x l ih =>
  simp only [List.map_cons, List.sum_cons]
  have := e x (by simp)
  have := ih fun i hi => e i (by simp [hi])
  omega
theorem sum_congr1 {l : List Nat} {f g : Nat → Nat} (e : ∀ i ∈ l, f i = g i) : (l.map f).sum = (l.map g).sum := by rw [List.map_congr_left e]
theorem sum_bd {l : List Nat} {f : Nat → Nat} {c : Nat} (e : ∀ i ∈ l, f i ≤ c) : (l.map f).sum ≤ l.length * c := by
 induction l with
 | nil => simp
 | cons x l ih =>
  simp only [List.map_cons, List.sum_cons, List.length_cons]
  have := e x (by simp)
  have := ih fun i hi => e i (by simp [hi])
  rw [Nat.succ_mul]
  omega
theorem sum_pos {l : List Nat} {f : Nat → Nat} {i : Nat} (hi : i ∈ l) (h : 0 < f i) : 0 < (l.map f).sum := by
 induction l with
 | nil => simp at hi
 | cons x l ih =>
  simp only [List.map_cons, List.sum_cons]
  rcases List.mem_cons.1 hi with rfl | hi
  · omega
  · have := ih hi; omega
/-- What is below an element of the set is in the set. -/
def Ideal (n : Nat) (a : Nat → Nat → Bool) (s : Nat) : Prop := ∀ i j, i < n → j < n → s.testBit i = true → a j i = true → s.testBit j = true
theorem last_iff {n : Nat} {a : Nat → Nat → Bool} {s i : Nat} : lastB n a s i = true ↔ ∀ j, j < n → (a j i = true → s.testBit j = true) ∧ (a i j = true → s.testBit j = false) := by
 unfold lastB
 rw [List.all_eq_true]
 constructor
 · intro h j hj
   have := h j (List.mem_range.2 hj)
   simp only [Bool.and_eq_true, Bool.or_eq_true, Bool.not_eq_true', Bool.and_eq_false_iff] at this
   obtain ⟨h1, h2⟩ := this
   refine ⟨fun e => ?_, fun e => ?_⟩
   · rcases h1 with h1 | h1
     · rw [e] at h1; cases h1
     · exact h1
   · rcases h2 with h2 | h2
     · rw [e] at h2; cases h2
     · exact h2
 · intro h j hj
   obtain ⟨h1, h2⟩ := h j (List.mem_range.1 hj)
   cases e1 : a j i <;> cases e2 : a i j <;> cases e3 : s.testBit j <;> simp_all
theorem lt_six {n s i : Nat} (hs : s < 2 ^ n) (h : s.testBit i = true) : i < n := by
 rcases Nat.lt_or_ge i n with h1 | h1
 · exact h1
 · rw [Nat.testBit_lt_two_pow (Nat.lt_of_lt_of_le hs (Nat.pow_le_pow_right (by decide) h1))] at h
   cases h
theorem p64 {n s : Nat} (hn : n ≤ 6) (hs : s < 2 ^ n) : s < 64 := Nat.lt_of_lt_of_le hs (Nat.pow_le_pow_right (by decide) hn : 2 ^ n ≤ 2 ^ 6)
theorem ideal_clr {n : Nat} {a : Nat → Nat → Bool} {s i : Nat} (hn : n ≤ 6) (hs : s < 2 ^ n) (hi : s.testBit i = true) (hd : Ideal n a s) (hl : lastB n a s i = true) : Ideal n a (clr s i) := by
 intro x y hx hy h1 h2
 have hf := (clr_facts (p64 hn hs) hi).2.2.2
 rw [hf] at h1 ⊢
 simp only [Bool.and_eq_true, Bool.not_eq_true', decide_eq_false_iff_not] at h1 ⊢
 refine ⟨hd x y hx hy h1.1 h2, fun e => ?_⟩
 subst e
 have := (last_iff.1 hl x hx).2 h2
 rw [h1.1] at this
 cases this
theorem add_at {a : Nat → Nat → Bool} {i j k m : Nat} : addA a i j k m = true ↔ a k m = true ∨ ((k = i ∨ a k i = true) ∧ (a j m = true ∨ m = j)) := by
 unfold addA
 split
 · rename_i h
   simp only [Bool.or_eq_true, decide_eq_true_eq]
   exact ⟨fun h2 => h2.elim .inl fun h3 => .inr ⟨h, h3⟩, fun h2 => h2.elim .inl fun h3 => .inr h3.2⟩
 · rename_i h
   exact ⟨.inl, fun h2 => h2.elim id fun h3 => absurd h3.1 h⟩
/-- Where j is not in the set, an order with j above i more counts the same. -/
theorem ways_off {n : Nat} {a : Nat → Nat → Bool} {i j : Nat} (hn : n ≤ 6) (_hi : i < n) (hj : j < n) : ∀ (m s : Nat), s ≤ m → s < 2 ^ n → s.testBit j = false → Ideal n a s → ways n (addA a i j) s = ways n a s := by
 intro m
 induction m with
 | zero => intro s hm hs h hd; obtain rfl : s = 0 := (by omega); rfl
 | succ m ih =>
  intro s hm hs h hd
  by_cases h0 : s = 0
  · subst h0; rfl
  rw [ways_eq (p64 hn hs) h0, ways_eq (p64 hn hs) h0]
  refine sum_congr1 fun k hk => ?_
  have hb := (mem_bits (p64 hn hs)).1 hk
  have hkn := lt_six hs hb
  obtain ⟨f1, f2, f3, f4⟩ := clr_facts (p64 hn hs) hb
  have hkj : k ≠ j := fun e => by subst e; rw [h] at hb; cases hb
  have hjk : a j k = false := by
   cases e : a j k with
   | false => rfl
   | true => rw [hd k j hkn hj hb e] at h; cases h
  have hlast : lastB n (addA a i j) s k = lastB n a s k := by
   rw [Bool.eq_iff_iff, last_iff, last_iff]
   refine forall_congr' fun x => forall_congr' fun hx => ?_
   have e1 : addA a i j x k = true ↔ a x k = true := by
    rw [add_at]
    refine ⟨fun e => e.elim id fun e => ?_, .inl⟩
    rcases e.2 with e2 | e2
    · rw [hjk] at e2; cases e2
    · exact absurd e2 hkj
   rw [e1]
   refine and_congr Iff.rfl ⟨fun e h2 => e (add_at.2 (.inl h2)), fun e h2 => ?_⟩
   rcases add_at.1 h2 with h3 | ⟨_, h3 | h3⟩
   · exact e h3
   · cases e5 : s.testBit x with
     | false => rfl
     | true => rw [hd x j hx hj e5 h3] at h; cases h
   · subst h3; exact h
  unfold term
  rw [hlast]
  split
  · rename_i hl
    exact ih (clr s k) (by omega) (by omega) (by rw [f4, h]; rfl) (ideal_clr hn hs hb hd hl)
  · rfl
theorem ways_both {n : Nat} {a : Nat → Nat → Bool} {i j : Nat} (hn : n ≤ 6) (_ho : OrdOk n a) (hi : i < n) (hj : j < n) (hij : i ≠ j) (h1 : a i j = false) (h2 : a j i = false) :
 ∀ (m s : Nat), s ≤ m → s < 2 ^ n → s.testBit i = true → s.testBit j = true → Ideal n a s → ways n a s = ways n (addA a i j) s + ways n (addA a j i) s := by
 intro m
 induction m with
 | zero => intro s hm hs hsi; obtain rfl : s = 0 := (by omega); simp at hsi
 | succ m ih =>
  intro s hm hs hsi hsj hd
  have h0 : s ≠ 0 := fun e => by subst e; simp at hsi
  rw [ways_eq (p64 hn hs) h0, ways_eq (p64 hn hs) h0, ways_eq (p64 hn hs) h0]
  refine sum_congr2 fun k hk => ?_
  have hb := (mem_bits (p64 hn hs)).1 hk
  have hkn := lt_six hs hb
  obtain ⟨f1, f2, f3, f4⟩ := clr_facts (p64 hn hs) hb
  have key : ∀ i j, i < n → j < n → i ≠ j → a i j = false → a j i = false → s.testBit i = true → s.testBit j = true → k = j → term n a s k = term n (addA a i j) s k ∧ term n (addA a j i) s k = 0 := by
   intro i j hi hj hij h1 h2 hsi hsj hkj
   subst hkj
   constructor
   · have hlast : lastB n (addA a i k) s k = lastB n a s k := by
      rw [Bool.eq_iff_iff, last_iff, last_iff]
      refine forall_congr' fun x => forall_congr' fun hx => ?_
      have e1 : addA a i k k x = true ↔ a k x = true := by
       rw [add_at]
       refine ⟨fun e => e.elim id fun e => ?_, .inl⟩
       rcases e.1 with e2 | e2
       · exact absurd e2.symm hij
       · rw [h2] at e2; cases e2
      rw [e1]
      refine and_congr ⟨fun e h3 => e (add_at.2 (.inl h3)), fun e h3 => ?_⟩ Iff.rfl
      rcases add_at.1 h3 with h4 | ⟨h4 | h4, _⟩
      · exact e h4
      · subst h4; exact hsi
      · exact hd i x hi hx hsi h4
     unfold term
     rw [hlast]
     split
     · rename_i hl
       exact (ways_off hn hi hj _ _ (Nat.le_refl _) (by omega) (by rw [f4]; simp) (ideal_clr hn hs hb hd hl)).symm
     · rfl
   · unfold term
     rw [if_neg]
     intro hl
     have := (last_iff.1 hl i hi).2 (add_at.2 (.inr ⟨.inl rfl, .inr rfl⟩))
     rw [hsi] at this; cases this
  by_cases ej : k = j
  · obtain ⟨k1, k2⟩ := key i j hi hj hij h1 h2 hsi hsj ej
    omega
  by_cases ei : k = i
  · obtain ⟨k1, k2⟩ := key j i hj hi (Ne.symm hij) h2 h1 hsj hsi ei
    omega
  have none : ∀ (v : Nat), v < n → s.testBit v = true → a k v = true → term n a s k = term n (addA a i j) s k + term n (addA a j i) s k := by
   intro v hv hsv hav
   have k1 : ∀ b : Nat → Nat → Bool, b k v = true → term n b s k = 0 := fun b hbv => by
    unfold term
    rw [if_neg]
    intro hl
    have := (last_iff.1 hl v hv).2 hbv
    rw [hsv] at this; cases this
   rw [k1 a hav, k1 _ (add_at.2 (.inl hav)), k1 _ (add_at.2 (.inl hav))]
  by_cases aki : a k i = true
  · exact none i hi hsi aki
  by_cases akj : a k j = true
  · exact none j hj hsj akj
  have same : ∀ i j, i < n → j < n → s.testBit i = true → k ≠ i → ¬ a k i = true → lastB n (addA a i j) s k = lastB n a s k := by
   intro i j hi hj hsi hki haki
   rw [Bool.eq_iff_iff, last_iff, last_iff]
   refine forall_congr' fun x => forall_congr' fun hx => ?_
   have e1 : addA a i j k x = true ↔ a k x = true := by
    rw [add_at]
    refine ⟨fun e => e.elim id fun e => ?_, .inl⟩
    rcases e.1 with e2 | e2
    · exact absurd e2 hki
    · exact absurd e2 haki
   rw [e1]
   refine and_congr ⟨fun e h3 => e (add_at.2 (.inl h3)), fun e h3 => ?_⟩ Iff.rfl
   rcases add_at.1 h3 with h4 | ⟨h4 | h4, _⟩
   · exact e h4
   · subst h4; exact hsi
   · exact hd i x hi hx hsi h4
  unfold term
  rw [same i j hi hj hsi ei aki, same j i hj hi hsj ej akj]
  split
  · rename_i hl
    exact ih (clr s k) (by omega) (by omega) (by rw [f4, hsi]; simp [Ne.symm ei]) (by rw [f4, hsj]; simp [Ne.symm ej]) (ideal_clr hn hs hb hd hl)
  · rfl
theorem max_of {n : Nat} {a : Nat → Nat → Bool} (ho : OrdOk n a) : ∀ l : List Nat, l ≠ [] → (∀ x ∈ l, x < n) → ∃ k ∈ l, ∀ m ∈ l, a k m = false
 | [], h, _ => absurd rfl h
 | [x], _, h => ⟨x, by simp, fun m hm => by rw [List.mem_singleton] at hm; subst hm; exact ho.1 m (h m (by simp))⟩
 | x :: y :: l, _, h => by
  obtain ⟨k, hk, hm⟩ := max_of ho (y :: l) (by simp) fun z hz => h z (by simp at hz ⊢; exact .inr hz)
  have hx := h x (by simp)
  have hkn := h k (by simp at hk ⊢; exact .inr hk)
  cases e : a k x with
  | false =>
   refine ⟨k, by simp at hk ⊢; exact .inr hk, fun m h2 => ?_⟩
   rcases List.mem_cons.1 h2 with rfl | h2
   · exact e
   · exact hm m h2
  | true =>
   refine ⟨x, by simp, fun m h2 => ?_⟩
   rcases List.mem_cons.1 h2 with rfl | h2
   · exact ho.1 m hx
   · cases e2 : a x m with
     | false => rfl
     | true =>
      have := ho.2 k x m hkn hx (h m (by simp at h2 ⊢; exact .inr h2)) e e2
      rw [hm m h2] at this; cases this
theorem ways_pos {n : Nat} {a : Nat → Nat → Bool} (hn : n ≤ 6) (ho : OrdOk n a) : ∀ (m s : Nat), s ≤ m → s < 2 ^ n → Ideal n a s → 0 < ways n a s := by
 intro m
 induction m with
 | zero => intro s hm hs hd; obtain rfl : s = 0 := (by omega); rw [ways_zero]; decide
 | succ m ih =>
  intro s hm hs hd
  by_cases h0 : s = 0
  · subst h0; rw [ways_zero]; decide
  have hne : bitsL s ≠ [] := by
   obtain ⟨i, hi⟩ := Nat.exists_testBit_of_ne_zero h0
   intro e
   have := (mem_bits (p64 hn hs)).2 hi
   rw [e] at this
   simp at this
  obtain ⟨k, hk, hmx⟩ := max_of ho (bitsL s) hne fun x hx => lt_six hs ((mem_bits (p64 hn hs)).1 hx)
  have hb := (mem_bits (p64 hn hs)).1 hk
  obtain ⟨f1, f2, f3, f4⟩ := clr_facts (p64 hn hs) hb
  have hl : lastB n a s k = true := last_iff.2 fun j hj => ⟨fun e => hd k j (lt_six hs hb) hj hb e, fun e => by
   cases e2 : s.testBit j with
   | false => rfl
   | true => rw [hmx j ((mem_bits (p64 hn hs)).2 e2)] at e; cases e⟩
  rw [ways_eq (p64 hn hs) h0]
  refine sum_pos hk ?_
  unfold term
  rw [if_pos hl]
  exact ih (clr s k) (by omega) (by omega) (ideal_clr hn hs hb hd hl)
def facN : Nat → Nat
 | 0 => 1
 | n + 1 => (n + 1) * facN n
theorem facN_pos : ∀ n, 1 ≤ facN n
 | 0 => Nat.le_refl _
 | n + 1 => Nat.le_trans (facN_pos n) (Nat.le_mul_of_pos_left _ (by omega))
theorem facN_le : ∀ {m n : Nat}, m ≤ n → facN m ≤ facN n
 | m, 0, h => by obtain rfl : m = 0 := (by omega); exact Nat.le_refl _
 | m, n + 1, h => by
  by_cases e : m = n + 1
  · subst e; exact Nat.le_refl _
  · exact Nat.le_trans (facN_le (by omega : m ≤ n)) (Nat.le_mul_of_pos_left _ (by omega))
theorem ways_bd {n : Nat} {a : Nat → Nat → Bool} (hn : n ≤ 6) : ∀ (m s : Nat), s ≤ m → s < 2 ^ n → ways n a s ≤ facN (bitsL s).length := by
 intro m
 induction m with
 | zero => intro s hm hs; obtain rfl : s = 0 := (by omega); rw [ways_zero]; exact facN_pos _
 | succ m ih =>
  intro s hm hs
  by_cases h0 : s = 0
  · subst h0; rw [ways_zero]; exact facN_pos _
  rw [ways_eq (p64 hn hs) h0]
  obtain ⟨L, hL⟩ : ∃ L, (bitsL s).length = L + 1 := by
   obtain ⟨i, hi⟩ := Nat.exists_testBit_of_ne_zero h0
   exact ⟨_, (clr_facts (p64 hn hs) hi).2.2.1.symm⟩
  have hbd := sum_bd (l := bitsL s) (f := term n a s) (c := facN L) fun k hk => by
   have hb := (mem_bits (p64 hn hs)).1 hk
   obtain ⟨f1, f2, f3, f4⟩ := clr_facts (p64 hn hs) hb
   unfold term
   split
   · have := ih (clr s k) (by omega) (by omega)
     rwa [show (bitsL (clr s k)).length = L by omega] at this
   · exact Nat.zero_le _
  rw [hL] at hbd ⊢
  exact hbd
/-- How many lines there are. -/
def allW (n : Nat) (a : Nat → Nat → Bool) : Nat := ways n a (2 ^ n - 1)
theorem all_ideal {n : Nat} {a : Nat → Nat → Bool} : Ideal n a (2 ^ n - 1) := fun i j _ hj _ _ => by rw [Nat.testBit_two_pow_sub_one]; exact decide_eq_true hj
theorem allW_pos {n : Nat} {a : Nat → Nat → Bool} (hn : n ≤ 6) (ho : OrdOk n a) : 0 < allW n a := ways_pos hn ho _ _ (Nat.le_refl _) (by have := Nat.pow_pos (n := n) (show 0 < 2 by decide); omega) all_ideal
theorem allW_bd {n : Nat} {a : Nat → Nat → Bool} (hn : n ≤ 6) : allW n a ≤ 720 := by
 have h1 := ways_bd (a := a) hn _ (2 ^ n - 1) (Nat.le_refl _) (by have := Nat.pow_pos (n := n) (show 0 < 2 by decide); omega)
 have h2 : (bitsL (2 ^ n - 1)).length ≤ 6 := by
  unfold bitsL
  exact Nat.le_trans (List.length_filter_le _ _) (by simp)
 exact Nat.le_trans h1 (facN_le h2)
/-- In how many lines i stands before j. -/
def befW (n : Nat) (a : Nat → Nat → Bool) (i j : Nat) : Nat := if a i j = true then allW n a else if a j i = true then 0 else allW n (addA a i j)
theorem befW_sum {n : Nat} {a : Nat → Nat → Bool} (hn : n ≤ 6) (ho : OrdOk n a) {i j : Nat} (hi : i < n) (hj : j < n) (hij : i ≠ j) : befW n a i j + befW n a j i = allW n a := by
 unfold befW
 cases h1 : a i j with
 | true =>
  have h2 : a j i = false := by
   cases h2 : a j i with
   | false => rfl
   | true => have := ho.2 i j i hi hj hi h1 h2; rw [ho.1 i hi] at this; cases this
  simp [h2]
 | false =>
  cases h2 : a j i with
  | true => simp
  | false =>
   simp only [if_neg Bool.false_ne_true]
   have h3 : ∀ v, v < n → (2 ^ n - 1).testBit v = true := fun v hv => by rw [Nat.testBit_two_pow_sub_one]; exact decide_eq_true hv
   exact (ways_both hn ho hi hj hij h1 h2 _ _ (Nat.le_refl _) (by have := Nat.pow_pos (n := n) (show 0 < 2 by decide); omega) (h3 i hi) (h3 j hj) all_ideal).symm
end
/- Plain law of counting, in the program's words: sets as bits, elements in their order. No program in sight. -/
section
open Go.RowKit Go.Shelf
def elemsB : Nat → List Nat → Bool
 | s, [] => decide (s = 0)
 | s, x :: xs => decide (s ≠ 0) && decide (s < 9223372036854775808) && decide (x = Lib.ctz 64 s) && elemsB (s &&& (s - 1)) xs
theorem elemsB_ok : ∀ (xs : List Nat) (s : Nat), elemsB s xs = true → Elems s xs
 | [], s, h => by
  have h : decide (s = 0) = true := h
  show s = 0
  simpa using h
 | x :: xs, s, h => by
  unfold elemsB at h
  simp only [Bool.and_eq_true, decide_eq_true_eq] at h
  exact ⟨h.1.1.1, h.1.1.2, h.1.2, elemsB_ok xs _ h.2⟩
set_option maxRecDepth 100000 in
theorem elems_bits_all : (List.range 64).all (fun s => elemsB s (bitsL s)) = true := by kernel_rfl
theorem elems_bits {s : Nat} (h : s < 64) : Elems s (bitsL s) := elemsB_ok _ _ (List.all_eq_true.1 elems_bits_all s (List.mem_range.2 h))
def last1 (n : Nat) (a : Nat → Nat → Bool) (s i : Nat) : Bool := (List.range n).all fun j => !a j i || s.testBit j
def last2 (n : Nat) (a : Nat → Nat → Bool) (s i : Nat) : Bool := (List.range n).all fun j => !(a i j && s.testBit j)
theorem last_and (n : Nat) (a : Nat → Nat → Bool) (s i : Nat) : lastB n a s i = (last1 n a s i && last2 n a s i) := by
 unfold lastB last1 last2
 rw [Bool.eq_iff_iff, Bool.and_eq_true, List.all_eq_true, List.all_eq_true, List.all_eq_true]
 simp only [Bool.and_eq_true]
 exact ⟨fun h => ⟨fun j hj => (h j hj).1, fun j hj => (h j hj).2⟩, fun h j hj => ⟨h.1 j hj, h.2 j hj⟩⟩
theorem bits_last1 {n : Nat} {a : Nat → Nat → Bool} {s i : Nat} (hn : n ≤ 6) (hs : s < 2 ^ n) : (bits .andNot .i64 (mk n fun k => a k i) (s : Int) == 0) = last1 n a s i := by
 rw [mk_of hs, mk_andNot (by omega), Bool.eq_iff_iff, beq_iff_eq, mk_zero_iff]
 unfold last1
 rw [List.all_eq_true]
 constructor
 · intro h j hj
   have := h j (List.mem_range.1 hj)
   cases e1 : a j i <;> cases e2 : s.testBit j <;> simp_all
 · intro h j hj
   have := h j (List.mem_range.2 hj)
   cases e1 : a j i <;> cases e2 : s.testBit j <;> simp_all
theorem bits_last2 {n : Nat} {a : Nat → Nat → Bool} {s i : Nat} (hn : n ≤ 6) (hs : s < 2 ^ n) : (bits .and .i64 (mk n (a i)) (s : Int) == 0) = last2 n a s i := by
 rw [mk_of hs, mk_and (by omega), Bool.eq_iff_iff, beq_iff_eq, mk_zero_iff]
 unfold last2
 rw [List.all_eq_true]
 constructor
 · intro h j hj
   have := h j (List.mem_range.1 hj)
   rw [this]; rfl
 · intro h j hj
   have := h j (List.mem_range.2 hj)
   cases e1 : a i j <;> cases e2 : s.testBit j <;> simp_all
theorem bits_clr {n : Nat} {s i : Nat} (hn : n ≤ 6) (hs : s < 2 ^ n) (hi : s.testBit i = true) : bits .andNot .i64 (s : Int) (p2 i) = (clr s i : Nat) := by
 have hin := lt_six hs hi
 obtain ⟨f1, f2, f3, f4⟩ := clr_facts (p64 hn hs) hi
 rw [mk_of hs, ← mk_single hin, mk_andNot (by omega), mk_of (show clr s i < 2 ^ n by omega)]
 apply mk_congr
 intro j _
 rw [f4]
/-- What the counts of the first m sets are. -/
def waysV (n : Nat) (a : Nat → Nat → Bool) (m : Nat) (s : Nat) : Int := if s < m then (ways n a s : Nat) else 0
theorem term_bd {n : Nat} {a : Nat → Nat → Bool} (hn : n ≤ 6) {s : Nat} (hs : s < 2 ^ n) {l : List Nat} (hl : ∀ i ∈ l, s.testBit i = true) (h6 : l.length ≤ 6) : (l.map (term n a s)).sum ≤ 4320 := by
 refine Nat.le_trans (sum_bd (c := 720) fun i hi => ?_) (Nat.mul_le_mul_right 720 h6)
 obtain ⟨f1, f2, f3, f4⟩ := clr_facts (p64 hn hs) (hl i hi)
 unfold term
 split
 · refine Nat.le_trans (ways_bd hn _ _ (Nat.le_refl _) (by omega)) (facN_le (n := 6) ?_)
   unfold bitsL
   exact Nat.le_trans (List.length_filter_le _ _) (by simp)
 · exact Nat.zero_le _
theorem bits_len (s : Nat) : (bitsL s).length ≤ 6 := by
 unfold bitsL
 exact Nat.le_trans (List.length_filter_le _ _) (by simp)
end
/- A region that draws, in a function that ranges over functions, outside of its rounds: it is walked as in any other. No condition. -/
section
open Go.RowKit Go.Shelf
section
variable {P : Program} {ops : Array Oper} {Q : Exit → Act → World → Prop} {S : World → Prop} {md : Region.Mode}
theorem upon_wide {o : Oper} {a : Act} {next : Act → World → Prop} {r : Result Next} {n : Nat} (h : o.upon P a next Q r) : o.uponIn Fence.wide n P a next Q r := by
 cases r with
 | ok v w =>
  cases v with
  | value v => exact h
  | skip => exact h
  | defer d => exact h
  | enter f args => exact ⟨(fun h => by cases h), callsIn_wide.2 h⟩
  | row row args => exact ⟨(fun h => by cases h), fun c cs _ => let ⟨v, w', r, s⟩ := h c cs; ⟨v, w', r, stepsIn_wide.2 s⟩⟩
  | _ => exact h.elim
 | halt h0 w => cases h0 <;> exact h
theorem op_wide {i n : Nat} {K K' : Act → World → Prop} {a : Act} {w : World} (hd : noDefer ops = true) (hL : ¬ LetsOut Q) (hK : ∀ a w, K a w → K' a w) (h : wpOp P ops Q i K a w) : wpOpIn Fence.wide n P ops Q i K' a w := by
 refine wpOpIn_mono hK ?_
 unfold wpOp at h
 unfold wpOpIn
 cases ho : ops[i]? with
 | none => rw [ho] at h; exact h
 | some o =>
  rw [ho] at h
  simp only at h ⊢
  split
  · rename_i hw
    rw [if_pos hw] at h
    rcases h with h | h
    · refine ⟨fun _ _ => trivial, ?_⟩
      rw [Oper.semAt_eq _ _ _ (noDefer_at hd ho)]
      exact upon_wide h
    · exact absurd h.2 hL
  · rename_i hw
    rw [if_neg hw] at h
    exact ⟨fun _ _ => trivial, h⟩
theorem any_wide {n : Nat} (hd : noDefer ops = true) (hL : ¬ LetsOut Q) : ∀ (fuel : Nat) (listed : Array Bool) (a : Act) (w : World), wpAnyH P md ops Q S fuel listed a w → wpAnyIn Fence.wide n P md ops Q fuel listed a w
 | 0, _, _, _, h => h
 | fuel + 1, _, _, _, h => ⟨h.1, fun i hi => op_wide hd hL (fun a w hk => any_wide hd hL fuel _ a w hk.2) (h.2 i hi)⟩
theorem region_wide {id n : Nat} {a : Act} {w : World} (hm : P.follows .mixedOrders = true) (hd : noDefer ops = true) (hL : ¬ LetsOut Q) (hS : S w.drew)
 (h : S w.drew → wpAnyH P .any ops Q S ops.size (Array.replicate ops.size false) a w.drew) : (Code.region id ops true).wpIn Fence.wide n P Q a w :=
 wpIn_region_any hm (any_wide hd hL _ _ _ _ (h hS))
end
end
end Go.Proofs.YtnibidmlkbcfkaaGreatDoor
