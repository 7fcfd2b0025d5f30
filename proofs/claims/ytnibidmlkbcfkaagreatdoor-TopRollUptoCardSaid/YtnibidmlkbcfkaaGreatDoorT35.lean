/- Texts of this proof, one behind the other; each says its condition at its head. -/
import Derived.Test.YtnibidmlkbcfkaaGreatDoorT32
import Derived.Test.YtnibidmlkbcfkaaGreatDoorT34
import Derived.Test.YtnibidmlkbcfkaaGreatDoorT31
import Derived.Test.YtnibidmlkbcfkaaGreatDoorT28
import Derived.Test.YtnibidmlkbcfkaaGreatDoorT24
import Derived.Test.YtnibidmlkbcfkaaGreatDoorT6
namespace Go.Proofs.YtnibidmlkbcfkaaGreatDoor
/- Plain law of the medals' journal: what its lines say of names and of what is above what. No condition. -/
section
open Go.RowKit Go.Maps
def sMedal : ByteArray := ⟨#[109, 101, 100, 97, 108]⟩
def sAbove : ByteArray := ⟨#[97, 98, 111, 118, 101]⟩
/-- What a line does to the medals and to their order. -/
inductive RollLn (s : Bk) (x : ByteArray) (s' : Bk) : Prop
 | medal (v : ByteArray) : wordOf x = sMedal → parts x = [sMedal, v] → s.medals.length < 6 → s'.medals = s.medals ++ [v] → s'.above = s.above ++ [0] → RollLn s x s'
 | above (v k : ByteArray) (i j : Nat) : wordOf x = sAbove → parts x = [sAbove, v, k] → idxZ s.medals k = i → idxZ s.medals v = j → i < s.medals.length → j < s.medals.length → i ≠ j → bitsOf s.above i j = false → bitsOf s.above j i = false → s'.medals = s.medals → s'.above = ordL s.medals.length (addA (bitsOf s.above) i j) → RollLn s x s'
 | other : wordOf x ≠ sMedal → wordOf x ≠ sAbove → s'.medals = s.medals → s'.above = s.above → RollLn s x s'
theorem rollLn {s s' : Bk} {x : ByteArray} (hb : BkT s) (h : KindL s x s') : RollLn s x s' := by
 cases h with
 | player v h1 h2 h3 => exact .other (word_no h1 (by decide)) (word_no h1 (by decide)) (by unfold playerL; split <;> rfl) (by unfold playerL; split <;> rfl)
 | beat v k h1 h2 h3 => exact .other (word_no h1 (by decide)) (word_no h1 (by decide)) (by unfold beatL; split <;> first | (split <;> rfl) | rfl) (by unfold beatL; split <;> first | (split <;> rfl) | rfl)
 | batch a b c d h1 h2 h3 => exact .other (word_no h1 (by decide)) (word_no h1 (by decide)) (by unfold layL; split <;> rfl) (by unfold layL; split <;> rfl)
 | pan a b c d h1 h2 h3 => exact .other (word_no h1 (by decide)) (word_no h1 (by decide)) (by unfold panL; split <;> rfl) (by unfold panL; split <;> rfl)
 | bet v k h1 h2 h3 => exact .other (word_no h1 (by decide)) (word_no h1 (by decide)) (by unfold betL; split <;> first | rfl | (split <;> first | rfl | (split <;> rfl))) (by unfold betL; split <;> first | rfl | (split <;> first | rfl | (split <;> rfl)))
 | medal v h1 h2 h3 =>
  have hw : wordOf x = sMedal := word_is h1 rfl
  have hp := lineL_parts h2 rfl
  rw [hw] at hp
  unfold medalL at h3 ⊢
  by_cases he : (enterL s.medals v 6).2 = 0
  · rw [if_pos he]
    have h4 := enterL_len he
    have h5 := hb.bk.1.med
    have h6 : (enterL s.medals v 6).1 = s.medals ++ [v] := by
     unfold enterL at he ⊢
     by_cases e1 : v ∈ s.medals
     · rw [if_pos e1] at he; cases he
     · by_cases e2 : s.medals.length = 6
       · rw [if_neg e1, if_pos e2] at he; cases he
       · rw [if_neg e1, if_neg e2]
    exact .medal v hw hp (by omega) h6 rfl
  · rw [if_neg he] at h3
    exact absurd h3 he
 | above v k h1 h2 h3 =>
  have hw : wordOf x = sAbove := word_is h1 rfl
  have hp := lineL_parts h2 rfl
  rw [hw] at hp
  have hal := hb.bk.1.abv
  obtain ⟨ht1, ht2⟩ := hb.bk.2.bits
  have b1 := idxZ_bd v s.medals
  have b2 := idxZ_bd k s.medals
  unfold rankL at h3 ⊢
  by_cases e1 : 0 ≤ idxZ s.medals v ∧ 0 ≤ idxZ s.medals k
  · rw [if_pos e1] at h3 ⊢
    obtain ⟨j, hj⟩ := Int.eq_ofNat_of_zero_le e1.1
    obtain ⟨i, hi⟩ := Int.eq_ofNat_of_zero_le e1.2
    have hadd : addZ s.above i j = if i = j ∨ bitsOf s.above i j = true ∨ bitsOf s.above j i = true then (s.above, 5) else (ordL s.above.length (addA (bitsOf s.above) i j), 0) := by
     have := addZ_ordL (n := s.above.length) (a := bitsOf s.above) (i := i) (j := j) (by omega) (by omega)
     rwa [← ht1] at this
    rw [hi, hj, Int.toNat_natCast, Int.toNat_natCast, hadd] at h3 ⊢
    by_cases e2 : i = j ∨ bitsOf s.above i j = true ∨ bitsOf s.above j i = true
    · rw [if_pos e2] at h3; cases h3
    · rw [if_neg e2]
      simp only [not_or, Bool.not_eq_true] at e2
      exact .above v k i j hw hp hi hj (by omega) (by omega) e2.1 e2.2.1 e2.2.2 rfl (by rw [← hal]; rfl)
  · rw [if_neg e1] at h3; cases h3
theorem bits_push (l : List Int) {i : Nat} (hi : i < l.length) (j : Nat) : bitsOf (l ++ [0]) i j = bitsOf l i j := by
 unfold bitsOf
 rw [List.getD_eq_getElem?_getD, List.getD_eq_getElem?_getD, List.getElem?_append_left hi]
theorem addA_keep {a : Nat → Nat → Bool} {i j k m : Nat} (h : a k m = true) : addA a i j k m = true := by
 unfold addA
 rw [h]
 split <;> rfl
theorem addA_new (a : Nat → Nat → Bool) (i j : Nat) : addA a i j i j = true := by
 unfold addA
 rw [if_pos (.inl rfl)]
 simp
/-- What was said to be above what is so in the order. -/
def PrI (s : Bk) (P : List (ByteArray × ByteArray)) : Prop := ∀ p ∈ P, ∃ i j, i < s.medals.length ∧ j < s.medals.length ∧ s.medals[i]? = some p.1 ∧ s.medals[j]? = some p.2 ∧ bitsOf s.above i j = true
theorem PrI.other {s s' : Bk} {P : List (ByteArray × ByteArray)} (h : PrI s P) (h1 : s'.medals = s.medals) (h2 : s'.above = s.above) : PrI s' P := fun p hp => by
 rw [h1, h2]; exact h p hp
theorem PrI.medal {s s' : Bk} {P : List (ByteArray × ByteArray)} (h : PrI s P) (hal : s.above.length = s.medals.length) {v : ByteArray} (h1 : s'.medals = s.medals ++ [v]) (h2 : s'.above = s.above ++ [0]) : PrI s' P := fun p hp => by
 obtain ⟨i, j, hi, hj, e1, e2, e3⟩ := h p hp
 rw [h1, h2]
 exact ⟨i, j, by rw [List.length_append, List.length_singleton]; omega, by rw [List.length_append, List.length_singleton]; omega, by rw [List.getElem?_append_left hi]; exact e1, by rw [List.getElem?_append_left hj]; exact e2, by rw [bits_push _ (by omega)]; exact e3⟩
theorem PrI.above {s s' : Bk} {P : List (ByteArray × ByteArray)} (h : PrI s P) {v k : ByteArray} {i j : Nat} (hk : s.medals[i]? = some k) (hv : s.medals[j]? = some v) (h1 : s'.medals = s.medals) (h2 : s'.above = ordL s.medals.length (addA (bitsOf s.above) i j)) : PrI s' (P ++ [(k, v)]) := fun p hp => by
 rw [h1, h2]
 rcases List.mem_append.1 hp with hp | hp
 · obtain ⟨x, y, hx, hy, e1, e2, e3⟩ := h p hp
   exact ⟨x, y, hx, hy, e1, e2, by rw [bits_ordL hx hy]; exact addA_keep e3⟩
 · rw [List.mem_singleton] at hp
   subst hp
   have hi := (List.getElem?_eq_some_iff.1 hk).1
   have hj := (List.getElem?_eq_some_iff.1 hv).1
   exact ⟨i, j, hi, hj, hk, hv, by rw [bits_ordL hi hj]; exact addA_new _ _ _⟩
/-- The sum of both chances. -/
theorem cha_sum {n : Nat} {a : Nat → Nat → Bool} (hn : n ≤ 6) (ho : OrdOk n a) {i j : Nat} (hi : i < n) (hj : j < n) (hij : i ≠ j) :
 0 < (chaN n a i j).2 ∧ (chaN n a i j).2 ≤ 720 ∧ (chaN n a i j).1 ≤ (chaN n a i j).2 ∧ (chaN n a i j).1 * (chaN n a j i).2 + (chaN n a j i).1 * (chaN n a i j).2 = (chaN n a i j).2 * (chaN n a j i).2 := by
 have hs := befW_sum hn ho hi hj hij
 have hp := allW_pos hn ho
 have hbd := allW_bd (a := a) hn
 unfold chaN
 generalize befW n a i j = p at *
 generalize befW n a j i = q at *
 generalize allW n a = d at *
 have g1 : Nat.gcd p d ∣ p := Nat.gcd_dvd_left _ _
 have g2 : Nat.gcd p d ∣ d := Nat.gcd_dvd_right _ _
 have g3 : Nat.gcd q d ∣ q := Nat.gcd_dvd_left _ _
 have g4 : Nat.gcd q d ∣ d := Nat.gcd_dvd_right _ _
 have gp : 0 < Nat.gcd p d := Nat.gcd_pos_of_pos_right _ hp
 have gq : 0 < Nat.gcd q d := Nat.gcd_pos_of_pos_right _ hp
 simp only
 generalize Nat.gcd p d = g at *
 generalize Nat.gcd q d = h at *
 obtain ⟨p', rfl⟩ := g1
 obtain ⟨d1, hd1⟩ := g2
 obtain ⟨q', rfl⟩ := g3
 obtain ⟨d2, hd2⟩ := g4
 rw [Nat.mul_div_cancel_left _ gp, Nat.mul_div_cancel_left _ gq]
 have e1 : d / g = d1 := by rw [hd1, Nat.mul_div_cancel_left _ gp]
 have e2 : d / h = d2 := by rw [hd2, Nat.mul_div_cancel_left _ gq]
 rw [e1, e2]
 have hd1p : 0 < d1 := by
  rcases Nat.eq_zero_or_pos d1 with e | e
  · rw [e, Nat.mul_zero] at hd1; omega
  · exact e
 refine ⟨hd1p, ?_, ?_, ?_⟩
 · have := Nat.le_mul_of_pos_left d1 gp
   omega
 · have : g * p' ≤ g * d1 := by omega
   exact Nat.le_of_mul_le_mul_left this gp
 · have h3 : (g * h) * (p' * d2 + q' * d1) = (g * h) * (d1 * d2) := by
    have a1 : (g * h) * (p' * d2 + q' * d1) = (g * p') * (h * d2) + (h * q') * (g * d1) := by
     simp only [Nat.mul_add, Nat.mul_comm, Nat.mul_left_comm]
    have a2 : (g * h) * (d1 * d2) = (g * d1) * (h * d2) := by
     simp only [Nat.mul_comm, Nat.mul_left_comm]
    rw [a1, a2, ← hd1, ← hd2, ← Nat.add_mul, hs]
   exact Nat.eq_of_mul_eq_mul_left (Nat.mul_pos gp gq) h3
end
/- Plain law of TopRoll: the order that Close makes of the pairs said so far is the state's. No condition. -/
section
open Go.RowKit Go.Maps
def foldA (P : List (Nat × Nat)) : Nat → Nat → Bool := P.foldl (fun a p => addA a p.1 p.2) (fun _ _ => false)
theorem foldA_snoc (P : List (Nat × Nat)) (p : Nat × Nat) : foldA (P ++ [p]) = addA (foldA P) p.1 p.2 := by unfold foldA; rw [List.foldl_append]; rfl
def cnt6 (a : Nat → Nat → Bool) : Nat := onesN 6 (a 0) + onesN 6 (a 1) + onesN 6 (a 2) + onesN 6 (a 3) + onesN 6 (a 4) + onesN 6 (a 5)
theorem cnt6_bd {a : Nat → Nat → Bool} (h : ∀ i, a i i = false) : cnt6 a ≤ 30 := by
 have f := fun (i : Nat) (hi : i < 6) => onesN_lt (h i) hi
 have := f 0 (by omega); have := f 1 (by omega); have := f 2 (by omega); have := f 3 (by omega); have := f 4 (by omega); have := f 5 (by omega)
 unfold cnt6
 omega
theorem cnt6_add {a : Nat → Nat → Bool} {i j : Nat} (hi : i < 6) (hj : j < 6) (h : a i j = false) : cnt6 a + 1 ≤ cnt6 (addA a i j) := by
 have m := fun k => onesN_mono (n := 6) (f := a k) (g := addA a i j k) fun m _ e => addA_keep e
 have s := onesN_strict (n := 6) (f := a i) (g := addA a i j i) (fun m _ e => addA_keep e) hj h (addA_new a i j)
 have m0 := m 0; have m1 := m 1; have m2 := m 2; have m3 := m 3; have m4 := m 4; have m5 := m 5
 unfold cnt6
 rcases (show i = 0 ∨ i = 1 ∨ i = 2 ∨ i = 3 ∨ i = 4 ∨ i = 5 by omega) with rfl | rfl | rfl | rfl | rfl | rfl <;> omega
theorem bits_out (n : Nat) (a : Nat → Nat → Bool) {i m : Nat} (hi : i < n) (hm : n ≤ m) : bitsOf (ordL n a) i m = false := by
 have h1 : (ordL n a).getD i 0 = mk n (a i) := ordL_get _ hi
 unfold bitsOf
 rw [h1]
 have h2 : mk n (a i) = ((mkN n (a i) : Nat) : Int) := rfl
 rw [h2, Int.toNat_natCast, mkN_bit]
 rw [decide_eq_false (by omega)]
 rfl
theorem addA_same {a b : Nat → Nat → Bool} {n i j k m : Nat} (h : ∀ x y, x < n → y < n → a x y = b x y) (hi : i < n) (hj : j < n) (hk : k < n) (hm : m < n) : addA a i j k m = addA b i j k m := by
 unfold addA
 rw [h k i hk hi, h k m hk hm, h j m hj hm]
/-- What Close makes of the pairs so far is the state's order. -/
structure ClI (s : Bk) (P : List (Nat × Nat)) : Prop where
 eq : ∀ i j, i < s.medals.length → j < s.medals.length → bitsOf s.above i j = foldA P i j
 sup : ∀ i j, foldA P i j = true → i < s.medals.length ∧ j < s.medals.length
 ok : ∀ k p, P[k]? = some p → p.1 < s.medals.length ∧ p.2 < s.medals.length ∧ p.1 ≠ p.2 ∧ foldA (P.take k) p.2 p.1 = false
 len : P.length ≤ cnt6 (foldA P)
theorem ClI.begin : ClI bk0 [] := ⟨fun i j hi => absurd hi (Nat.not_lt_zero _), (fun i j h => by cases h), (fun k p h => by cases h), Nat.zero_le _⟩
theorem ClI.other {s s' : Bk} {P : List (Nat × Nat)} (h : ClI s P) (h1 : s'.medals = s.medals) (h2 : s'.above = s.above) : ClI s' P := ⟨by rw [h1, h2]; exact h.eq, by rw [h1]; exact h.sup, by rw [h1]; exact h.ok, h.len⟩
theorem ClI.medal {s s' : Bk} {P : List (Nat × Nat)} (h : ClI s P) (hs : BkT s) {v : ByteArray} (h1 : s'.medals = s.medals ++ [v]) (h2 : s'.above = s.above ++ [0]) : ClI s' P := by
 have hal := hs.bk.1.abv
 obtain ⟨ht1, ht2⟩ := hs.bk.2.bits
 refine ⟨?_, ?_, ?_, h.len⟩
 · rw [h1, h2, List.length_append, List.length_singleton]
   intro i j hi hj
   by_cases e1 : i < s.medals.length
   · rw [bits_push _ (by omega)]
     by_cases e2 : j < s.medals.length
     · exact h.eq i j e1 e2
     · have hb : bitsOf s.above i j = false := by
        have := bits_out s.above.length (bitsOf s.above) (i := i) (m := j) (by omega) (by omega)
        rwa [← ht1] at this
       rw [hb]
       cases e3 : foldA P i j with
       | false => rfl
       | true => exact absurd (h.sup i j e3).2 e2
   · have hb : bitsOf (s.above ++ [0]) i j = false := by
      unfold bitsOf
      rw [List.getD_eq_getElem?_getD, List.getElem?_append_right (by omega)]
      cases e4 : i - s.above.length with
      | zero => simp
      | succ q => simp
     rw [hb]
     cases e3 : foldA P i j with
     | false => rfl
     | true => exact absurd (h.sup i j e3).1 e1
 · rw [h1, List.length_append, List.length_singleton]
   intro i j e
   have := h.sup i j e
   omega
 · rw [h1, List.length_append, List.length_singleton]
   intro k p hp
   have := h.ok k p hp
   exact ⟨by omega, by omega, this.2.2.1, this.2.2.2⟩
theorem ClI.above {s s' : Bk} {P : List (Nat × Nat)} (h : ClI s P) (hs : BkT s) {i j : Nat} (hi : i < s.medals.length) (hj : j < s.medals.length) (hij : i ≠ j) (b1 : bitsOf s.above i j = false) (b2 : bitsOf s.above j i = false) (h1 : s'.medals = s.medals) (h2 : s'.above = ordL s.medals.length (addA (bitsOf s.above) i j)) : ClI s' (P ++ [(i, j)]) := by
 have hml := hs.bk.1.med
 refine ⟨?_, ?_, ?_, ?_⟩
 · rw [h1, h2, foldA_snoc]
   intro x y hx hy
   rw [bits_ordL hx hy]
   exact addA_same h.eq hi hj hx hy
 · rw [h1, foldA_snoc]
   intro x y e
   rcases add_at.1 e with e | ⟨e1, e2⟩
   · exact h.sup x y e
   · refine ⟨?_, ?_⟩
     · rcases e1 with e1 | e1
       · simp only at e1; omega
       · exact (h.sup _ _ e1).1
     · rcases e2 with e2 | e2
       · exact (h.sup _ _ e2).2
       · simp only at e2; omega
 · rw [h1]
   intro k p hp
   by_cases hk : k < P.length
   · rw [List.getElem?_append_left hk] at hp
     rw [List.take_append_of_le_length (by omega)]
     exact h.ok k p hp
   · have hkl := (List.getElem?_eq_some_iff.1 hp).1
     rw [List.length_append, List.length_singleton] at hkl
     have hke : k = P.length := by omega
     subst hke
     rw [List.getElem?_append_right (Nat.le_refl _), Nat.sub_self] at hp
     simp only [List.getElem?_cons_zero, Option.some.injEq] at hp
     subst hp
     rw [List.take_append_of_le_length (Nat.le_refl _), List.take_length]
     exact ⟨hi, hj, hij, by rw [← h.eq j i hj hi]; exact b2⟩
 · rw [foldA_snoc, List.length_append, List.length_singleton]
   have := h.len
   have := cnt6_add (a := foldA P) (i := i) (j := j) (by omega) (by omega) (by rw [← h.eq i j hi hj]; exact b1)
   simp only
   omega
theorem ClI.few {s : Bk} {P : List (Nat × Nat)} (h : ClI s P) (hs : BkT s) : P.length ≤ 30 := by
 refine Nat.le_trans h.len (cnt6_bd fun i => ?_)
 cases e : foldA P i i with
 | false => rfl
 | true =>
  have hi := (h.sup i i e).1
  have hal := hs.bk.1.abv
  obtain ⟨ht1, ht2⟩ := hs.bk.2.bits
  have := ht2.1 i (by omega)
  rw [h.eq i i hi hi, e] at this
  cases this
theorem ClI.ord {s : Bk} {P : List (Nat × Nat)} (h : ClI s P) (hs : BkT s) : s.above = ordL s.medals.length (foldA P) ∧ OrdOk s.medals.length (foldA P) := by
 have hal := hs.bk.1.abv
 obtain ⟨ht1, ht2⟩ := hs.bk.2.bits
 rw [hal] at ht1 ht2
 have hc : ordL s.medals.length (bitsOf s.above) = ordL s.medals.length (foldA P) := ordL_congr fun i j hi hj => h.eq i j hi hj
 refine ⟨ht1.trans hc, fun i hi => by rw [← h.eq i i hi hi]; exact ht2.1 i hi, fun i j k hi hj hk e1 e2 => ?_⟩
 rw [← h.eq i j hi hj] at e1
 rw [← h.eq j k hj hk] at e2
 rw [← h.eq i k hi hk]
 exact ht2.2 i j k hi hj hk e1 e2
end
/- Walk of order's Close, where all pairs can be added. Conditions: one to six elements, at most thirty pairs; the library's table stands. -/
section
open Go.RowKit Go.Maps Go.Shelf
attribute [local go_sem ↓] shl_p2 shr_v and_shr
def pI (P : List (Nat × Nat)) : List (Int × Int) := P.map fun p => ((p.1 : Int), (p.2 : Int))
theorem pI_get {P : List (Nat × Nat)} {k : Nat} {u : Int × Int} (h : (pI P)[k]? = some u) : ∃ p, P[k]? = some p ∧ u = ((p.1 : Int), (p.2 : Int)) := by
 unfold pI at h
 rw [List.getElem?_map] at h
 cases hp : P[k]? with
 | none => rw [hp] at h; cases h
 | some p => rw [hp] at h; cases h; exact ⟨p, rfl, rfl⟩
theorem oc_zero (n k : Nat) : oc n (fun _ _ => false) k = 0 := by
 unfold oc
 split
 · exact mk_none n
 · rfl
theorem ordC_zero (n : Nat) : ordC n (fun _ _ => false) = #[.int .i64 (n : Nat), .int .i64 0, .int .i64 0, .int .i64 0, .int .i64 0, .int .i64 0, .int .i64 0] := by
 unfold ordC
 simp only [oc_zero]
set_option maxRecDepth 100000 in
set_option maxHeartbeats 2000000 in
theorem cloElem (n : Nat) (a : Nat → Nat → Bool) (b i j : Nat) (hi : i < n) (hj : j < n) (w : World) (h : Blk w b 78 (ordC n a)) :
 Calls Tryz.prog 38 #[.agg #[.int .i64 (i : Nat), .int .i64 (j : Nat)], .pointer (some ⟨b, 0, none⟩)] w fun e w' => e = .returned (.bool false) ∧ Below w.heap.size w w' := by
 have HE1 := hid fun W => elementF n a i hi W
 have HE2 := hid fun W => elementF n a j hj W
 have HB := hid (h.keep ((Below.refl w.heap.size w).alloc (Nat.le_refl _) (.cells #[.int .i64 (i : Nat), .int .i64 (j : Nat)] 31)))
 have HB1 := hid ((Below.refl w.heap.size w).alloc (Nat.le_refl _) (.cells #[.int .i64 (i : Nat), .int .i64 (j : Nat)] 31))
 have HBX := hid (Blk.new w 31 #[.int .i64 (i : Nat), .int .i64 (j : Nat)])
 unfold ordC at HB HE1 HE2
 have o0 := HB.out.cell 0
 have o1 := HB.out.cell 1
 have o2 := HB.out.cell 2
 have o3 := HB.out.cell 3
 have o4 := HB.out.cell 4
 have o5 := HB.out.cell 5
 have o6 := HB.out.cell 6
 have x0 := HBX.out.cell 0
 have x1 := HBX.out.cell 1
 simp only [List.getElem?_toArray, List.getElem?_cons_zero, List.getElem?_cons_succ] at o0 o1 o2 o3 o4 o5 o6 x0 x1
 clear h
 go_enter Tryz.func38, Tryz.ntmps38
 go_wp2_with fail
 refine (HE1.out _).mono ?_; rintro e w2 ⟨rfl, b2⟩
 have HB := hid (HB.out.keep b2)
 have HBX := hid (HBX.out.keep b2)
 have HB2 := hid (below_call HB1.out b2 HB1.out.size)
 have o0 := HB.out.cell 0
 have o1 := HB.out.cell 1
 have o2 := HB.out.cell 2
 have o3 := HB.out.cell 3
 have o4 := HB.out.cell 4
 have o5 := HB.out.cell 5
 have o6 := HB.out.cell 6
 have x0 := HBX.out.cell 0
 have x1 := HBX.out.cell 1
 simp only [List.getElem?_toArray, List.getElem?_cons_zero, List.getElem?_cons_succ] at o0 o1 o2 o3 o4 o5 o6 x0 x1
 clear b2
 go_wp2_with fail
 refine (HE2.out _).mono ?_; rintro e w3 ⟨rfl, b3⟩
 have HB3 := hid (below_call HB2.out b3 HB2.out.size)
 clear b3
 go_wp2
 go_ret
 exact ⟨rfl, HB3.out⟩
set_option maxRecDepth 100000 in
set_option maxHeartbeats 2000000 in
theorem cloIdx (n : Nat) (a : Nat → Nat → Bool) (b : Nat) (P : List (Nat × Nat)) (hP : ∀ p ∈ P, p.1 < n ∧ p.2 < n) (m : Nat) (A : Option Addr) (c : Nat) (w : World) (h : Blk w b 78 (ordC n a)) (hs : Sl2 w A m c (pI P)) (hm : m ≤ 30) :
 Calls Tryz.prog 70 #[.slice A m c, .func (.func 38) #[] #[.pointer (some ⟨b, 0, none⟩)]] w fun e w' => e = .returned (.int .i64 (-1)) ∧ Below w.heap.size w w' := by
 have he : ∀ args W, (callFunc 38 args).run Tryz.prog W = .ok (.enter 38 args) W := fun args W => enters Tryz.func38 (by kernel_rfl) rfl args W
 have HCE := hid fun i j hi hj W (hW : Below w.heap.size w W) => cloElem n a b i j hi hj W (h.keep hW)
 have HS := hid hs
 have HPP := hid hP
 have hcap := hs.cap
 have hcapm := hs.capm
 clear h hs hP
 go_enter Tryz.func70, Tryz.ntmps70
 go_wp2
 go_loopg [8] m (fun gk i wr => ∃ d : Nat, gk + d = m ∧ i = .int .i64 d ∧ Hid (Below w.heap.size w wr))
 case atStart => exact ⟨0, by omega, rfl, hid (Below.refl _ _)⟩
 case round =>
  obtain ⟨d, hd, rfl, HW⟩ := hrel
  have HD := hid hd
  by_cases hlt : d < m
  · have HLT := hid hlt
    obtain ⟨b0, o, u, rfl, lb1, e1, ca, cb⟩ := (HS.out.below HW.out).at hlt
    obtain ⟨p, hp, rfl⟩ := pI_get e1
    obtain ⟨hp1, hp2⟩ := HPP.out p (List.mem_of_getElem? hp)
    have HC := hid (HCE.out p.1 p.2 hp1 hp2 wr HW.out)
    have e2 : o + d * 2 + 1 = o + (d * 2 + 1) := by omega
    rw [← e2] at cb
    simp only at ca cb
    generalize p.1 = p1 at *
    generalize p.2 = p2 at *
    clear e1 hd lb1 e2 hp hp1 hp2
    go_wp2_with fail
    refine (HC.out).mono ?_; rintro e w1 ⟨rfl, b1⟩
    have HW1 := hid (below_call HW.out b1 HW.out.size)
    clear b1
    go_wp2
    go_roundg (gk - 1)
    case measure => have := HD.out; have := HLT.out; omega
    case rel => exact ⟨d + 1, by have := HD.out; have := HLT.out; omega, by go_num, HW1⟩
  · clear hd
    go_wp2
    go_ret
    exact ⟨rfl, HW.out⟩
set_option maxRecDepth 100000 in
theorem cloHas (n : Nat) (a : Nat → Nat → Bool) (b : Nat) (P : List (Nat × Nat)) (hP : ∀ p ∈ P, p.1 < n ∧ p.2 < n) (m : Nat) (A : Option Addr) (c : Nat) (w : World) (h : Blk w b 78 (ordC n a)) (hs : Sl2 w A m c (pI P)) (hm : m ≤ 30) :
 Calls Tryz.prog 37 #[.slice A m c, .func (.func 38) #[] #[.pointer (some ⟨b, 0, none⟩)]] w fun e w' => e = .returned (.bool false) ∧ Below w.heap.size w w' := by
 have HI := hid (cloIdx n a b P hP m A c w h hs hm)
 clear hP h hs
 go_enter Tryz.func37, Tryz.ntmps37
 go_wp2_with fail
 refine (HI.out).mono ?_; rintro e w1 ⟨rfl, b1⟩
 have HB := hid b1
 clear b1
 go_wp2
 go_ret
 exact ⟨rfl, HB.out⟩
end
/- Walk of order's Close, where all pairs can be added. Conditions: one to six elements, at most thirty pairs; the library's table stands. -/
section
open Go.RowKit Go.Maps Go.Shelf
attribute [local go_sem ↓] shl_p2 shr_v and_shr
set_option maxRecDepth 100000 in
set_option maxHeartbeats 8000000 in
theorem closeF (n : Nat) (P : List (Nat × Nat)) (hn1 : 1 ≤ n) (hn : n ≤ 6) (hP : ∀ k p, P[k]? = some p → p.1 < n ∧ p.2 < n ∧ p.1 ≠ p.2 ∧ foldA (P.take k) p.2 p.1 = false) (m : Nat) (hm : m ≤ 30) (A : Option Addr) (c : Nat) (w : World) (hs : Sl2 w A m c (pI P)) (hT : Tab w) :
 Calls Tryz.prog 13 #[.int .i64 (n : Nat), .slice A m c] w fun e w' => ∃ O oc, e = .returned (.tuple #[.slice O n oc, .int .i64 0]) ∧ w'.ownsRow w.heap.size 3 1 (.slice O n oc) n (intV (ordL n (foldA P))) ∧ Below w.heap.size w w' := by
 have HT := hid hT
 have HS := hid hs
 have HPP := hid hP
 have hcap := hs.cap
 have hcapm := hs.capm
 have hlen := hs.len
 have HLEN := hid (show P.length = m from by rw [← hlen]; unfold pI; rw [List.length_map])
 have B1 := (Below.refl w.heap.size w).alloc (Nat.le_refl _) (.cells (ordC n (fun _ _ => false)) 78)
 have HB1 := hid B1
 have HOB := hid (show Blk (w.alloc (.cells (ordC n (fun _ _ => false)) 78)) w.heap.size 78 (ordC n (foldA (P.take 0))) from Blk.new w _ _)
 have HHA := hid (cloHas n (fun _ _ => false) w.heap.size P (fun p hp => by
  obtain ⟨k, hk⟩ := List.getElem?_of_mem hp
  have := hP k p hk
  exact ⟨this.1, this.2.1⟩) m A c _ (Blk.new w _ _) (hs.below B1) hm)
 have HADD := hid fun (a : Nat → Nat → Bool) (i j : Nat) (hi : i < n) (hj : j < n) (W : World) (hT : Tab W) => ordAdd n a i j hn hi hj W hT
 have HSLI := hid fun (a : Nat → Nat → Bool) W => ordSlice n a hn W
 have g1 : decide ((n : Int) < 1) = false := decide_eq_false (by omega)
 have g2 : decide ((6 : Int) < (n : Int)) = false := decide_eq_false (by omega)
 have g3 : decide ((30 : Int) < (m : Int)) = false := decide_eq_false (by omega)
 have g4 : decide (n < 1) = false := decide_eq_false (by omega)
 have g5 : decide (6 < n) = false := decide_eq_false (by omega)
 have g6 : decide (30 < m) = false := decide_eq_false (by omega)
 clear hs hP hT B1 hlen
 rw [ordC_zero] at HB1 HOB HHA
 have HN6 := hid hn
 go_enter Tryz.func13, Tryz.ntmps13
 go_wp2_with fail
 refine (HHA.out).mono ?_; rintro e w1 ⟨rfl, b1⟩
 have HOB := hid (HOB.out.keep b1)
 have HB := hid (below_call HB1.out b1 HB1.out.size)
 obtain ⟨b6, hb6⟩ : ∃ b, b = w.heap.size := ⟨_, rfl⟩
 have HB6 := hid hb6
 rw [← hb6] at HOB ⊢
 clear b1 HHA HB1 g1 g2 g3 g4 g5 g6 hb6
 go_wp2
 go_loopg [27] m (fun gk i wr => ∃ k : Nat, gk + k = m ∧ i = .int .i64 k ∧ Hid (Below w.heap.size w wr) ∧ Hid (Blk wr b6 78 (ordC n (foldA (P.take k)))))
 case atStart => exact ⟨0, by omega, rfl, HB, HOB⟩
 case round =>
  clear HB HOB
  obtain ⟨k, hk, rfl, HB, HOB⟩ := hrel
  have HK := hid hk
  by_cases hlt : k < m
  · have HLT := hid hlt
    obtain ⟨b0, o, u, rfl, lb1, e1, ca, cb⟩ := (HS.out.below HB.out).at hlt
    obtain ⟨p, hp, rfl⟩ := pI_get e1
    obtain ⟨hp1, hp2, hp3, hp4⟩ := HPP.out k p hp
    have e2 : o + k * 2 + 1 = o + (k * 2 + 1) := by omega
    rw [← e2] at cb
    simp only at ca cb
    have HTK := hid (show foldA (P.take (k + 1)) = addA (foldA (P.take k)) p.1 p.2 from by rw [List.take_add_one, hp, Option.toList_some, foldA_snoc])
    obtain ⟨i, j⟩ := p
    simp only at hp1 hp2 hp3 hp4 ca cb HTK
    generalize foldA (P.take k) = a at *
    have HAD := hid fun W hT => HADD.out a i j hp1 hp2 W hT
    have hob := ordC_at HOB.out (k := j) (by have := HN6.out; omega)
    have hbit : bitV (oc n a j) (i : Int) = 0 := by rw [oc_bit a hp2 hp1, hp4]; rfl
    have HBX := hid (Blk.new wr 31 #[.int .i64 (i : Nat), .int .i64 (j : Nat)])
    have HB := hid (HB.out.alloc HB.out.size (.cells #[.int .i64 (i : Nat), .int .i64 (j : Nat)] 31))
    have HOB := hid (HOB.out.keep ((Below.refl wr.heap.size wr).alloc (Nat.le_refl _) (.cells #[.int .i64 (i : Nat), .int .i64 (j : Nat)] 31)))
    have hij : ((i : Int) == (j : Int)) = false := by rw [beq_eq_false_iff_ne]; omega
    have hij2 : (i == j) = false := by rw [beq_eq_false_iff_ne]; exact hp3
    have hj6 : (j : Int) < 6 := by have := HN6.out; omega
    have hj6n : j < 6 := by have := HN6.out; omega
    have fi : Fits (i : Int) := ⟨by omega, by have := HN6.out; omega⟩
    clear e1 lb1 e2 hk hp hp1 hp3 hp4
    go_wp2_with fail
    generalize wr.alloc (.cells #[.int .i64 (i : Nat), .int .i64 (j : Nat)] 31) = V at *
    obtain ⟨bx, hbx⟩ : ∃ b, b = wr.heap.size := ⟨_, rfl⟩
    rw [← hbx] at HBX ⊢
    clear hob ca cb hbx
    have HOJ := hid (show ∀ W, Blk W b6 78 (ordC n a) → W.cell? ⟨b6, 1 + j, none⟩ = some (.int .i64 (oc n a j)) from fun W h => ordC_at h hj6n)
    generalize oc n a j = vj at *
    refine wp_region_held_drew (S := (fun w' => w'.cell? ⟨bx, 0, none⟩ = some (.int .i64 (i : Nat)) ∧ w'.cell? ⟨bx, 1, none⟩ = some (.int .i64 (j : Nat)) ∧ w'.cell? ⟨b6, 1 + j, none⟩ = some (.int .i64 vj))) (by kernel_rfl) (by (try dsimp only); (exact ⟨HBX.out.cell 0, HBX.out.cell 1, HOJ.out _ HOB.out⟩)) (fun hHeld => ?_)
    have HBX := hid HBX.out.drew; have HOB := hid HOB.out.drew; have HB := hid HB.out.drew
    generalize V.drew = X1 at *
    obtain ⟨X, rfl⟩ : ∃ Y, Y = X1 := ⟨X1, rfl⟩
    refine tk ?_ 0 (some 31) rfl rfl ?_ ?_; rotate_left; · (intro w hSw; (try dsimp only at hSw); go_simp <;> with_reducible rfl)
    try simp only [Act.put,qA,qB,qC]
    refine tk ?_ 1 (some 32) rfl rfl ?_ ?_; rotate_left; · (intro w hSw; (try dsimp only at hSw); go_simp <;> with_reducible rfl)
    try simp only [Act.put,qA,qB,qC]
    refine tk ?_ 2 (some 33) rfl rfl ?_ ?_; rotate_left; · (intro w hSw; (try dsimp only at hSw); go_simp <;> with_reducible rfl)
    try simp only [Act.put,qA,qB,qC]
    refine tk ?_ 3 (some 34) rfl rfl ?_ ?_; rotate_left; · (intro w hSw; (try dsimp only at hSw); go_simp <;> with_reducible rfl)
    try simp only [Act.put,qA,qB,qC]
    refine tk ?_ 4 (some 35) rfl rfl ?_ ?_; rotate_left; · (intro w hSw; (try dsimp only at hSw); go_simp <;> with_reducible rfl)
    try simp only [Act.put,qA,qB,qC]
    refine tk ?_ 5 (some 36) rfl rfl ?_ ?_; rotate_left; · (intro w hSw; (try dsimp only at hSw); go_simp <;> with_reducible rfl)
    try simp only [Act.put,qA,qB,qC]
    refine tk ?_ 6 (some 37) rfl rfl ?_ ?_; rotate_left; · (intro w hSw; (try dsimp only at hSw); go_simp <;> with_reducible rfl)
    try simp only [Act.put,qA,qB,qC]
    refine tk ?_ 7 (some 38) rfl rfl ?_ ?_; rotate_left; · (intro w hSw; (try dsimp only at hSw); go_simp <;> with_reducible rfl)
    try simp only [Act.put,qA,qB,qC]
    refine tk ?_ 8 (some 39) rfl rfl ?_ ?_; rotate_left; · (intro w hSw; (try dsimp only at hSw); go_simp <;> with_reducible rfl)
    try simp only [Act.put,qA,qB,qC]
    refine tk ?_ 9 (some 40) rfl rfl ?_ ?_; rotate_left; · (intro w hSw; (try dsimp only at hSw); go_simp <;> with_reducible rfl)
    try simp only [Act.put,qA,qB,qC]
    refine tk ?_ 10 (some 41) rfl rfl ?_ ?_; rotate_left; · (intro w hSw; (try dsimp only at hSw); go_simp <;> with_reducible rfl)
    try simp only [Act.put,qA,qB,qC]
    refine tk ?_ 11 (some 42) rfl rfl ?_ ?_; rotate_left; · (intro w hSw; (try dsimp only at hSw); go_simp <;> with_reducible rfl)
    try simp only [Act.put,qA,qB,qC]
    refine tk ?_ 12 (some 43) rfl rfl ?_ ?_; rotate_left; · (intro w hSw; (try dsimp only at hSw); go_simp <;> with_reducible rfl)
    try simp only [Act.put,qA,qB,qC]
    refine tk ?_ 13 (some 44) rfl rfl ?_ ?_; rotate_left; · (intro w hSw; (try dsimp only at hSw); go_simp <;> with_reducible rfl)
    try simp only [Act.put,qA,qB,qC]
    refine tk ?_ 14 (some 45) rfl rfl ?_ ?_; rotate_left; · (intro w hSw; (try dsimp only at hSw); go_simp <;> with_reducible rfl)
    try simp only [Act.put,qA,qB,qC]
    refine tk ?_ 15 (some 46) rfl rfl ?_ ?_; rotate_left; · (intro w hSw; (try dsimp only at hSw); go_simp <;> with_reducible rfl)
    try simp only [Act.put,qA,qB,qC]
    refine tk ?_ 16 (some 47) rfl rfl ?_ ?_; rotate_left; · (intro w hSw; (try dsimp only at hSw); go_simp <;> with_reducible rfl)
    try simp only [Act.put,qA,qB,qC]
    refine wpAnyH_done (by kernel_rfl) ?_ _
    have x0 := HBX.out.cell 0
    have x1 := HBX.out.cell 1
    have HOC := hid HOB.out
    unfold ordC at HOC
    have o0 := HOC.out.cell 0
    have o1 := HOC.out.cell 1
    have o2 := HOC.out.cell 2
    have o3 := HOC.out.cell 3
    have o4 := HOC.out.cell 4
    have o5 := HOC.out.cell 5
    have o6 := HOC.out.cell 6
    simp only [List.getElem?_toArray, List.getElem?_cons_zero, List.getElem?_cons_succ] at x0 x1 o0 o1 o2 o3 o4 o5 o6
    have HA2 := hid (HAD.out X (HT.out.below HB.out))
    unfold ordC at HA2
    clear hHeld
    go_wp2_with fail
    refine (HA2.out).mono ?_; rintro e w5 ⟨rfl, b5⟩
    have HOB := hid (HOB.out.keep b5)
    have HB := hid (below_call HB.out b5 HB.out.size)
    clear b5 x0 x1 o0 o1 o2 o3 o4 o5 o6 HOC
    have p0 := HOB.out.free 0
    have p1 := HOB.out.free 1
    have p2 := HOB.out.free 2
    have p3 := HOB.out.free 3
    have p4 := HOB.out.free 4
    have p5 := HOB.out.free 5
    have p6 := HOB.out.free 6
    have HOC := hid HOB.out
    unfold ordC at HOC
    have o0 := HOC.out.cell 0
    have o1 := HOC.out.cell 1
    have o2 := HOC.out.cell 2
    have o3 := HOC.out.cell 3
    have o4 := HOC.out.cell 4
    have o5 := HOC.out.cell 5
    have o6 := HOC.out.cell 6
    simp only [List.getElem?_toArray, List.getElem?_cons_zero, List.getElem?_cons_succ] at o0 o1 o2 o3 o4 o5 o6
    clear HA2 HAD
    have HBF := hid (((((((HB.out.setCell (p := ⟨b6, 0, none⟩) (by rw [HB6.out]; exact Nat.le_refl _) (.int .i64 (n : Nat))).setCell (p := ⟨b6, 1, none⟩) (by rw [HB6.out]; exact Nat.le_refl _) (.int .i64 (oc n (addA a i j) 0))).setCell (p := ⟨b6, 2, none⟩) (by rw [HB6.out]; exact Nat.le_refl _) (.int .i64 (oc n (addA a i j) 1))).setCell (p := ⟨b6, 3, none⟩) (by rw [HB6.out]; exact Nat.le_refl _) (.int .i64 (oc n (addA a i j) 2))).setCell (p := ⟨b6, 4, none⟩) (by rw [HB6.out]; exact Nat.le_refl _) (.int .i64 (oc n (addA a i j) 3))).setCell (p := ⟨b6, 5, none⟩) (by rw [HB6.out]; exact Nat.le_refl _) (.int .i64 (oc n (addA a i j) 4))).setCell (p := ⟨b6, 6, none⟩) (by rw [HB6.out]; exact Nat.le_refl _) (.int .i64 (oc n (addA a i j) 5)))
    have hset := (((((((HOB.out.set 0 (.int .i64 (n : Nat))).set 1 (.int .i64 (oc n (addA a i j) 0))).set 2 (.int .i64 (oc n (addA a i j) 1))).set 3 (.int .i64 (oc n (addA a i j) 2))).set 4 (.int .i64 (oc n (addA a i j) 3))).set 5 (.int .i64 (oc n (addA a i j) 4))).set 6 (.int .i64 (oc n (addA a i j) 5)))
    have HOF := hid hset
    clear hset
    go_wp2_with fail
    go_roundg (gk - 1)
    case measure => have := HK.out; have := HLT.out; omega
    case rel => exact ⟨k + 1, by have := HK.out; have := HLT.out; omega, by go_num, HBF, by rw [HTK.out]; exact HOF⟩
  · have hkm : m = k := by have := HK.out; omega
    subst hkm
    have e : P.take m = P := List.take_of_length_le (by rw [HLEN.out]; exact Nat.le_refl _)
    rw [e] at HOB
    have HSL := hid fun W => HSLI.out (foldA P) W
    have HOC := hid HOB.out
    unfold ordC at HOC HSL
    have o0 := HOC.out.cell 0
    have o1 := HOC.out.cell 1
    have o2 := HOC.out.cell 2
    have o3 := HOC.out.cell 3
    have o4 := HOC.out.cell 4
    have o5 := HOC.out.cell 5
    have o6 := HOC.out.cell 6
    simp only [List.getElem?_toArray, List.getElem?_cons_zero, List.getElem?_cons_succ] at o0 o1 o2 o3 o4 o5 o6
    clear hk e hlt
    go_wp2_with fail
    refine (HSL.out _).mono ?_; rintro e w5 ⟨O, oc, rfl, ho, b5⟩
    have HO := hid (own_more ho HB.out.size)
    have HB5 := hid (below_call HB.out b5 HB.out.size)
    clear ho b5
    go_wp2
    go_ret2
    exact ⟨O, oc, rfl, HO.out, HB5.out⟩
end
/- Walk of lines' closure at one element. Condition: the library's table of 64 numbers stands in its variable. -/
section
open Go.RowKit Go.Shelf
attribute [local go_sem] Oper.semAt_some
theorem LnS.ownFrom {β : Type} (B bo bx bl bg : Nat) (x l : Value) : OwnFrom B (fun (_ : β) W => LnS W bo bx bl bg x l) := fun s X Y row hs hg hr =>
 ⟨ownFrom_blk B _ _ _ s X Y row hs.ord hg hr, ownFrom_blk B _ _ _ s X Y row hs.out hg hr, ownFrom_blk B _ _ _ s X Y row hs.line hg hr, ownFrom_blk B _ _ _ s X Y row hs.grow hg hr⟩
theorem LnS.far {W : World} {bo bx bl bg : Nat} {x l : Value} (h : LnS W bo bx bl bg x l) {p : Addr} (hp : W.heap.size ≤ p.block ∨ (bo ≠ p.block ∧ bx ≠ p.block ∧ bl ≠ p.block ∧ bg ≠ p.block)) (u : Value) : LnS (W.setCell p u) bo bx bl bg x l := by
 have := h.ord.lt; have := h.out.lt; have := h.line.lt; have := h.grow.lt
 exact ⟨h.ord.far (by omega) u, h.out.far (by omega) u, h.line.far (by omega) u, h.grow.far (by omega) u⟩
/-- What came out: one line of one element. -/
def OutS (W : World) (B bx : Nat) : Prop := ∃ O oc R rc, Blk W bx 39 #[.slice O 1 oc] ∧ W.ownsRow B 36 1 (.slice O 1 oc) 1 [.slice R 1 rc] ∧ W.ownsRow B 3 1 (.slice R 1 rc) 1 [.int .i64 0]
theorem OutS.ownFrom {β : Type} (C B bx : Nat) : OwnFrom C (fun (_ : β) W => OutS W B bx) := fun s X Y row hs hg hr => by
 obtain ⟨O, oc, R, rc, h1, h2, h3⟩ := hs
 exact ⟨O, oc, R, rc, ownFrom_blk C _ _ _ s X Y row h1 hg hr, ownFrom_own C _ _ _ _ _ _ s X Y row h2 hg hr, ownFrom_own C _ _ _ _ _ _ s X Y row h3 hg hr⟩
theorem OutS.more {W : World} {B B' bx : Nat} (h : OutS W B bx) (hb : B' ≤ B) : OutS W B' bx := by
 obtain ⟨O, oc, R, rc, h1, h2, h3⟩ := h
 exact ⟨O, oc, R, rc, h1, own_more h2 hb, own_more h3 hb⟩
theorem OutS.far {W : World} {B bx : Nat} (h : OutS W B bx) {p : Addr} (h1 : bx ≠ p.block) (h2 : p.block < B) (u : Value) : OutS (W.setCell p u) B bx := by
 obtain ⟨O, oc, R, rc, k1, k2, k3⟩ := h
 refine ⟨O, oc, R, rc, k1.far h1 u, k2.kept (setGrown W p u) ?_, k3.kept (setGrown W p u) ?_⟩
 · cases hv : (Value.slice O 1 oc).ownBlock with
   | none => exact .inl rfl
   | some g => exact .inr fun e => by cases e; have := (k2.lt _ hv).1; omega
 · cases hv : (Value.slice R 1 rc).ownBlock with
   | none => exact .inl rfl
   | some g => exact .inr fun e => by cases e; have := (k3.lt _ hv).1; omega
end
end Go.Proofs.YtnibidmlkbcfkaaGreatDoor
