/- Texts of this proof, one behind the other; each says its condition at its head. -/
import Derived.Test.YtnibidmlkbcfkaaGreatDoorR35
import Derived.Test.YtnibidmlkbcfkaaGreatDoorR34
import Derived.Test.YtnibidmlkbcfkaaGreatDoorR32
/- Plain law of the medals' journal: what its lines say of names and of what is above what. No condition. -/
namespace Go.Proofs.YtnibidmlkbcfkaaGreatDoor
open Go.RowKit Go.Maps
def sMedal : ByteArray := ⟨#[109, 101, 100, 97, 108]⟩
def sAbove : ByteArray := ⟨#[97, 98, 111, 118, 101]⟩
/-- What a line does to the medals and to their order. -/
inductive RollLn (s : Bk) (x : ByteArray) (s' : Bk) : Prop
 | medal (v : ByteArray) : wordOf x = sMedal → parts x = [sMedal, v] → s.medals.length < 6 → s'.medals = s.medals ++ [v] → s'.above = s.above ++ [0] → RollLn s x s'
 | above (v k : ByteArray) (i j : Nat) : wordOf x = sAbove → parts x = [sAbove, v, k] → idxZ s.medals k = i → idxZ s.medals v = j → i < s.medals.length → j < s.medals.length → i ≠ j → bitsOf s.above i j = false → bitsOf s.above j i = false → s'.medals = s.medals → s'.above = ordL s.medals.length (addA (bitsOf s.above) i j) → RollLn s x s'
 | other : wordOf x ≠ sMedal → wordOf x ≠ sAbove → s'.medals = s.medals → s'.above = s.above → RollLn s x s'
theorem rollLn {s s' : Bk} {x : ByteArray} (hb : BkT s) (h : KindL s x s') : RollLn s x s' := by
 cases h with
 | player v h1 h2 h3 => exact .other (word_no h1 (by decide)) (word_no h1 (by decide)) (by unfold playerL; split <;> rfl) (by unfold playerL; split <;> rfl)
 | beat v k h1 h2 h3 => exact .other (word_no h1 (by decide)) (word_no h1 (by decide)) (by unfold beatL; split <;> first | (split <;> rfl) | rfl) (by unfold beatL; split <;> first | (split <;> rfl) | rfl)
 | batch a b c d h1 h2 h3 => exact .other (word_no h1 (by decide)) (word_no h1 (by decide)) (by unfold layL; split <;> rfl) (by unfold layL; split <;> rfl)
 | pan a b c d h1 h2 h3 => exact .other (word_no h1 (by decide)) (word_no h1 (by decide)) (by unfold panL; split <;> rfl) (by unfold panL; split <;> rfl)
 | bet v k h1 h2 h3 => exact .other (word_no h1 (by decide)) (word_no h1 (by decide)) (by unfold betL; split <;> first | rfl | (split <;> first | rfl | (split <;> rfl))) (by unfold betL; split <;> first | rfl | (split <;> first | rfl | (split <;> rfl)))
 | medal v h1 h2 h3 =>
  have hw : wordOf x = sMedal := word_is h1 rfl
  have hp := lineL_parts h2 rfl
  rw [hw] at hp
  unfold medalL at h3 ⊢
  by_cases he : (enterL s.medals v 6).2 = 0
  · rw [if_pos he]
    have h4 := enterL_len he
    have h5 := hb.bk.1.med
    have h6 : (enterL s.medals v 6).1 = s.medals ++ [v] := by
     unfold enterL at he ⊢
     by_cases e1 : v ∈ s.medals
     · rw [if_pos e1] at he; cases he
     · by_cases e2 : s.medals.length = 6
       · rw [if_neg e1, if_pos e2] at he; cases he
       · rw [if_neg e1, if_neg e2]
    exact .medal v hw hp (by omega) h6 rfl
  · rw [if_neg he] at h3
    exact absurd h3 he
 | above v k h1 h2 h3 =>
  have hw : wordOf x = sAbove := word_is h1 rfl
  have hp := lineL_parts h2 rfl
  rw [hw] at hp
  have hal := hb.bk.1.abv
  obtain ⟨ht1, ht2⟩ := hb.bk.2.bits
  have b1 := idxZ_bd v s.medals
  have b2 := idxZ_bd k s.medals
  unfold rankL at h3 ⊢
  by_cases e1 : 0 ≤ idxZ s.medals v ∧ 0 ≤ idxZ s.medals k
  · rw [if_pos e1] at h3 ⊢
    obtain ⟨j, hj⟩ := Int.eq_ofNat_of_zero_le e1.1
    obtain ⟨i, hi⟩ := Int.eq_ofNat_of_zero_le e1.2
    have hadd : addZ s.above i j = if i = j ∨ bitsOf s.above i j = true ∨ bitsOf s.above j i = true then (s.above, 5) else (ordL s.above.length (addA (bitsOf s.above) i j), 0) := by
     have := addZ_ordL (n := s.above.length) (a := bitsOf s.above) (i := i) (j := j) (by omega) (by omega)
     rwa [← ht1] at this
    rw [hi, hj, Int.toNat_natCast, Int.toNat_natCast, hadd] at h3 ⊢
    by_cases e2 : i = j ∨ bitsOf s.above i j = true ∨ bitsOf s.above j i = true
    · rw [if_pos e2] at h3; cases h3
    · rw [if_neg e2]
      simp only [not_or, Bool.not_eq_true] at e2
      exact .above v k i j hw hp hi hj (by omega) (by omega) e2.1 e2.2.1 e2.2.2 rfl (by rw [← hal]; rfl)
  · rw [if_neg e1] at h3; cases h3
theorem bits_push (l : List Int) {i : Nat} (hi : i < l.length) (j : Nat) : bitsOf (l ++ [0]) i j = bitsOf l i j := by
 unfold bitsOf
 rw [List.getD_eq_getElem?_getD, List.getD_eq_getElem?_getD, List.getElem?_append_left hi]
theorem addA_keep {a : Nat → Nat → Bool} {i j k m : Nat} (h : a k m = true) : addA a i j k m = true := by
 unfold addA
 rw [h]
 split <;> rfl
theorem addA_new (a : Nat → Nat → Bool) (i j : Nat) : addA a i j i j = true := by
 unfold addA
 rw [if_pos (.inl rfl)]
 simp
/-- What was said to be above what is so in the order. -/
def PrI (s : Bk) (P : List (ByteArray × ByteArray)) : Prop := ∀ p ∈ P, ∃ i j, i < s.medals.length ∧ j < s.medals.length ∧ s.medals[i]? = some p.1 ∧ s.medals[j]? = some p.2 ∧ bitsOf s.above i j = true
theorem PrI.other {s s' : Bk} {P : List (ByteArray × ByteArray)} (h : PrI s P) (h1 : s'.medals = s.medals) (h2 : s'.above = s.above) : PrI s' P := fun p hp => by
 rw [h1, h2]; exact h p hp
theorem PrI.medal {s s' : Bk} {P : List (ByteArray × ByteArray)} (h : PrI s P) (hal : s.above.length = s.medals.length) {v : ByteArray} (h1 : s'.medals = s.medals ++ [v]) (h2 : s'.above = s.above ++ [0]) : PrI s' P := fun p hp => by
 obtain ⟨i, j, hi, hj, e1, e2, e3⟩ := h p hp
 rw [h1, h2]
 exact ⟨i, j, by rw [List.length_append, List.length_singleton]; omega, by rw [List.length_append, List.length_singleton]; omega, by rw [List.getElem?_append_left hi]; exact e1, by rw [List.getElem?_append_left hj]; exact e2, by rw [bits_push _ (by omega)]; exact e3⟩
theorem PrI.above {s s' : Bk} {P : List (ByteArray × ByteArray)} (h : PrI s P) {v k : ByteArray} {i j : Nat} (hk : s.medals[i]? = some k) (hv : s.medals[j]? = some v) (h1 : s'.medals = s.medals) (h2 : s'.above = ordL s.medals.length (addA (bitsOf s.above) i j)) : PrI s' (P ++ [(k, v)]) := fun p hp => by
 rw [h1, h2]
 rcases List.mem_append.1 hp with hp | hp
 · obtain ⟨x, y, hx, hy, e1, e2, e3⟩ := h p hp
   exact ⟨x, y, hx, hy, e1, e2, by rw [bits_ordL hx hy]; exact addA_keep e3⟩
 · rw [List.mem_singleton] at hp
   subst hp
   have hi := (List.getElem?_eq_some_iff.1 hk).1
   have hj := (List.getElem?_eq_some_iff.1 hv).1
   exact ⟨i, j, hi, hj, hk, hv, by rw [bits_ordL hi hj]; exact addA_new _ _ _⟩
/-- Where an element stands in the first line. -/
theorem line_idx {n : Nat} {a : Nat → Nat → Bool} (hn : n ≤ 6) (ho : OrdOk n a) {i : Nat} (hi : i < n) : ∃ k, k < n ∧ (lineO n a)[k]? = some i := by
 obtain ⟨h1, h2, h3, h4⟩ := lineO_all hn ho
 obtain ⟨k, hk⟩ := List.getElem?_of_mem ((h1 i).2 hi)
 exact ⟨k, by have := (List.getElem?_eq_some_iff.1 hk).1; omega, hk⟩
theorem line_lt {n : Nat} {a : Nat → Nat → Bool} (hn : n ≤ 6) (ho : OrdOk n a) {i j k m : Nat} (_hi : i < n) (_hj : j < n) (hij : a i j = true) (hk : (lineO n a)[k]? = some i) (hm : (lineO n a)[m]? = some j) : k < m := by
 obtain ⟨h1, h2, h3, h4⟩ := lineO_all hn ho
 rcases Nat.lt_trichotomy k m with h | h | h
 · exact h
 · subst h
   have hk' := hk
   rw [hm] at hk'
   simp only [Option.some.injEq] at hk'
   subst hk'
   have hji : a j j = false := ho.1 j _hj
   rw [hji] at hij
   cases hij
 · have hkl := (List.getElem?_eq_some_iff.1 hk).1
   have hml := (List.getElem?_eq_some_iff.1 hm).1
   have := List.pairwise_iff_getElem.1 h3 m k hml hkl h
   rw [(List.getElem?_eq_some_iff.1 hk).2, (List.getElem?_eq_some_iff.1 hm).2] at this
   rw [this] at hij
   cases hij
/-- The sum of both chances. -/
theorem cha_sum {n : Nat} {a : Nat → Nat → Bool} (hn : n ≤ 6) (ho : OrdOk n a) {i j : Nat} (hi : i < n) (hj : j < n) (hij : i ≠ j) :
 0 < (chaN n a i j).2 ∧ (chaN n a i j).2 ≤ 720 ∧ (chaN n a i j).1 ≤ (chaN n a i j).2 ∧ (chaN n a i j).1 * (chaN n a j i).2 + (chaN n a j i).1 * (chaN n a i j).2 = (chaN n a i j).2 * (chaN n a j i).2 := by
 have hs := befW_sum hn ho hi hj hij
 have hp := allW_pos hn ho
 have hbd := allW_bd (a := a) hn
 unfold chaN
 generalize befW n a i j = p at *
 generalize befW n a j i = q at *
 generalize allW n a = d at *
 have g1 : Nat.gcd p d ∣ p := Nat.gcd_dvd_left _ _
 have g2 : Nat.gcd p d ∣ d := Nat.gcd_dvd_right _ _
 have g3 : Nat.gcd q d ∣ q := Nat.gcd_dvd_left _ _
 have g4 : Nat.gcd q d ∣ d := Nat.gcd_dvd_right _ _
 have gp : 0 < Nat.gcd p d := Nat.gcd_pos_of_pos_right _ hp
 have gq : 0 < Nat.gcd q d := Nat.gcd_pos_of_pos_right _ hp
 simp only
 generalize Nat.gcd p d = g at *
 generalize Nat.gcd q d = h at *
 obtain ⟨p', rfl⟩ := g1
 obtain ⟨d1, hd1⟩ := g2
 obtain ⟨q', rfl⟩ := g3
 obtain ⟨d2, hd2⟩ := g4
 rw [Nat.mul_div_cancel_left _ gp, Nat.mul_div_cancel_left _ gq]
 have e1 : d / g = d1 := by rw [hd1, Nat.mul_div_cancel_left _ gp]
 have e2 : d / h = d2 := by rw [hd2, Nat.mul_div_cancel_left _ gq]
 rw [e1, e2]
 have hd1p : 0 < d1 := by
  rcases Nat.eq_zero_or_pos d1 with e | e
  · rw [e, Nat.mul_zero] at hd1; omega
  · exact e
 refine ⟨hd1p, ?_, ?_, ?_⟩
 · have := Nat.le_mul_of_pos_left d1 gp
   omega
 · have : g * p' ≤ g * d1 := by omega
   exact Nat.le_of_mul_le_mul_left this gp
 · have h3 : (g * h) * (p' * d2 + q' * d1) = (g * h) * (d1 * d2) := by
    have a1 : (g * h) * (p' * d2 + q' * d1) = (g * p') * (h * d2) + (h * q') * (g * d1) := by
     simp only [Nat.mul_add, Nat.mul_comm, Nat.mul_left_comm]
    have a2 : (g * h) * (d1 * d2) = (g * d1) * (h * d2) := by
     simp only [Nat.mul_comm, Nat.mul_left_comm]
    rw [a1, a2, ← hd1, ← hd2, ← Nat.add_mul, hs]
   exact Nat.eq_of_mul_eq_mul_left (Nat.mul_pos gp gq) h3
end Go.Proofs.YtnibidmlkbcfkaaGreatDoor
/- The question chance, asked of a mint with any two names; and where names stand in the roll. Conditions: what a mint's books keep; the library's variables stand. -/
namespace Go.Proofs.YtnibidmlkbcfkaaGreatDoor
open Go.RowKit Go.Maps
def sCha : ByteArray := ⟨#[99, 104, 97, 110, 99, 101]⟩
/-- The text of the question. -/
def chaX (a b : ByteArray) : ByteArray := (⟨#[99, 104, 97, 110, 99, 101, 32]⟩ ++ a) ++ ⟨#[32]⟩ ++ b
theorem chaX_eq (a b : ByteArray) : chaX a b = nmd sCha [a, b] [0, 1] := by
 show _ = (sCha ++ ((⟨#[32]⟩ : ByteArray) ++ a)) ++ ((⟨#[32]⟩ : ByteArray) ++ b)
 rw [← ByteArray.append_assoc (a := sCha), ← ByteArray.append_assoc]
 rfl
theorem low_ok (b : UInt8) (h : notLow b = false) : odd8 b = false := by
 unfold notLow at h
 unfold odd8
 rw [Bool.or_eq_false_iff, decide_eq_false_iff_not, decide_eq_false_iff_not] at h ⊢
 omega
theorem nm_ok {x : ByteArray} (h : isNm x = true) : (∀ b ∈ x.data.toList, odd8 b = false) ∧ 0 < x.size ∧ x.size ≤ 8 := by
 unfold isNm at h
 simp only [Bool.and_eq_true, decide_eq_true_eq, List.all_eq_true, Bool.not_eq_true'] at h
 exact ⟨fun b hb => low_ok b (h.1 b hb), h.2.1, h.2.2⟩
theorem c7_ok : ∀ x ∈ (ByteArray.mk #[99, 104, 97, 110, 99, 101, 32]).data.toList, odd8 x = false := by decide
theorem sp_ok : ∀ x ∈ (ByteArray.mk #[32]).data.toList, odd8 x = false := by decide
theorem chaX_line {a b : ByteArray} (ha : isNm a = true) (hb : isNm b = true) : parts (chaX a b) = [sCha, a, b] ∧ wordOf (chaX a b) = sCha ∧ isLn (chaX a b) = true ∧ (chaX a b).size ≤ 60 := by
 have hn : ∀ v ∈ [a, b], isNm v = true := fun v hv => by
  rcases List.mem_cons.1 hv with e | e
  · rw [e]; exact ha
  · rw [List.mem_singleton] at e; rw [e]; exact hb
 have hp : parts (chaX a b) = [sCha, a, b] := by
  rw [chaX_eq, parts_nmd sCha (by decide) [a, b] hn [0, 1] (by
   intro i hi
   simp only [List.mem_cons, List.not_mem_nil, or_false] at hi
   rcases hi with rfl | rfl <;> simp)]
  rfl
 obtain ⟨a1, a2, a3⟩ := nm_ok ha
 obtain ⟨b1, b2, b3⟩ := nm_ok hb
 have hz : (chaX a b).size ≤ 60 := by
  unfold chaX
  rw [ByteArray.size_append, ByteArray.size_append, ByteArray.size_append]
  have h1 : (ByteArray.mk #[99, 104, 97, 110, 99, 101, 32]).size = 7 := rfl
  have h2 : (ByteArray.mk #[32]).size = 1 := rfl
  omega
 have hh := parts_head (chaX a b)
 rw [hp] at hh
 refine ⟨hp, (List.cons.inj hh).1.symm, ?_, hz⟩
 unfold isLn
 rw [hp, decide_eq_true hz, Bool.true_and, Bool.and_eq_true, List.all_eq_true, List.all_eq_true]
 constructor
 · intro x hx
   simp only [List.mem_cons, List.not_mem_nil, or_false] at hx
   rcases hx with rfl | rfl | rfl
   · decide
   · rw [decide_eq_true_eq]; intro e; rw [e] at a2; exact absurd a2 (by decide)
   · rw [decide_eq_true_eq]; intro e; rw [e] at b2; exact absurd b2 (by decide)
 · intro x hx
   unfold chaX at hx
   rw [ByteArray.data_append, ByteArray.data_append, ByteArray.data_append, Array.toList_append, Array.toList_append, Array.toList_append] at hx
   rw [Bool.not_eq_true']
   rcases List.mem_append.1 hx with hx | hx
   · rcases List.mem_append.1 hx with hx | hx
     · rcases List.mem_append.1 hx with hx | hx
       · exact c7_ok x hx
       · exact a1 x hx
     · exact sp_ok x hx
   · exact b1 x hx
set_option maxRecDepth 100000 in
theorem mintChaQ (a b : ByteArray) (ha : isNm a = true) (hb : isNm b = true) (R : Nat → Prop) (m : Nat) (d : Value) (L : List (Nat × Nat)) (k : Int) (s : Bk) (J : List ByteArray) (out : Bool) (w : World) (hm : MinM w R m d L k s J out) (hs : BkT s) (he : EnvN w) (hT : Tab w) :
 Calls Tryz.prog 11 #[.pointer (some ⟨m, 0, none⟩), .string (chaX a b)] w (AskR w (replyChance s a b)) := by
 obtain ⟨h1, h2, h3, h4⟩ := chaX_line ha hb
 refine mintAskF R m d L k s J out (chaX a b) (replyChance s a b) w hm fun sb hst => ?_
 refine askYes 2 0 97 (by decide) R sb s (chaX a b) [a, b] [] (replyChance s a b) (by omega) w he hT hst ?_ (fun args W => enters Tryz.func97 (by kernel_rfl) rfl args W) ?_ h3 (chanceQ s hs a b)
 · rw [h2]; kernel_rfl
 · rw [h1]
   unfold readP
   rw [if_pos ⟨rfl, by
    show (isNm a && (isNm b && true)) = true
    rw [ha, hb]; rfl, rfl⟩]
   rfl
theorem idx_map {names : List ByteArray} (hn : names.Nodup) {ln : List Nat} (hl : ln.Nodup) (hlt : ∀ i ∈ ln, i < names.length) {k i : Nat} (hk : ln[k]? = some i) : idxZ (ln.map fun i => names.getD i ByteArray.empty) (names.getD i ByteArray.empty) = k := by
 refine idxZ_at _ _ k (by rw [List.getElem?_map, hk]; rfl) (fun j hj h => ?_)
 rw [List.getElem?_map] at h
 cases hj2 : ln[j]? with
 | none => rw [hj2] at h; cases h
 | some x =>
  rw [hj2] at h
  simp only [Option.map_some, Option.some.injEq] at h
  have hx := hlt x (List.mem_of_getElem? hj2)
  have hi := hlt i (List.mem_of_getElem? hk)
  have e1 : names[x]? = names[i]? := by
   rw [List.getD_eq_getElem?_getD, List.getD_eq_getElem?_getD, List.getElem?_eq_getElem hx, List.getElem?_eq_getElem hi] at h
   rw [List.getElem?_eq_getElem hx, List.getElem?_eq_getElem hi]
   exact congrArg some h
  have e2 := (List.getElem?_inj hx hn).1 e1
  subst e2
  have e3 := (List.getElem?_inj (List.getElem?_eq_some_iff.1 hj2).1 hl).1 (hj2.trans hk.symm)
  omega
theorem idxZ_mem {l : List ByteArray} {v : ByteArray} (h : 0 ≤ idxZ l v) : v ∈ l := by
 by_cases hm : v ∈ l
 · exact hm
 · exfalso
   have := idxZ_no v l fun j e => hm (List.mem_of_getElem? e)
   omega
theorem jn_inj {p q : ByteArray × ByteArray} (hp : ∀ c ∈ p.1.data.toList, c ≠ 32) (hq : ∀ c ∈ q.1.data.toList, c ≠ 32) (h : jnP p = jnP q) : p = q := by
 have hl : ∀ r : ByteArray × ByteArray, (jnP r).data.toList = r.1.data.toList ++ 32 :: r.2.data.toList := fun r => by
  unfold jnP
  rw [ByteArray.data_append, ByteArray.data_append, Array.toList_append, Array.toList_append, List.append_assoc]
  rfl
 have h1 : Lib.cut (jnP p).data.toList [32] = Lib.cut (jnP q).data.toList [32] := by rw [h]
 rw [hl, hl, cut_mid 32 _ _ hp, cut_mid 32 _ _ hq] at h1
 simp only [Prod.mk.injEq, and_true] at h1
 exact Prod.ext (ByteArray.ext (Array.toList_inj.1 h1.1)) (ByteArray.ext (Array.toList_inj.1 h1.2))
/-- What is said to be above stands before it for sure. -/
theorem cha_sure {n : Nat} {a : Nat → Nat → Bool} (hn : n ≤ 6) (ho : OrdOk n a) {i j : Nat} (h : a i j = true) : chaN n a i j = (1, 1) := by
 have hp := allW_pos hn ho
 unfold chaN befW
 rw [if_pos h, Nat.gcd_self, Nat.div_self hp]
end Go.Proofs.YtnibidmlkbcfkaaGreatDoor
/- Walk of lines' closure at one element. Condition: the library's table of 64 numbers stands in its variable. -/
namespace Go.Proofs.YtnibidmlkbcfkaaGreatDoor
open Go.RowKit Go.Shelf
attribute [local go_sem] Oper.semAt_some
theorem LnS.ownFrom {β : Type} (B bo bx bl bg : Nat) (x l : Value) : OwnFrom B (fun (_ : β) W => LnS W bo bx bl bg x l) := fun s X Y row hs hg hr =>
 ⟨ownFrom_blk B _ _ _ s X Y row hs.ord hg hr, ownFrom_blk B _ _ _ s X Y row hs.out hg hr, ownFrom_blk B _ _ _ s X Y row hs.line hg hr, ownFrom_blk B _ _ _ s X Y row hs.grow hg hr⟩
theorem LnS.far {W : World} {bo bx bl bg : Nat} {x l : Value} (h : LnS W bo bx bl bg x l) {p : Addr} (hp : W.heap.size ≤ p.block ∨ (bo ≠ p.block ∧ bx ≠ p.block ∧ bl ≠ p.block ∧ bg ≠ p.block)) (u : Value) : LnS (W.setCell p u) bo bx bl bg x l := by
 have := h.ord.lt; have := h.out.lt; have := h.line.lt; have := h.grow.lt
 exact ⟨h.ord.far (by omega) u, h.out.far (by omega) u, h.line.far (by omega) u, h.grow.far (by omega) u⟩
/-- What came out: one line of one element. -/
def OutS (W : World) (B bx : Nat) : Prop := ∃ O oc R rc, Blk W bx 39 #[.slice O 1 oc] ∧ W.ownsRow B 36 1 (.slice O 1 oc) 1 [.slice R 1 rc] ∧ W.ownsRow B 3 1 (.slice R 1 rc) 1 [.int .i64 0]
theorem OutS.ownFrom {β : Type} (C B bx : Nat) : OwnFrom C (fun (_ : β) W => OutS W B bx) := fun s X Y row hs hg hr => by
 obtain ⟨O, oc, R, rc, h1, h2, h3⟩ := hs
 exact ⟨O, oc, R, rc, ownFrom_blk C _ _ _ s X Y row h1 hg hr, ownFrom_own C _ _ _ _ _ _ s X Y row h2 hg hr, ownFrom_own C _ _ _ _ _ _ s X Y row h3 hg hr⟩
theorem OutS.more {W : World} {B B' bx : Nat} (h : OutS W B bx) (hb : B' ≤ B) : OutS W B' bx := by
 obtain ⟨O, oc, R, rc, h1, h2, h3⟩ := h
 exact ⟨O, oc, R, rc, h1, own_more h2 hb, own_more h3 hb⟩
theorem OutS.far {W : World} {B bx : Nat} (h : OutS W B bx) {p : Addr} (h1 : bx ≠ p.block) (h2 : p.block < B) (u : Value) : OutS (W.setCell p u) B bx := by
 obtain ⟨O, oc, R, rc, k1, k2, k3⟩ := h
 refine ⟨O, oc, R, rc, k1.far h1 u, k2.kept (setGrown W p u) ?_, k3.kept (setGrown W p u) ?_⟩
 · cases hv : (Value.slice O 1 oc).ownBlock with
   | none => exact .inl rfl
   | some g => exact .inr fun e => by cases e; have := (k2.lt _ hv).1; omega
 · cases hv : (Value.slice R 1 rc).ownBlock with
   | none => exact .inl rfl
   | some g => exact .inr fun e => by cases e; have := (k3.lt _ hv).1; omega
end Go.Proofs.YtnibidmlkbcfkaaGreatDoor
/- What lines' closure keeps while it grows: the boxes it captures, the line so far, what came out. No condition. -/
namespace Go.Proofs.YtnibidmlkbcfkaaGreatDoor
open Go.RowKit Go.Shelf
theorem bits_min {n : Nat} {a : Nat → Nat → Bool} {s i : Nat} (hn : n ≤ 6) (hs : s < 2 ^ n) : (bits .and .i64 (mk n fun k => a k i) (s : Int) == 0) = minB n a s i := by
 rw [mk_of hs, mk_and (by omega), Bool.eq_iff_iff, beq_iff_eq, mk_zero_iff]
 unfold minB
 rw [List.all_eq_true]
 constructor
 · intro h j hj
   have := h j (List.mem_range.1 hj)
   rw [this]; rfl
 · intro h j hj
   have := h j (List.mem_range.2 hj)
   cases e1 : a j i <;> cases e2 : s.testBit j <;> simp_all
theorem find_take {p : Nat → Bool} : ∀ {l : List Nat} {k x : Nat}, l[k]? = some x → (∀ i ∈ l.take k, p i = false) → p x = true → l.find? p = some x
 | [], k, x, h, _, _ => by simp at h
 | y :: l, 0, x, h, _, hp => by
  have : y = x := by simpa using h
  subst this
  rw [List.find?_cons, hp]
 | y :: l, k + 1, x, h, hk, hp => by
  have h : l[k]? = some x := by simpa using h
  have hy : p y = false := hk y (by simp)
  rw [List.find?_cons, hy]
  exact find_take h (fun i hi => hk i (by simp [hi])) hp
theorem ln_step {n : Nat} {a : Nat → Nat → Bool} {f s k x : Nat} (h : (bitsL s)[k]? = some x) (hk : ∀ i ∈ (bitsL s).take k, minB n a s i = false) (hx : minB n a s x = true) : lnL n a (f + 1) s = x :: lnL n a f (clr s x) := by
 conv => lhs; unfold lnL
 rw [show firstM n a s = some x from find_take h hk hx]
/-- A list of numbers as cells. -/
abbrev iV (l : List Nat) : List Value := l.map fun i : Nat => Value.int .i64 i
def growV (bo bx bl bg : Nat) : Value := .func (.func 73) #[] #[.pointer (some ⟨bx, 0, none⟩), .pointer (some ⟨bl, 0, none⟩), .pointer (some ⟨bo, 0, none⟩), .pointer (some ⟨bg, 0, none⟩)]
/-- The boxes; the line so far is lv; r lines came out, the first of them is F. -/
structure GS (n : Nat) (a : Nat → Nat → Bool) (B bo bx bl bg : Nat) (lv F : List Nat) (r : Nat) (vl vo vr : Value) (W : World) : Prop where
 ord : Blk W bo 78 (ordC n a)
 grow : Blk W bg 133 #[growV bo bx bl bg]
 out : Blk W bx 39 #[vo]
 line : Blk W bl 36 #[vl]
 ol : W.ownsRow B 3 1 vl lv.length (iV lv)
 oo : ∃ rows, W.ownsRow B 36 1 vo r rows ∧ (r ≠ 0 → rows[0]? = some vr)
 fst : r ≠ 0 → W.ownsRow B 3 1 vr F.length (iV F)
 nil : r = 0 → vr = .slice none 0 0
 ne : ∀ g, vr.ownBlock = some g → vl.ownBlock ≠ some g
def Own3 (vl vo vr : Value) (g : Nat) : Prop := vl.ownBlock = some g ∨ vo.ownBlock = some g ∨ vr.ownBlock = some g
section
variable {n : Nat} {a : Nat → Nat → Bool} {B bo bx bl bg : Nat} {lv F : List Nat} {r : Nat} {vl vo vr : Value} {W : World}
theorem GS.keep {W' : World} (h : GS n a B bo bx bl bg lv F r vl vo vr W) (hb : Below W.heap.size W W') : GS n a B bo bx bl bg lv F r vl vo vr W' := by
 obtain ⟨rows, h1, h2⟩ := h.oo
 exact ⟨h.ord.keep hb, h.grow.keep hb, h.out.keep hb, h.line.keep hb, own_below h.ol hb, ⟨rows, own_below h1 hb, h2⟩, fun e => own_below (h.fst e) hb, h.nil, h.ne⟩
theorem GS.lt (h : GS n a B bo bx bl bg lv F r vl vo vr W) {g : Nat} (hg : Own3 vl vo vr g) : B ≤ g ∧ g < W.heap.size := by
 obtain ⟨rows, h1, h2⟩ := h.oo
 rcases hg with hg | hg | hg
 · exact h.ol.lt _ hg
 · exact h1.lt _ hg
 · by_cases e : r = 0
   · rw [h.nil e] at hg; cases hg
   · exact (h.fst e).lt _ hg
theorem GS.isc (h : GS n a B bo bx bl bg lv F r vl vo vr W) {g : Nat} (hg : Own3 vl vo vr g) : ∃ c t, W.heap[g]? = some (.cells c t (0, 0)) := by
 obtain ⟨rows, h1, h2⟩ := h.oo
 rcases hg with hg | hg | hg
 · obtain ⟨c, hc⟩ := own_kind2 h.ol g hg; exact ⟨c, _, hc⟩
 · obtain ⟨c, hc⟩ := own_kind2 h1 g hg; exact ⟨c, _, hc⟩
 · by_cases e : r = 0
   · rw [h.nil e] at hg; cases hg
   · obtain ⟨c, hc⟩ := own_kind2 (h.fst e) g hg; exact ⟨c, _, hc⟩
theorem own_off {w w' : World} {base : Nat} {e : TypeId} {size n : Nat} {v : Value} {xs : List Value} {b : Nat} (h : w.ownsRow base e size v n xs) (hg : w.grownBy w' (some b)) (hne : v.ownBlock ≠ some b) : w'.ownsRow base e size v n xs := h.kept hg (.inr hne)
theorem GS.far (h : GS n a B bo bx bl bg lv F r vl vo vr W) {p : Addr} (h1 : ¬ (p.block = bo ∨ p.block = bx ∨ p.block = bl ∨ p.block = bg)) (h2 : ¬ Own3 vl vo vr p.block) (u : Value) : GS n a B bo bx bl bg lv F r vl vo vr (W.setCell p u) := by
 obtain ⟨rows, h3, h4⟩ := h.oo
 have hg := setGrown W p u
 have k1 : vl.ownBlock ≠ some p.block := fun e => h2 (.inl e)
 have k2 : vo.ownBlock ≠ some p.block := fun e => h2 (.inr (.inl e))
 have k3 : vr.ownBlock ≠ some p.block := fun e => h2 (.inr (.inr e))
 exact ⟨h.ord.far (by omega) u, h.grow.far (by omega) u, h.out.far (by omega) u, h.line.far (by omega) u, own_off h.ol hg k1, ⟨rows, own_off h3 hg k2, h4⟩, fun e => own_off (h.fst e) hg k3, h.nil, h.ne⟩
theorem GS.ownFrom {β : Type} (C : Nat) : OwnFrom C (fun (_ : β) W => GS n a B bo bx bl bg lv F r vl vo vr W) := fun s X Y row h hg hr => by
 obtain ⟨rows, h3, h4⟩ := h.oo
 exact ⟨ownFrom_blk C _ _ _ s X Y row h.ord hg hr, ownFrom_blk C _ _ _ s X Y row h.grow hg hr, ownFrom_blk C _ _ _ s X Y row h.out hg hr, ownFrom_blk C _ _ _ s X Y row h.line hg hr, ownFrom_own C _ _ _ _ _ _ s X Y row h.ol hg hr, ⟨rows, ownFrom_own C _ _ _ _ _ _ s X Y row h3 hg hr, h4⟩, fun e => ownFrom_own C _ _ _ _ _ _ s X Y row (h.fst e) hg hr, h.nil, h.ne⟩
/-- What a call of the closure may change. -/
def grS (bx bl : Nat) (vl vo vr : Value) (i : Nat) : Prop := i = bx ∨ i = bl ∨ Own3 vl vo vr i
/-- What a call of the closure does. -/
structure GrowR (n : Nat) (a : Nat → Nat → Bool) (B bo bx bl bg : Nat) (lv F : List Nat) (r m : Nat) (vl vo vr : Value) (w w' : World) : Prop where
 ex : ∃ r' vl' vo' vr', 1 ≤ r' ∧ r' ≤ r + m ∧ GS n a B bo bx bl bg lv F r' vl' vo' vr' w' ∧ ∀ g, Own3 vl' vo' vr' g → Own3 vl vo vr g ∨ w.heap.size ≤ g
 chs : Chs (grS bx bl vl vo vr) w w'
/-- A row without its last element. -/
theorem own_cut {w : World} {base : Nat} {e : TypeId} {n k : Nat} {A : Option Addr} {c : Nat} {xs : List Value} (h : w.ownsRow base e 1 (.slice A n c) n xs) (hk : k ≤ n) (hn : 0 < n) : w.ownsRow base e 1 (.slice A k c) k (xs.take k) := by
 rcases h.2 with ⟨_, h0⟩ | ⟨g, cap, cur, hv, hb, hg, hc, hm, hs, ht⟩
 · omega
 · cases hv
   have hl := h.1
   refine ⟨by rw [List.length_take]; omega, .inr ⟨g, c, cur, rfl, hb, hg, by omega, hm, hs, ?_⟩⟩
   rw [← ht, List.take_take]
   congr 1
   omega
end
section
variable {n : Nat} {a : Nat → Nat → Bool} {B bo bx bl bg : Nat} {lv F : List Nat} {r : Nat} {vl vo vr : Value} {W : World}
/-- Rows of two kinds lie in two blocks. -/
theorem own_two {w : World} {b1 b2 : Nat} {e1 e2 : TypeId} {s1 s2 n1 n2 : Nat} {v u : Value} {xs ys : List Value} (h : w.ownsRow b1 e1 s1 v n1 xs) (k : w.ownsRow b2 e2 s2 u n2 ys) (hne : e1 ≠ e2) : ∀ g, v.ownBlock = some g → u.ownBlock ≠ some g := fun g hg hu => by
 obtain ⟨c, hc⟩ := own_kind2 h g hg
 obtain ⟨d, hd⟩ := own_kind2 k g hu
 rw [hc] at hd
 simp only [Option.some.injEq, Obj.cells.injEq] at hd
 exact hne hd.2.1
theorem own_not {w w' : World} {base : Nat} {e : TypeId} {size n : Nat} {v u : Value} {xs : List Value} (h : w.ownsRow base e size v n xs) (hg : w.grownBy w' u.ownBlock) (hne : ∀ g, v.ownBlock = some g → u.ownBlock ≠ some g) : w'.ownsRow base e size v n xs := h.kept hg (by
 cases e1 : v.ownBlock with
 | none => exact .inl rfl
 | some g => exact .inr fun e2 => hne g e1 e2.symm)
theorem blk_not {w w' : World} {b : Nat} {t : TypeId} {cs : Array Value} {u : Value} (h : Blk w b t cs) (hg : w.grownBy w' u.ownBlock) (hne : u.ownBlock ≠ some b) : Blk w' b t cs := (hg.block b h.lt (fun e => hne e.symm)).trans h
/-- The boxes lie ahead of what was made since. -/
def BxL (B bo bx bl bg : Nat) : Prop := (bo < B ∧ bx < B ∧ bl < B ∧ bg < B) ∧ (7 < B ∧ ¬ bx = 7 ∧ ¬ bl = 7)
/-- A copy of the line goes out. -/
theorem GS.push (h : GS n a B bo bx bl bg lv F r vl vo vr W) (hb : BxL B bo bx bl bg) (hF : r = 0 → F = lv) {R : Option Addr} {rc C : Nat} (hR : W.ownsRow C 3 1 (.slice R lv.length rc) lv.length (iV lv)) (hBC : B ≤ C) (hC : ∀ g, vl.ownBlock = some g → g < C)
 {rows : List Value} (hro : W.ownsRow B 36 1 vo r rows) (hr0 : r ≠ 0 → rows[0]? = some vr) {wA : World} {g cap : Nat} (ho : wA.ownsRow B 36 1 (.slice (some ⟨g, 0, none⟩) (r + 1) cap) (r + 1) (rows ++ [.slice R lv.length rc])) (hg : W.grownBy wA vo.ownBlock) :
 GS n a B bo bx bl bg lv F (r + 1) vl (.slice (some ⟨g, 0, none⟩) (r + 1) cap) (if r = 0 then .slice R lv.length rc else vr) (wA.setCell ⟨bx, 0, none⟩ (.slice (some ⟨g, 0, none⟩) (r + 1) cap)) := by
 obtain ⟨⟨b1, b2, b3, b4⟩, _⟩ := hb
 have hlow : ∀ b, b < B → vo.ownBlock ≠ some b := fun b hb e => by have := (hro.lt b e).1; omega
 have x1 := blk_not h.ord hg (hlow bo b1)
 have x2 := blk_not h.out hg (hlow bx b2)
 have x3 := blk_not h.line hg (hlow bl b3)
 have x4 := blk_not h.grow hg (hlow bg b4)
 have hl1 := own_not h.ol hg (own_two h.ol hro (by decide))
 have hr1 := own_not hR hg (own_two hR hro (by decide))
 have hsg := setGrown wA ⟨bx, 0, none⟩ (.slice (some ⟨g, 0, none⟩) (r + 1) cap)
 refine ⟨x1.far (p := ⟨bx, 0, none⟩) (blk_neM x1 x2 (by decide)) _, x4.far (p := ⟨bx, 0, none⟩) (blk_neM x4 x2 (by decide)) _, x2.set 0 _, x3.far (p := ⟨bx, 0, none⟩) (blk_neM x3 x2 (by decide)) _, own_grown hl1 x2 (by decide) hsg, ⟨_, own_grown ho x2 (by decide) hsg, fun _ => ?_⟩, fun _ => ?_, fun e => absurd e (by omega), fun k hk => ?_⟩
 · by_cases e : r = 0
   · have hrn : rows = [] := List.eq_nil_of_length_eq_zero (by have := hro.1; omega)
     rw [if_pos e, hrn]; rfl
   · rw [if_neg e]
     have h0 := hr0 e
     have hlt := (List.getElem?_eq_some_iff.1 h0).1
     rw [List.getElem?_append_left hlt]
     exact h0
 · by_cases e : r = 0
   · rw [if_pos e, hF e]
     exact own_grown (own_more hr1 hBC) x2 (by decide) hsg
   · rw [if_neg e]
     exact own_grown (own_not (h.fst e) hg (own_two (h.fst e) hro (by decide))) x2 (by decide) hsg
 · by_cases e : r = 0
   · rw [if_pos e] at hk
     intro hv
     have := (hR.lt k hk).1
     have := hC k hv
     omega
   · rw [if_neg e] at hk
     exact h.ne k hk
theorem push_own {R : Option Addr} {m rc C H g cap : Nat} (h1 : ∀ k, (Value.slice R m rc).ownBlock = some k → C ≤ k) (h2 : vo.ownBlock = some g ∨ g = H) (hH : C ≤ H) : ∀ k, Own3 vl (.slice (some ⟨g, 0, none⟩) (r + 1) cap) (if r = 0 then .slice R m rc else vr) k → Own3 vl vo vr k ∨ C ≤ k := fun k hk => by
 rcases hk with hk | hk | hk
 · exact .inl (.inl hk)
 · have : g = k := by simpa [Value.ownBlock] using hk
   subst this
   rcases h2 with h2 | h2
   · exact .inl (.inr (.inl h2))
   · exact .inr (by omega)
 · by_cases e : r = 0
   · rw [if_pos e] at hk
     exact .inr (h1 k hk)
   · rw [if_neg e] at hk
     exact .inl (.inr (.inr hk))
theorem push_chs {w wA : World} {v : Value} (h : Below w.heap.size w W) (hg : W.grownBy wA vo.ownBlock) : Chs (grS bx bl vl vo vr) w (wA.setCell ⟨bx, 0, none⟩ v) := by
 refine (Chs.of_below h).trans (Chs.trans (w' := wA) ⟨hg.os, hg.tape, hg.output, hg.size, fun i hi hn => hg.block i hi fun e => hn (.inr (.inr (.inr (.inl e.symm))))⟩ (Chs.setCell (S := grS bx bl vl vo vr) (a := ⟨bx, 0, none⟩) (.inl rfl) v))
theorem GS.notS (h : GS n a B bo bx bl bg lv F r vl vo vr W) (hb : BxL B bo bx bl bg) : ¬ grS bx bl vl vo vr 7 := fun e => by
 rcases e with e | e | e
 · exact hb.2.2.1 e.symm
 · exact hb.2.2.2 e.symm
 · have := (h.lt e).1; have := hb.2.1; omega
end
theorem Chs.trans3 {S T : Nat → Prop} {w V w' : World} (h : Chs T w V) (k : Chs S V w') (hs : ∀ i, S i → T i ∨ w.heap.size ≤ i) : Chs T w w' :=
 ⟨k.os.trans h.os, k.tape.trans h.tape, k.output.trans h.output, Nat.le_trans h.size k.size, fun i hi hn => (k.block i (Nat.lt_of_lt_of_le hi h.size) fun e => by
  rcases hs i e with e | e
  · exact hn e
  · omega).trans (h.block i hi hn)⟩
section
variable {n : Nat} {a : Nat → Nat → Bool} {B bo bx bl bg : Nat} {lv F : List Nat} {r : Nat} {vl vo vr : Value} {W : World}
theorem iV_snoc (l : List Nat) (x : Nat) : iV (l ++ [x]) = iV l ++ [.int .i64 (x : Nat)] := by simp [iV]
/-- The line grows by one. -/
theorem GS.linePush (h : GS n a B bo bx bl bg lv F r vl vo vr W) (hb : BxL B bo bx bl bg) {x : Nat} {v1 : Value} {w8 : World} (ho : w8.ownsRow B 3 1 v1 (lv.length + 1) (iV lv ++ [.int .i64 (x : Nat)])) (hg : W.grownBy w8 vl.ownBlock) (hat : v1.ownBlock = vl.ownBlock ∨ v1.ownBlock = some W.heap.size) :
 GS n a B bo bx bl bg (lv ++ [x]) F r v1 vo vr (w8.setCell ⟨bl, 0, none⟩ v1) := by
 obtain ⟨⟨b1, b2, b3, b4⟩, _⟩ := hb
 obtain ⟨rows, h3, h4⟩ := h.oo
 have hlow : ∀ b, b < B → vl.ownBlock ≠ some b := fun b hb e => by have := (h.ol.lt b e).1; omega
 have x1 := blk_not h.ord hg (hlow bo b1)
 have x2 := blk_not h.out hg (hlow bx b2)
 have x3 := blk_not h.line hg (hlow bl b3)
 have x4 := blk_not h.grow hg (hlow bg b4)
 have y1 := own_not h3 hg (own_two h3 h.ol (by decide))
 have hsg := setGrown w8 ⟨bl, 0, none⟩ v1
 have hob : vo.ownBlock ≠ some bl := fun e => by have := (h3.lt bl e).1; omega
 refine ⟨x1.far (p := ⟨bl, 0, none⟩) (blk_neM x1 x3 (by decide)) _, x4.far (p := ⟨bl, 0, none⟩) (blk_neM x4 x3 (by decide)) _, x2.far (p := ⟨bl, 0, none⟩) (blk_neM x2 x3 (by decide)) _, x3.set 0 _, ?_, ⟨rows, own_off y1 hsg hob, h4⟩, fun e => own_grown (own_not (h.fst e) hg h.ne) x3 (by decide) hsg, h.nil, fun g hg => ?_⟩
 · rw [List.length_append, List.length_singleton, iV_snoc]
   exact own_grown ho x3 (by decide) hsg
 · intro e
   rcases hat with e2 | e2
   · exact h.ne g hg (e2.symm.trans e)
   · rw [e2] at e
     cases e
     have := (h.lt (.inr (.inr hg))).2
     omega
theorem push_own2 {v1 : Value} (hat : v1.ownBlock = vl.ownBlock ∨ v1.ownBlock = some W.heap.size) : ∀ g, Own3 v1 vo vr g → Own3 vl vo vr g ∨ W.heap.size ≤ g := fun g hg => by
 rcases hg with hg | hg | hg
 · rcases hat with e | e
   · exact .inl (.inl (e.symm.trans hg))
   · rw [e] at hg
     cases hg
     exact .inr (Nat.le_refl _)
 · exact .inl (.inr (.inl hg))
 · exact .inl (.inr (.inr hg))
theorem linePush_chs {w8 : World} {v1 : Value} (hg : W.grownBy w8 vl.ownBlock) : Chs (grS bx bl vl vo vr) W (w8.setCell ⟨bl, 0, none⟩ v1) :=
 Chs.trans (w' := w8) ⟨hg.os, hg.tape, hg.output, hg.size, fun i hi hn => hg.block i hi fun e => hn (.inr (.inr (.inl e.symm)))⟩ (Chs.setCell (S := grS bx bl vl vo vr) (a := ⟨bl, 0, none⟩) (.inr (.inl rfl)) v1)
theorem own_same (L : Option Addr) (n c m d : Nat) : (Value.slice L n c).ownBlock = (Value.slice L m d).ownBlock := by cases L <;> rfl
/-- The line loses its last. -/
theorem GS.lineCut {x : Nat} {L : Option Addr} {lc : Nat} (h : GS n a B bo bx bl bg (lv ++ [x]) F r (.slice L (lv.length + 1) lc) vo vr W) (hb : BxL B bo bx bl bg) : GS n a B bo bx bl bg lv F r (.slice L lv.length lc) vo vr (W.setCell ⟨bl, 0, none⟩ (.slice L lv.length lc)) := by
 obtain ⟨⟨b1, b2, b3, b4⟩, _⟩ := hb
 obtain ⟨rows, h3, h4⟩ := h.oo
 have hsg := setGrown W ⟨bl, 0, none⟩ (.slice L lv.length lc)
 have hob : vo.ownBlock ≠ some bl := fun e => by have := (h3.lt bl e).1; omega
 have hl := h.ol
 rw [List.length_append, List.length_singleton, iV_snoc] at hl
 have hl2 := own_cut hl (k := lv.length) (by omega) (by omega)
 rw [List.take_append_of_le_length (by simp), List.take_of_length_le (by simp)] at hl2
 exact ⟨h.ord.far (p := ⟨bl, 0, none⟩) (blk_neM h.ord h.line (by decide)) _, h.grow.far (p := ⟨bl, 0, none⟩) (blk_neM h.grow h.line (by decide)) _, h.out.far (p := ⟨bl, 0, none⟩) (blk_neM h.out h.line (by decide)) _, h.line.set 0 _, own_grown hl2 h.line (by decide) hsg, ⟨rows, own_off h3 hsg hob, h4⟩, fun e => own_grown (h.fst e) h.line (by decide) hsg, h.nil, fun g hg e => h.ne g hg ((own_same L _ _ _ _).trans e)⟩
theorem GS.keeps (h : GS n a B bo bx bl bg lv F r vl vo vr W) {W' : World} (hc : Chs (grS bx bl vl vo vr) W W') {i : Nat} {o : Obj} (ho : W.heap[i]? = some o) (hk : o.isCells = false) : W'.heap[i]? = some o := by
 refine (hc.block i (lt_of_some ho) fun e => ?_).trans ho
 rcases e with e | e | e
 · have h2 : W.heap[bx]? = some (.cells #[vo] 39 (0, 0)) := h.out
   rw [e, h2] at ho; cases ho; cases hk
 · have h2 : W.heap[bl]? = some (.cells #[vl] 36 (0, 0)) := h.line
   rw [e, h2] at ho; cases ho; cases hk
 · obtain ⟨c, t, h2⟩ := h.isc e
   rw [h2] at ho; cases ho; cases hk
end
/-- What stands between the rounds over the elements that are left. -/
def GI (n : Nat) (a : Nat → Nat → Bool) (B bo bx bl bg : Nat) (lv F : List Nat) (s r m H : Nat) (vl vo vr : Value) (k : Nat) (W : World) : Prop :=
 ∃ r' vl' vo' vr', r' ≤ r + k * m ∧ (r' = 0 → r = 0 ∧ ∀ i ∈ (bitsL s).take k, minB n a s i = false) ∧ GS n a B bo bx bl bg lv F r' vl' vo' vr' W ∧ ∀ g, Own3 vl' vo' vr' g → Own3 vl vo vr g ∨ H ≤ g
theorem GI.ownFrom {n : Nat} {a : Nat → Nat → Bool} {B bo bx bl bg : Nat} {lv F : List Nat} {s r m H : Nat} {vl vo vr : Value} (C : Nat) : OwnFrom C (fun k W => GI n a B bo bx bl bg lv F s r m H vl vo vr k W) := fun k X Y row h hg hr => by
 obtain ⟨r', vl', vo', vr', h1, h2, h3, h4⟩ := h
 exact ⟨r', vl', vo', vr', h1, h2, GS.ownFrom (β := Unit) C () X Y row h3 hg hr, h4⟩
theorem GI.far {n : Nat} {a : Nat → Nat → Bool} {B bo bx bl bg : Nat} {lv F : List Nat} {s r m H k : Nat} {vl vo vr : Value} {W : World} (h : GI n a B bo bx bl bg lv F s r m H vl vo vr k W) (hb : BxL B bo bx bl bg) {p : Addr} (h1 : B ≤ p.block) (h2 : ¬ Own3 vl vo vr p.block) (h3 : p.block < H) (u : Value) : GI n a B bo bx bl bg lv F s r m H vl vo vr k (W.setCell p u) := by
 obtain ⟨r', vl', vo', vr', k1, k2, k3, k4⟩ := h
 obtain ⟨⟨b1, b2, b3, b4⟩, _⟩ := hb
 exact ⟨r', vl', vo', vr', k1, k2, k3.far (by omega) (fun e => by
  rcases k4 _ e with e | e
  · exact h2 e
  · omega) u, k4⟩
theorem min_some {n : Nat} {a : Nat → Nat → Bool} (hn : n ≤ 6) (ho : OrdOk n a) {s : Nat} (hs : s < 2 ^ n) (h0 : s ≠ 0) : ¬ ∀ i ∈ (bitsL s).take (bitsL s).length, minB n a s i = false := fun h => by
 obtain ⟨i, h1, h2, h3⟩ := first_some hn ho hs h0
 have := h i (by rw [List.take_length]; exact (mem_bits (p64 hn hs)).2 h2)
 rw [h3] at this
 cases this
end Go.Proofs.YtnibidmlkbcfkaaGreatDoor
