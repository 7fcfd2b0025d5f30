/- Texts of this proof, one behind the other; each says its condition at its head. -/
import Derived.Test.YtnibidmlkbcfkaaGreatDoorT23
import Derived.Test.YtnibidmlkbcfkaaGreatDoorT5
namespace Go.Proofs.YtnibidmlkbcfkaaGreatDoor
/- Contracts of six of the seven changes, as state.do asks them. Conditions: what a mint's books keep. -/
section
open Go.RowKit Go.Maps
theorem readP_shape {r0 r1 : Nat} {l : List ByteArray} {nm : List ByteArray} {nu : List Int} (h : readP r0 r1 l = some (nm, nu)) : nm.length = r0 ∧ nu.length = r1 ∧ ∀ v ∈ nu, 0 ≤ v ∧ v < 1000 := by
 unfold readP at h
 split at h
 · rename_i hc
   cases h
   refine ⟨by rw [List.length_take]; omega, by rw [List.length_map, List.length_drop]; omega, fun v hv => ?_⟩
   obtain ⟨x, _, rfl⟩ := List.mem_map.1 hv
   exact numV_lt x
 · cases h
theorem one_of {α : Type} {l : List α} (h : l.length = 1) : ∃ x, l = [x] := by
 match l, h with
 | [x], _ => exact ⟨x, rfl⟩
theorem two_of {α : Type} {l : List α} (h : l.length = 2) : ∃ x y, l = [x, y] := by
 match l, h with
 | [x, y], _ => exact ⟨x, y, rfl⟩
theorem four_of {α : Type} {l : List α} (h : l.length = 4) : ∃ x y z v, l = [x, y, z, v] := by
 match l, h with
 | [x, y, z, v], _ => exact ⟨x, y, z, v, rfl⟩
theorem chgMedal (s : Bk) (hs : BkS s) (x : ByteArray) : ChgC 120 s [x] [] (medalL s x) := by
 intro w B b m u p t e A c D d h hA _ hab _ _ _ _
 refine (medalAny w B b m u p t e s x A 1 c (.slice D 0 d) h hs (by simpa [strV] using hA) (.inr ⟨_, _, _, rfl⟩) hab).mono ?_
 rintro r w' ⟨m', u', h1, h2, h3⟩
 exact ⟨m', u', p, t, e, h1, fun _ => h2, h3⟩
theorem chgPlayer (s : Bk) (hs : BkS s) (x : ByteArray) : ChgC 122 s [x] [] (playerL s x) := by
 intro w B b m u p t e A c D d h hA _ hab _ _ _ _
 refine (playerAny w B b m u p t e s x A 1 c (.slice D 0 d) h hs (by simpa [strV] using hA) (.inr ⟨_, _, _, rfl⟩) hab).mono ?_
 rintro r w' ⟨p', t', h1, h2, h3⟩
 exact ⟨m, u, p', t', e, h1, fun _ => h2, h3⟩
theorem chgBeat (s : Bk) (hs : BkS s) (hp : s.beats.length = s.players.length) (x y : ByteArray) : ChgC 123 s [x, y] [] (beatL s x y) := by
 intro w B b m u p t e A c D d h hA _ _ _ _ _ _
 refine (beatAny w B b m u p t e s x y A 2 c (.slice D 0 d) h hs hp hA ⟨_, _, _, rfl⟩).mono ?_
 rintro r w' ⟨h1, h2, h3⟩
 exact ⟨m, u, p, t, e, h1, fun _ => h2, h3⟩
theorem inK_of {x0 x1 x2 x3 : Int} (h : ∀ v ∈ [x0, x1, x2, x3], 0 ≤ v ∧ v < 1000) : inK x0 x1 x2 x3 := by
 have h0 := h x0 (by simp)
 have h1 := h x1 (by simp)
 have h2 := h x2 (by simp)
 have h3 := h x3 (by simp)
 unfold inK
 omega
theorem chgLay (s : Bk) (x0 x1 x2 x3 : Int) (hx : ∀ v ∈ [x0, x1, x2, x3], 0 ≤ v ∧ v < 1000) : ChgC 124 s [] [x0, x1, x2, x3] (layL s x0 x1 x2 x3) := by
 intro w B b m u p t e A c D d h _ hD _ hdb _ _ _
 refine (layAny w B b m u p t e s x0 x1 x2 x3 D 4 d (.slice A 0 c) h (inK_of hx) hD ⟨_, _, _, rfl⟩ hdb).mono ?_
 rintro r w' ⟨h1, h2, h3⟩
 exact ⟨m, u, p, t, e, h1, fun _ => h2, h3⟩
theorem chgPan (s : Bk) (hk : KnI s) (x0 x1 x2 x3 : Int) (hx : ∀ v ∈ [x0, x1, x2, x3], 0 ≤ v ∧ v < 1000) : ChgC 125 s [] [x0, x1, x2, x3] (panL s x0 x1 x2 x3) := by
 intro w B b m u p t e A c D d h _ hD _ hdb _ _ _
 refine (panAny w B b m u p t e s x0 x1 x2 x3 D 4 d (.slice A 0 c) h (inK_of hx) hk hD ⟨_, _, _, rfl⟩ hdb).mono ?_
 rintro r w' ⟨h1, h2, h3⟩
 exact ⟨m, u, p, t, e, h1, fun _ => h2, h3⟩
theorem chgBet (s : Bk) (hb : BetI s.bets) (v k : Int) (hx : ∀ z ∈ [v, k], 0 ≤ z ∧ z < 1000) : ChgC 126 s [] [v, k] (betL s v k) := by
 intro w B b m u p t e A c D d h _ hD _ _ _ _ _
 refine (betAny2 w B b m u p t e s v k D 2 d (.slice A 0 c) h (by have h1 := hx v (by simp); have h2 := hx k (by simp); omega) hb hD ⟨_, _, _, rfl⟩).mono ?_
 rintro r w' ⟨e', h1, h2, h3⟩
 exact ⟨m, u, p, t, e', h1, fun _ => h2, h3⟩
/-- What stays true of lists, batch and bets, whatever is done. -/
structure BkJ (s : Bk) : Prop where
 med : s.medals.length ≤ 6
 abv : s.above.length = s.medals.length
 pla : s.players.length ≤ 8
 bea : s.beats.length = s.players.length
 kn : KnI s
 bet : BetI s.bets
theorem BkJ.short {s : Bk} (h : BkJ s) : BkS s := ⟨h.med, by have := h.abv; have := h.med; omega, h.pla, by have := h.bea; have := h.pla; omega, h.bet.len⟩
theorem enterL_len {l : List ByteArray} {x : ByteArray} {k : Nat} (h : (enterL l x k).2 = 0) : (enterL l x k).1.length = l.length + 1 ∧ l.length ≠ k := by
 unfold enterL at *
 split at h
 · cases h
 · split at h
   · cases h
   · rename_i h1 h2
     rw [if_neg h1, if_neg h2]
     exact ⟨by simp, h2⟩
theorem BkJ.medal {s : Bk} (h : BkJ s) (x : ByteArray) : BkJ (medalL s x).1 := by
 unfold medalL
 split
 · rename_i hz
   obtain ⟨h1, h2⟩ := enterL_len hz
   exact ⟨by have := h.med; simp only; omega, by have := h.abv; simp only [List.length_append, List.length_singleton]; omega, h.pla, h.bea, h.kn, h.bet⟩
 · exact h
theorem BkJ.player {s : Bk} (h : BkJ s) (x : ByteArray) : BkJ (playerL s x).1 := by
 unfold playerL
 split
 · rename_i hz
   obtain ⟨h1, h2⟩ := enterL_len hz
   exact ⟨h.med, h.abv, by have := h.pla; simp only; omega, by have := h.bea; simp only [List.length_append, List.length_map, List.length_singleton]; omega, h.kn, h.bet⟩
 · exact h
theorem BkJ.beat {s : Bk} (h : BkJ s) (x y : ByteArray) : BkJ (beatL s x y).1 := by
 unfold beatL
 split
 · split
   · exact h
   · exact ⟨h.med, h.abv, h.pla, by have := h.bea; simp only [putI, List.length_set]; exact this, h.kn, h.bet⟩
 · exact h
theorem BkJ.lay {s : Bk} (h : BkJ s) {x0 x1 x2 x3 : Int} (hx : ∀ v ∈ [x0, x1, x2, x3], 0 ≤ v ∧ v < 1000) : BkJ (layL s x0 x1 x2 x3).1 := by
 unfold layL
 split
 · rename_i hk
   have h0 := hx x0 (by simp)
   have h1 := hx x1 (by simp)
   have h2 := hx x2 (by simp)
   have h3 := hx x3 (by simp)
   exact ⟨h.med, h.abv, h.pla, h.bea, ⟨h0.1, h1.1, h2.1, h3.1, hk⟩, h.bet⟩
 · exact h
theorem BkJ.pan {s : Bk} (h : BkJ s) {x0 x1 x2 x3 : Int} (hx : ∀ v ∈ [x0, x1, x2, x3], 0 ≤ v ∧ v < 1000) : BkJ (panL s x0 x1 x2 x3).1 := by
 unfold panL
 split
 · rename_i hk
   unfold ofR at hk
   simp only [Bool.and_eq_true, decide_eq_true_eq] at hk
   have h0 := hx x0 (by simp)
   have h1 := hx x1 (by simp)
   have h2 := hx x2 (by simp)
   obtain ⟨k0, k1, k2, k3, k4⟩ := h.kn
   unfold knOk at k4
   simp only [Bool.and_eq_true, decide_eq_true_eq] at k4
   refine ⟨h.med, h.abv, h.pla, h.bea, ⟨by simp only; omega, by simp only; omega, by simp only; omega, by simp only; omega, ?_⟩, h.bet⟩
   unfold knOk
   simp only [Bool.and_eq_true, decide_eq_true_eq]
   omega
 · exact h
theorem BkJ.bets {s : Bk} (h : BkJ s) {v k : Int} (hk : 0 ≤ k) : BkJ (betL s v k).1 := by
 unfold betL
 split
 · exact h
 · rename_i h1
   split
   · exact h
   · rename_i h2
     split
     · exact h
     · exact ⟨h.med, h.abv, h.pla, h.bea, h.kn, h.bet.snoc (by omega) (by omega) hk (by omega) (by rwa [Bool.not_eq_true] at h2)⟩
end
/- Plain law of orders: what is above each element, as sets; and an order with a pair more. -/
section
open Go.RowKit Go.Maps
/-- A partial order of n elements: a i j says that j is above i. -/
def OrdOk (n : Nat) (a : Nat → Nat → Bool) : Prop := (∀ i, i < n → a i i = false) ∧ ∀ i j k, i < n → j < n → k < n → a i j = true → a j k = true → a i k = true
/-- An order as numbers. -/
def ordL (n : Nat) (a : Nat → Nat → Bool) : List Int := (List.range n).map fun i => mk n (a i)
/-- With j above i besides. -/
def addA (a : Nat → Nat → Bool) (i j : Nat) (k m : Nat) : Bool := if k = i ∨ a k i = true then a k m || (a j m || decide (m = j)) else a k m
theorem addA_ok {n : Nat} {a : Nat → Nat → Bool} {i j : Nat} (h : OrdOk n a) (hi : i < n) (hj : j < n) (h1 : i ≠ j) (_h2 : a i j = false) (h3 : a j i = false) : OrdOk n (addA a i j) := by
 refine ⟨fun k hk => ?_, fun k l m hk hl hm e1 e2 => ?_⟩
 · unfold addA
   split
   · rename_i hs
     rw [Bool.or_eq_false_iff, Bool.or_eq_false_iff, decide_eq_false_iff_not]
     refine ⟨h.1 k hk, ?_, fun e => ?_⟩
     · rcases hs with rfl | hs
       · exact h3
       · cases hc : a j k with
         | false => rfl
         | true => have := h.2 j k i hj hk hi hc hs; rw [h3] at this; cases this
     · subst e
       rcases hs with e | hs
       · exact h1 e.symm
       · rw [h3] at hs; cases hs
   · exact h.1 k hk
 · unfold addA at e1 e2 ⊢
   by_cases hs : k = i ∨ a k i = true
   · rw [if_pos hs] at e1 ⊢
     simp only [Bool.or_eq_true, decide_eq_true_eq] at e1 ⊢
     rcases e1 with e1 | e1 | e1
     · split at e2
       · simp only [Bool.or_eq_true, decide_eq_true_eq] at e2
         rcases e2 with e2 | e2
         · exact .inl (h.2 k l m hk hl hm e1 e2)
         · exact .inr e2
       · exact .inl (h.2 k l m hk hl hm e1 e2)
     · split at e2
       · rename_i hl2
         rcases hl2 with rfl | hl2
         · rw [h3] at e1; cases e1
         · have := h.2 j l i hj hl hi e1 hl2; rw [h3] at this; cases this
       · exact .inr (.inl (h.2 j l m hj hl hm e1 e2))
     · subst e1
       split at e2
       · rename_i hl2
         rcases hl2 with e | hl2
         · exact absurd e.symm h1
         · rw [h3] at hl2; cases hl2
       · exact .inr (.inl e2)
   · rw [if_neg hs] at e1 ⊢
     split at e2
     · rename_i hl2
       refine absurd (.inr ?_) hs
       rcases hl2 with rfl | hl2
       · exact e1
       · exact h.2 k l i hk hl hi e1 hl2
     · exact h.2 k l m hk hl hm e1 e2
/-- What a number says of its bits. -/
def bitsOf (l : List Int) (k m : Nat) : Bool := (l.getD k 0).toNat.testBit m
theorem bits_ordL {n : Nat} {a : Nat → Nat → Bool} {k m : Nat} (hk : k < n) (hm : m < n) : bitsOf (ordL n a) k m = a k m := by
 unfold bitsOf ordL
 rw [List.getD_eq_getElem?_getD, List.getElem?_map, List.getElem?_range hk]
 simp only [Option.map_some, Option.getD_some]
 unfold mk
 rw [Int.toNat_natCast, mkN_bit]
 simp [hm]
/-- An order's list with a pair more; and the answer's number. -/
def addZ (l : List Int) (i j : Nat) : List Int × Nat :=
 if i = j ∨ bitsOf l i j = true ∨ bitsOf l j i = true then (l, 5) else (ordL l.length (addA (bitsOf l) i j), 0)
theorem ordL_len (n : Nat) (a : Nat → Nat → Bool) : (ordL n a).length = n := by unfold ordL; simp
theorem ordL_congr {n : Nat} {a b : Nat → Nat → Bool} (h : ∀ i j, i < n → j < n → a i j = b i j) : ordL n a = ordL n b := by
 unfold ordL
 refine List.map_congr_left fun i hi => ?_
 exact mk_congr fun j hj => h i j (List.mem_range.1 hi) hj
theorem addZ_ordL {n : Nat} {a : Nat → Nat → Bool} {i j : Nat} (hi : i < n) (hj : j < n) : addZ (ordL n a) i j = if i = j ∨ a i j = true ∨ a j i = true then (ordL n a, 5) else (ordL n (addA a i j), 0) := by
 unfold addZ
 rw [bits_ordL hi hj, bits_ordL hj hi, ordL_len]
 split
 · rfl
 · rw [ordL_congr (n := n) (a := addA (bitsOf (ordL n a)) i j) (b := addA a i j) fun k m hk hm => by
    unfold addA
    rw [bits_ordL hk hi, bits_ordL hk hm, bits_ordL hj hm]]
/-- A list that is an order. -/
def OrdI (l : List Int) : Prop := ∃ a, l = ordL l.length a ∧ OrdOk l.length a
theorem OrdI.add {l : List Int} (h : OrdI l) {i j : Nat} (hi : i < l.length) (hj : j < l.length) : OrdI (addZ l i j).1 := by
 obtain ⟨a, h1, h2⟩ := h
 rw [h1, addZ_ordL hi hj]
 split
 · exact ⟨a, by simp only [ordL_len], by simp only [ordL_len]; exact h2⟩
 · rename_i hc
   simp only [not_or, Bool.not_eq_true] at hc
   exact ⟨addA a i j, by simp only [ordL_len], by simp only [ordL_len]; exact addA_ok h2 hi hj hc.1 hc.2.1 hc.2.2⟩
theorem OrdI.push {l : List Int} (h : OrdI l) : OrdI (l ++ [0]) := by
 obtain ⟨a, h1, h2⟩ := h
 have hn : (l ++ [(0 : Int)]).length = l.length + 1 := by simp
 refine ⟨fun i j => decide (i < l.length) && (decide (j < l.length) && a i j), ?_, ?_⟩
 · rw [hn]
   unfold ordL
   rw [List.range_succ, List.map_append]
   congr 1
   · conv => lhs; rw [h1]
     unfold ordL
     refine List.map_congr_left fun i hi => ?_
     have hi := List.mem_range.1 hi
     unfold mk
     congr 1
     show mkN l.length (a i) = mkN l.length _ + _
     rw [mkN_congr (f := a i) (g := fun j => decide (i < l.length) && (decide (j < l.length) && a i j)) fun j hj => by simp [hi, hj]]
     simp
   · simp only [List.map_cons, List.map_nil, Nat.lt_irrefl, decide_false, Bool.false_and, mk_none]
 · rw [hn]
   refine ⟨fun i _ => ?_, fun i j k _ _ _ e1 e2 => ?_⟩
   · by_cases hi : i < l.length
     · simp [h2.1 i hi]
     · simp [hi]
   · simp only [Bool.and_eq_true, decide_eq_true_eq] at e1 e2 ⊢
     exact ⟨e1.1, e2.2.1, h2.2 i j k e1.1 e1.2.1 e2.2.1 e1.2.2 e2.2.2⟩
/-- rank on a mint's books; and the answer's number. -/
def rankL (s : Bk) (x y : ByteArray) : Bk × Nat :=
 if 0 ≤ idxZ s.medals x ∧ 0 ≤ idxZ s.medals y then
  if (addZ s.above (idxZ s.medals y).toNat (idxZ s.medals x).toNat).2 = 0 then ({ s with above := (addZ s.above (idxZ s.medals y).toNat (idxZ s.medals x).toNat).1 }, 0) else (s, 5)
 else (s, 4)
end
/- Walks of order's element, free and slice. Condition: an order of six elements at most. -/
section
open Go.RowKit Go.Maps
attribute [local go_sem ↓] shl_p2 shr_v and_shr
/-- What is above an element, as its cell says. -/
def oc (n : Nat) (a : Nat → Nat → Bool) (k : Nat) : Int := if k < n then mk n (a k) else 0
/-- An order's cells. -/
def ordC (n : Nat) (a : Nat → Nat → Bool) : Array Value := #[.int .i64 (n : Nat), .int .i64 (oc n a 0), .int .i64 (oc n a 1), .int .i64 (oc n a 2), .int .i64 (oc n a 3), .int .i64 (oc n a 4), .int .i64 (oc n a 5)]
theorem ordC_at {w : World} {b : Nat} {n : Nat} {a : Nat → Nat → Bool} (h : Blk w b 78 (ordC n a)) {k : Nat} (hk : k < 6) : w.cell? ⟨b, 1 + k, none⟩ = some (.int .i64 (oc n a k)) := by
 have := h.cell (1 + k)
 rw [this]
 match k, hk with
 | 0, _ => rfl
 | 1, _ => rfl
 | 2, _ => rfl
 | 3, _ => rfl
 | 4, _ => rfl
 | 5, _ => rfl
set_option maxRecDepth 100000 in
theorem elementF (n : Nat) (a : Nat → Nat → Bool) (i : Nat) (hi : i < n) (w : World) :
 Calls Tryz.prog 39 #[.agg (ordC n a), .int .i64 (i : Nat)] w fun e w' => e = .returned (.bool true) ∧ Below w.heap.size w w' := by
 have HB := hid ((Below.refl w.heap.size w).alloc (Nat.le_refl _) (.cells (ordC n a) 78))
 have hi2 : (i : Int) < (n : Int) := by omega
 unfold ordC at HB ⊢
 go_enter Tryz.func39, Tryz.ntmps39
 go_wp2
 go_ret
 exact ⟨rfl, HB.out⟩
theorem oc_bit {n : Nat} (a : Nat → Nat → Bool) {i j : Nat} (hi : i < n) (hj : j < n) : bitV (oc n a i) j = if a i j = true then 1 else 0 := by
 unfold oc
 rw [if_pos hi, bitV_if]
 have := mk_bitB (n := n) (a i) hj
 rw [this]
set_option maxRecDepth 100000 in
set_option maxHeartbeats 1000000 in
theorem freeF (n : Nat) (a : Nat → Nat → Bool) (i j : Nat) (hn : n ≤ 6) (hi : i < n) (hj : j < n) (q : Bool) (hq : q = true ↔ ¬ (i = j ∨ a i j = true ∨ a j i = true)) (w : World) :
 Calls Tryz.prog 75 #[.agg (ordC n a), .int .i64 (i : Nat), .int .i64 (j : Nat)] w fun e w' => e = .returned (.bool q) ∧ Below w.heap.size w w' := by
 have HB := hid ((Below.refl w.heap.size w).alloc (Nat.le_refl _) (.cells (ordC n a) 78))
 have hb := Blk.new w 78 (ordC n a)
 have ci := ordC_at hb (k := i) (by omega)
 have cj := ordC_at hb (k := j) (by omega)
 have bi := oc_bit a hi hj
 have bj := oc_bit a hj hi
 have fi : Fits (i : Int) := ⟨by omega, by omega⟩
 have fj : Fits (j : Int) := ⟨by omega, by omega⟩
 have hi6 : (i : Int) < 6 := by omega
 have hj6 : (j : Int) < 6 := by omega
 generalize hvi : oc n a i = vi at *
 generalize hvj : oc n a j = vj at *
 clear hvi hvj hb
 unfold ordC at HB ci cj ⊢
 by_cases hij : i = j
 · have hij2 : (i : Int) = (j : Int) := by omega
   obtain rfl : q = false := by
    cases q with
    | false => rfl
    | true => exact absurd (.inl hij) (hq.1 rfl)
   clear hq
   go_enter Tryz.func75, Tryz.ntmps75
   go_wp2
   go_ret
   exact ⟨rfl, HB.out⟩
 · have q1 : ((i : Int) == (j : Int)) = false := by rw [beq_eq_false_iff_ne]; omega
   have q3 : (i == j) = false := by rw [beq_eq_false_iff_ne]; exact hij
   cases h1 : a i j with
   | true =>
    have q2 : (bitV vi (j : Int) == 0) = false := by rw [bi, h1]; rfl
    obtain rfl : q = false := by
     cases q with
     | false => rfl
     | true => exact absurd (.inr (.inl h1)) (hq.1 rfl)
    clear hq
    go_enter Tryz.func75, Tryz.ntmps75
    go_wp2
    go_ret
    exact ⟨rfl, HB.out⟩
   | false =>
    have q2 : (bitV vi (j : Int) == 0) = true := by rw [bi, h1]; rfl
    cases h2 : a j i with
    | true =>
     have q4 : (bitV vj (i : Int) == 0) = false := by rw [bj, h2]; rfl
     obtain rfl : q = false := by
      cases q with
      | false => rfl
      | true => exact absurd (.inr (.inr h2)) (hq.1 rfl)
     clear hq
     go_enter Tryz.func75, Tryz.ntmps75
     go_wp2
     go_ret
     exact ⟨rfl, HB.out⟩
    | false =>
     have q4 : (bitV vj (i : Int) == 0) = true := by rw [bj, h2]; rfl
     have q0 : ((i : Int) != (j : Int)) = true := by rw [bne, q1]; rfl
     obtain rfl : q = true := hq.2 (by rw [h1, h2]; simp [hij])
     clear hq
     go_enter Tryz.func75, Tryz.ntmps75
     go_wp2
     go_ret
     exact ⟨rfl, HB.out⟩
end
/- Walk of order's slice. Condition: an order of six elements at most. -/
section
open Go.RowKit Go.Maps
theorem ordC_sl {w : World} {b n : Nat} {a : Nat → Nat → Bool} (h : Blk w b 78 (ordC n a)) (hn : n ≤ 6) : Sl w (some ⟨b, 1, none⟩) n 6 (intV (ordL n a)) :=
 ⟨by unfold intV; rw [List.length_map, ordL_len], hn, by unfold maxLen; omega, fun _ => ⟨b, 1, rfl, h.lt, fun j u hu => by
  unfold intV ordL at hu
  rw [List.getElem?_map, List.getElem?_map] at hu
  obtain ⟨x, hx, rfl⟩ := Option.map_eq_some_iff.1 hu
  obtain ⟨y, hy, rfl⟩ := Option.map_eq_some_iff.1 hx
  obtain ⟨hj, hy⟩ := List.getElem?_eq_some_iff.1 hy
  rw [List.length_range] at hj
  rw [List.getElem_range] at hy
  subst hy
  have := ordC_at h (k := j) (by omega)
  unfold oc at this
  rwa [if_pos hj] at this⟩⟩
set_option maxRecDepth 100000 in
set_option maxHeartbeats 1000000 in
theorem ordSlice (n : Nat) (a : Nat → Nat → Bool) (hn : n ≤ 6) (w : World) :
 Calls Tryz.prog 41 #[.agg (ordC n a)] w fun e w' => ∃ A c, e = .returned (.slice A n c) ∧ w'.ownsRow w.heap.size 3 1 (.slice A n c) n (intV (ordL n a)) ∧ Below w.heap.size w w' := by
 have HB := hid ((Below.refl w.heap.size w).alloc (Nat.le_refl _) (.cells (ordC n a) 78))
 have HS := hid (ordC_sl (Blk.new w 78 (ordC n a)) hn)
 have HC := hid (cloneI (some ⟨w.heap.size, 1, none⟩) n 6 (intV (ordL n a)) (intV_one _) (by omega) _ HS.out)
 have hn2 : (n : Int) ≤ 6 := by omega
 have hn0 : (0 : Int) ≤ (n : Int) := by omega
 have HSZ := hid HB.out.size
 generalize ordL n a = l at *
 unfold ordC at HB HC HSZ ⊢
 clear HS
 go_enter Tryz.func41, Tryz.ntmps41
 go_wp2_with fail
 refine (HC.out).mono ?_; rintro e w1 ⟨A, c, rfl, ho, hb⟩
 have HO := hid (own_more ho HSZ.out)
 have HW := hid (below_call HB.out hb HSZ.out)
 clear ho hb HC
 go_wp2
 go_ret
 exact ⟨A, c, rfl, HO.out, HW.out⟩
end
/- Walk of rank at any state of a call's own, over a contract of order.Add. Condition: the line's names lie below it; as much above as medals. -/
section
open Go.RowKit Go.Maps
/-- What order.Add hands back, of elements that are there. -/
def AddR (l : List Int) (i j : Nat) (w : World) (r : Ending) (w' : World) : Prop :=
 (((addZ l i j).2 = 0 ∧ ∃ A c, r = .returned (.tuple #[.slice A l.length c, .int .i64 0]) ∧ w'.ownsRow w.heap.size 3 1 (.slice A l.length c) l.length (intV (addZ l i j).1)) ∨ ((addZ l i j).2 ≠ 0 ∧ r = .returned (.tuple #[.slice none 0 0, .int .i64 5]))) ∧ Below w.heap.size w w'
theorem grown_of_below {w w' : World} (hb : Below w.heap.size w w') (r : Option Nat) : w.grownBy w' r := ⟨hb.os, hb.tape, hb.output, hb.size, fun k hk _ => hb.block k hk⟩
theorem Tab.low {w w' : World} {B : Nat} (h : Tab w) (hb : Below B w w') (hB : 7 < B) : Tab w' := fun j hj => (hb.cell (p := ⟨7, j, none⟩) hB).trans (h j hj)
theorem addZ_len {l : List Int} {i j : Nat} : (addZ l i j).1.length = l.length := by
 unfold addZ
 split
 · rfl
 · exact ordL_len _ _
set_option maxRecDepth 100000 in
set_option maxHeartbeats 4000000 in
theorem rankAny (w : World) (B b : Nat) (m u p t e : Value) (s : Bk) (x y : ByteArray) (A : Option Addr) (n c : Nat) (ln : Value) (h : StO w B b m u p t e s) (hab : s.above.length = s.medals.length) (hT : Tab w) (htb : 7 < B)
 (hadd : ∀ (U : Option Addr) (uc i j : Nat) (W : World), i < s.above.length → j < s.above.length → Sl W U s.above.length uc (intV s.above) → Tab W → Calls Tryz.prog 162 #[.slice U s.above.length uc, .int .i64 (i : Nat), .int .i64 (j : Nat)] W (AddR s.above i j W))
 (hs : Sl w A n c (strV [x, y])) (hln : ∃ a k d, ln = .slice a k d) :
 Calls Tryz.prog 121 #[.pointer (some ⟨b, 0, none⟩), .agg #[.slice A n c, ln]] w fun r w' => ∃ u', r = .returned (.int .i64 ((rankL s x y).2 : Nat)) ∧ StO w' B b m u' p t e (rankL s x y).1 ∧ Below B w w' := by
 obtain ⟨la, lk, ld, rfl⟩ := hln
 have hBw : B ≤ w.heap.size := by have := h.low; have := h.blk.lt; omega
 have HX := hid ((Below.refl w.heap.size w).alloc (Nat.le_refl _) (.cells #[.slice A n c, .slice la lk ld] 124))
 have HBX := hid (Blk.new w 124 #[.slice A n c, .slice la lk ld])
 have HS := hid (h.below HX.out)
 have HL := hid (hs.below HX.out)
 have HLO := hid h.low
 have HBW := hid hBw
 have HT := hid hT
 have HADD := hid hadd
 have HTB := hid htb
 have HAB := hid hab
 obtain ⟨Q, qc, rfl⟩ := own_form h.med
 clear h hs hBw hab hT hadd htb
 go_enter Tryz.func121, Tryz.ntmps121
 go_wp2_with fail
 generalize w.alloc (.cells #[.slice A n c, .slice la lk ld] 124) = X at *
 have HX := hid (HX.out.mono HBW.out)
 go_cut [5, 6, 7] from 11 to 19 (fun q r z wx => q = .int .i64 (idxZ s.medals x) ∧ r = .int .i64 (idxZ s.medals y) ∧ z = .bool (decide (0 ≤ idxZ s.medals x) && decide (0 ≤ idxZ s.medals y)) ∧ Hid (StO wx B b (.slice Q s.medals.length qc) u p t e s) ∧ Hid (Below B w wx))
 case first =>
  refine wp_region_held_drew (S := (fun w' => w'.cell? ⟨w.heap.size, 0, none⟩ = some (.slice A n c) ∧ w'.cell? ⟨w.heap.size, 1, none⟩ = some (.slice la lk ld) ∧ w'.cell? ⟨b, 0, none⟩ = some (.slice Q s.medals.length qc))) (by kernel_rfl) (by (try dsimp only); (exact ⟨HBX.out.cell 0, HBX.out.cell 1, HS.out.blk.cell 0⟩)) (fun hHeld => ?_)
  have HS := hid (HS.out.below (Below.refl _ X).drew); have HBX := hid HBX.out.drew; have HX := hid HX.out.drew
  have HL := hid (HL.out.below (Below.refl _ X).drew)
  generalize X.drew = X1 at *
  obtain ⟨X, rfl⟩ : ∃ Y, Y = X1 := ⟨X1, rfl⟩
  refine tk ?_ 0 (some 11) rfl rfl ?_ ?_; rotate_left; · (intro w hSw; (try dsimp only at hSw); go_simp <;> with_reducible rfl)
  try simp only [Act.put,qA,qB,qC]
  refine tk ?_ 1 (some 12) rfl rfl ?_ ?_; rotate_left; · (intro w hSw; (try dsimp only at hSw); go_simp <;> with_reducible rfl)
  try simp only [Act.put,qA,qB,qC]
  refine tk ?_ 2 (some 13) rfl rfl ?_ ?_; rotate_left; · (intro w hSw; (try dsimp only at hSw); go_simp <;> with_reducible rfl)
  try simp only [Act.put,qA,qB,qC]
  refine tk ?_ 3 (some 14) rfl rfl ?_ ?_; rotate_left; · (intro w hSw; (try dsimp only at hSw); go_simp <;> with_reducible rfl)
  try simp only [Act.put,qA,qB,qC]
  refine tk ?_ 4 (some 15) rfl rfl ?_ ?_; rotate_left; · (intro w hSw; (try dsimp only at hSw); go_simp <;> with_reducible rfl)
  try simp only [Act.put,qA,qB,qC]
  refine st 5 rfl fun K hK => ?_
  go_simp
  refine (pairF X s.medals x y A n c (.slice la lk ld) Q qc (Sl.of_own HS.out.med) HL.out ⟨_, _, _, rfl⟩).mono ?_; rintro e' X1 ⟨rfl, bb⟩
  have HS := hid (HS.out.below bb); have HBX := hid (HBX.out.keep bb)
  have HX := hid (below_call HX.out bb (Nat.le_trans HBW.out HX.out.size))
  clear bb hHeld
  obtain ⟨X, rfl⟩ : ∃ Y, Y = X1 := ⟨X1, rfl⟩
  refine hK.out _ _ ?_ (fun hHeld => ?_); · ((try dsimp only); (exact ⟨HBX.out.cell 0, HBX.out.cell 1, HS.out.blk.cell 0⟩))
  clear hK K
  try simp only [Act.put,qA,qB,qC]
  refine tk ?_ 6 (some 10) rfl rfl ?_ ?_; rotate_left; · (intro w hSw; (try dsimp only at hSw); go_simp <;> with_reducible rfl)
  try simp only [Act.put,qA,qB,qC]
  refine tk ?_ 7 (some 17) rfl rfl ?_ ?_; rotate_left; · (intro w hSw; (try dsimp only at hSw); go_simp <;> with_reducible rfl)
  try simp only [Act.put,qA,qB,qC]
  refine tk ?_ 8 (some 18) rfl rfl ?_ ?_; rotate_left; · (intro w hSw; (try dsimp only at hSw); go_simp <;> with_reducible rfl)
  try simp only [Act.put,qA,qB,qC]
  refine tk ?_ 9 (some 19) rfl rfl ?_ ?_; rotate_left; · (intro w hSw; (try dsimp only at hSw); go_simp <;> with_reducible rfl)
  try simp only [Act.put,qA,qB,qC]
  refine tk ?_ 10 (some 5) rfl rfl ?_ ?_; rotate_left; · (intro w hSw; (try dsimp only at hSw); go_simp <;> with_reducible rfl)
  try simp only [Act.put,qA,qB,qC]
  refine tk ?_ 11 (some 6) rfl rfl ?_ ?_; rotate_left; · (intro w hSw; (try dsimp only at hSw); go_simp <;> with_reducible rfl)
  try simp only [Act.put,qA,qB,qC]
  refine tk ?_ 12 (some 7) rfl rfl ?_ ?_; rotate_left; · (intro w hSw; (try dsimp only at hSw); go_simp <;> with_reducible rfl)
  try simp only [Act.put,qA,qB,qC]
  refine wpAnyH_done (by kernel_rfl) ?_ _
  go_wp2_with fail
  go_meet
  case rel => exact ⟨rfl, rfl, rfl, HS, HX⟩
 case rest =>
  obtain ⟨rfl, rfl, rfl, HS, HX⟩ := hcut
  have hb1 := idxZ_bd x s.medals
  have hb2 := idxZ_bd y s.medals
  generalize hi : idxZ s.medals x = i at *
  generalize hj : idxZ s.medals y = j at *
  by_cases hok : 0 ≤ i ∧ 0 ≤ j
  · obtain ⟨i, rfl⟩ := Int.eq_ofNat_of_zero_le hok.1
    obtain ⟨j, rfl⟩ := Int.eq_ofNat_of_zero_le hok.2
    have e0 : (decide (0 ≤ (i : Int)) && decide (0 ≤ (j : Int))) = true := by rw [decide_eq_true hok.1, decide_eq_true hok.2]; rfl
    rw [e0]
    obtain ⟨U, uc, rfl⟩ := own_form HS.out.abv
    have HAC := hid (HADD.out U uc j i wc (by have := HAB.out; omega) (by have := HAB.out; omega) (Sl.of_own HS.out.abv) (HT.out.low HX.out HTB.out))
    have z1 := HS.out.blk.cell 1
    simp only [stV, List.getElem?_toArray, List.getElem?_cons_zero, List.getElem?_cons_succ] at z1
    by_cases hz : (addZ s.above j i).2 = 0
    · have HM := hid (show rankL s x y = ({ s with above := (addZ s.above j i).1 }, 0) by unfold rankL; rw [hi, hj, if_pos hok, Int.toNat_natCast, Int.toNat_natCast, if_pos hz])
      have HZ := hid hz
      clear hi hj hb1 hb2 hok e0 hz
      go_wp2_with fail
      refine (HAC.out).mono ?_; rintro r w5 ⟨⟨_, A', c', rfl, ho⟩ | ⟨hne, _⟩, bb⟩
      · have HP := hid (HS.out.putAbv (l := (addZ s.above j i).1) (v' := .slice A' s.above.length c') (grown_of_below bb _) (by rw [addZ_len]; exact own_more ho (Nat.le_trans HBW.out HX.out.size)) (.inr fun g hg => (ho.lt g hg).1))
        have HX := hid (below_call HX.out bb (Nat.le_trans HBW.out HX.out.size))
        clear bb ho z1 HAC
        have z1 := HP.out.1.cell 1
        have f1 := HP.out.1.free 1
        simp only [stV, List.getElem?_toArray, List.getElem?_cons_zero, List.getElem?_cons_succ] at z1
        go_wp2
        go_ret
        rw [HM.out]
        first | exact ⟨rfl, ⟨_, HP.out.2⟩, HX.out.setCell (p := ⟨b, 1, none⟩) HLO.out _⟩ | exact ⟨_, rfl, HP.out.2, HX.out.setCell (p := ⟨b, 1, none⟩) HLO.out _⟩
      · exact absurd HZ.out hne
    · have HM := hid (show rankL s x y = (s, 5) by unfold rankL; rw [hi, hj, if_pos hok, Int.toNat_natCast, Int.toNat_natCast, if_neg hz])
      have HZ := hid hz
      clear hi hj hb1 hb2 hok e0 hz
      go_wp2_with fail
      refine (HAC.out).mono ?_; rintro r w5 ⟨⟨hne, _⟩ | ⟨_, rfl⟩, bb⟩
      · exact absurd hne HZ.out
      · have HS := hid (HS.out.below bb)
        have HX := hid (below_call HX.out bb (Nat.le_trans HBW.out HX.out.size))
        clear bb z1 HAC
        go_wp2
        go_ret
        rw [HM.out]
        first | exact ⟨rfl, ⟨_, HS.out⟩, HX.out⟩ | exact ⟨_, rfl, HS.out, HX.out⟩
  · have HM := hid (show rankL s x y = (s, 4) by unfold rankL; rw [if_neg (by rw [hi, hj]; exact hok)])
    have e0 : (decide (0 ≤ i) && decide (0 ≤ j)) = false := by
     rw [Bool.and_eq_false_iff, decide_eq_false_iff_not, decide_eq_false_iff_not]
     omega
    rw [e0]
    clear hi hj hb1 hb2 hok e0
    go_wp2
    go_ret
    rw [HM.out]
    first | exact ⟨rfl, ⟨_, HS.out⟩, HX.out⟩ | exact ⟨_, rfl, HS.out, HX.out⟩
theorem chgRank (s : Bk) (hab : s.above.length = s.medals.length) (x y : ByteArray)
 (hadd : ∀ (U : Option Addr) (uc i j : Nat) (W : World), i < s.above.length → j < s.above.length → Sl W U s.above.length uc (intV s.above) → Tab W → Calls Tryz.prog 162 #[.slice U s.above.length uc, .int .i64 (i : Nat), .int .i64 (j : Nat)] W (AddR s.above i j W)) :
 ChgC 121 s [x, y] [] (rankL s x y) := by
 intro w B b m u p t e A c D d h hA _ _ _ _ hT htb
 refine (rankAny w B b m u p t e s x y A 2 c (.slice D 0 d) h hab hT htb hadd hA ⟨_, _, _, rfl⟩).mono ?_
 rintro r w' ⟨u', h1, h2, h3⟩
 exact ⟨m, u', p, t, e, h1, fun _ => h2, h3⟩
end
/- state.do at any text: what it does to a mint's books, over a contract of order.Add. Conditions: the text is short of the shelf's bound; the library's variables stand. -/
section
open Go.RowKit Go.Maps
/-- A line's names and numbers, if the text is one. -/
def lineL (r0 r1 : Nat) (x : ByteArray) : Option (List ByteArray × List Int) := if ((readP r0 r1 (parts x).tail).isSome && isLn x) = true then readP r0 r1 (parts x).tail else none
/-- A change of a mint's books by a line; and the answer's number. -/
def doL (s : Bk) (x : ByteArray) : Bk × Nat :=
 if (wordOf x).data.toList = [98, 101, 116] then (match lineL 0 2 x with | some (_, [v, k]) => betL s v k | _ => (s, 3)) else
 if (wordOf x).data.toList = [112, 97, 110] then (match lineL 0 4 x with | some (_, [v, k, z, u]) => panL s v k z u | _ => (s, 3)) else
 if (wordOf x).data.toList = [98, 97, 116, 99, 104] then (match lineL 0 4 x with | some (_, [v, k, z, u]) => layL s v k z u | _ => (s, 3)) else
 if (wordOf x).data.toList = [98, 101, 97, 116] then (match lineL 2 0 x with | some ([v, k], _) => beatL s v k | _ => (s, 3)) else
 if (wordOf x).data.toList = [112, 108, 97, 121, 101, 114] then (match lineL 1 0 x with | some ([v], _) => playerL s v | _ => (s, 3)) else
 if (wordOf x).data.toList = [97, 98, 111, 118, 101] then (match lineL 2 0 x with | some ([v, k], _) => rankL s v k | _ => (s, 3)) else
 if (wordOf x).data.toList = [109, 101, 100, 97, 108] then (match lineL 1 0 x with | some ([v], _) => medalL s v | _ => (s, 3)) else
 (s, 3)
theorem lk_ne {k k' : List UInt8} {v : Value} {l : List (List UInt8 × Value)} (h : ¬ k = k') : List.lookup k ((k', v) :: l) = List.lookup k l := by
 have : (k == k') = false := by rw [beq_eq_false_iff_ne]; exact h
 simp [List.lookup, this]
theorem do_word (x : ByteArray) : asS changesL (.string (wordOf x)) = List.lookup (wordOf x).data.toList changesL := rfl
/-- What order.Add is asked to do. -/
def AddC (l : List Int) : Prop := ∀ (U : Option Addr) (uc i j : Nat) (W : World), i < l.length → j < l.length → Sl W U l.length uc (intV l) → Tab W → Calls Tryz.prog 162 #[.slice U l.length uc, .int .i64 (i : Nat), .int .i64 (j : Nat)] W (AddR l i j W)
theorem doAny (G : Nat → Prop) (sb : Nat) (s : Bk) (x : ByteArray) (hs : x.size ≤ 100000000) (w : World) (hm : EnvN w) (hT : Tab w) (hst : StR w G sb s) (hj : BkJ s) (hadd : AddC s.above) :
 Calls Tryz.prog 53 #[.pointer (some ⟨sb, 0, none⟩), .string x] w fun r w' => DoR w sb (doL s x) r w' := by
 unfold doL
 by_cases e0 : (wordOf x).data.toList = [98, 101, 116]
 · rw [if_pos e0]
   have hf : asS changesL (.string (wordOf x)) = some (.agg #[.int .i64 ((0 : Nat) : Int), .int .i64 ((2 : Nat) : Int), .func (.func 126) #[] #[], .nilFunc]) := by rw [do_word x, e0]; rfl
   have he : ∀ args W, (callFunc 126 args).run Tryz.prog W = .ok (.enter 126 args) W := fun args W => enters Tryz.func126 (by kernel_rfl) rfl args W
   unfold lineL
   cases hq : ((readP 0 2 (parts x).tail).isSome && isLn x) with
   | false => exact doNot 0 2 _ (by decide) sb s x hs w hm hf hq
   | true =>
    rw [if_pos rfl]
    rw [Bool.and_eq_true] at hq
    obtain ⟨⟨nm, nu⟩, hp⟩ := Option.isSome_iff_exists.1 hq.1
    rw [hp]
    obtain ⟨h1, h2, h3⟩ := readP_shape hp
    obtain ⟨v, k, rfl⟩ := two_of h2
    obtain rfl := List.eq_nil_of_length_eq_zero h1
    exact doYes 0 2 _ (by decide) G sb s x _ _ _ hs w hm hT hst hj.short hf he hp hq.2 (chgBet s hj.bet v k h3)
 rw [if_neg e0]
 by_cases e1 : (wordOf x).data.toList = [112, 97, 110]
 · rw [if_pos e1]
   have hf : asS changesL (.string (wordOf x)) = some (.agg #[.int .i64 ((0 : Nat) : Int), .int .i64 ((4 : Nat) : Int), .func (.func 125) #[] #[], .nilFunc]) := by rw [do_word x, e1]; rfl
   have he : ∀ args W, (callFunc 125 args).run Tryz.prog W = .ok (.enter 125 args) W := fun args W => enters Tryz.func125 (by kernel_rfl) rfl args W
   unfold lineL
   cases hq : ((readP 0 4 (parts x).tail).isSome && isLn x) with
   | false => exact doNot 0 4 _ (by decide) sb s x hs w hm hf hq
   | true =>
    rw [if_pos rfl]
    rw [Bool.and_eq_true] at hq
    obtain ⟨⟨nm, nu⟩, hp⟩ := Option.isSome_iff_exists.1 hq.1
    rw [hp]
    obtain ⟨h1, h2, h3⟩ := readP_shape hp
    obtain ⟨v, k, z, u, rfl⟩ := four_of h2
    obtain rfl := List.eq_nil_of_length_eq_zero h1
    exact doYes 0 4 _ (by decide) G sb s x _ _ _ hs w hm hT hst hj.short hf he hp hq.2 (chgPan s hj.kn v k z u h3)
 rw [if_neg e1]
 by_cases e2 : (wordOf x).data.toList = [98, 97, 116, 99, 104]
 · rw [if_pos e2]
   have hf : asS changesL (.string (wordOf x)) = some (.agg #[.int .i64 ((0 : Nat) : Int), .int .i64 ((4 : Nat) : Int), .func (.func 124) #[] #[], .nilFunc]) := by rw [do_word x, e2]; rfl
   have he : ∀ args W, (callFunc 124 args).run Tryz.prog W = .ok (.enter 124 args) W := fun args W => enters Tryz.func124 (by kernel_rfl) rfl args W
   unfold lineL
   cases hq : ((readP 0 4 (parts x).tail).isSome && isLn x) with
   | false => exact doNot 0 4 _ (by decide) sb s x hs w hm hf hq
   | true =>
    rw [if_pos rfl]
    rw [Bool.and_eq_true] at hq
    obtain ⟨⟨nm, nu⟩, hp⟩ := Option.isSome_iff_exists.1 hq.1
    rw [hp]
    obtain ⟨h1, h2, h3⟩ := readP_shape hp
    obtain ⟨v, k, z, u, rfl⟩ := four_of h2
    obtain rfl := List.eq_nil_of_length_eq_zero h1
    exact doYes 0 4 _ (by decide) G sb s x _ _ _ hs w hm hT hst hj.short hf he hp hq.2 (chgLay s v k z u h3)
 rw [if_neg e2]
 by_cases e3 : (wordOf x).data.toList = [98, 101, 97, 116]
 · rw [if_pos e3]
   have hf : asS changesL (.string (wordOf x)) = some (.agg #[.int .i64 ((2 : Nat) : Int), .int .i64 ((0 : Nat) : Int), .func (.func 123) #[] #[], .nilFunc]) := by rw [do_word x, e3]; rfl
   have he : ∀ args W, (callFunc 123 args).run Tryz.prog W = .ok (.enter 123 args) W := fun args W => enters Tryz.func123 (by kernel_rfl) rfl args W
   unfold lineL
   cases hq : ((readP 2 0 (parts x).tail).isSome && isLn x) with
   | false => exact doNot 2 0 _ (by decide) sb s x hs w hm hf hq
   | true =>
    rw [if_pos rfl]
    rw [Bool.and_eq_true] at hq
    obtain ⟨⟨nm, nu⟩, hp⟩ := Option.isSome_iff_exists.1 hq.1
    rw [hp]
    obtain ⟨h1, h2, h3⟩ := readP_shape hp
    obtain ⟨v, k, rfl⟩ := two_of h1
    obtain rfl := List.eq_nil_of_length_eq_zero h2
    exact doYes 2 0 _ (by decide) G sb s x _ _ _ hs w hm hT hst hj.short hf he hp hq.2 (chgBeat s hj.short hj.bea v k)
 rw [if_neg e3]
 by_cases e4 : (wordOf x).data.toList = [112, 108, 97, 121, 101, 114]
 · rw [if_pos e4]
   have hf : asS changesL (.string (wordOf x)) = some (.agg #[.int .i64 ((1 : Nat) : Int), .int .i64 ((0 : Nat) : Int), .func (.func 122) #[] #[], .nilFunc]) := by rw [do_word x, e4]; rfl
   have he : ∀ args W, (callFunc 122 args).run Tryz.prog W = .ok (.enter 122 args) W := fun args W => enters Tryz.func122 (by kernel_rfl) rfl args W
   unfold lineL
   cases hq : ((readP 1 0 (parts x).tail).isSome && isLn x) with
   | false => exact doNot 1 0 _ (by decide) sb s x hs w hm hf hq
   | true =>
    rw [if_pos rfl]
    rw [Bool.and_eq_true] at hq
    obtain ⟨⟨nm, nu⟩, hp⟩ := Option.isSome_iff_exists.1 hq.1
    rw [hp]
    obtain ⟨h1, h2, h3⟩ := readP_shape hp
    obtain ⟨v, rfl⟩ := one_of h1
    obtain rfl := List.eq_nil_of_length_eq_zero h2
    exact doYes 1 0 _ (by decide) G sb s x _ _ _ hs w hm hT hst hj.short hf he hp hq.2 (chgPlayer s hj.short v)
 rw [if_neg e4]
 by_cases e5 : (wordOf x).data.toList = [97, 98, 111, 118, 101]
 · rw [if_pos e5]
   have hf : asS changesL (.string (wordOf x)) = some (.agg #[.int .i64 ((2 : Nat) : Int), .int .i64 ((0 : Nat) : Int), .func (.func 121) #[] #[], .nilFunc]) := by rw [do_word x, e5]; rfl
   have he : ∀ args W, (callFunc 121 args).run Tryz.prog W = .ok (.enter 121 args) W := fun args W => enters Tryz.func121 (by kernel_rfl) rfl args W
   unfold lineL
   cases hq : ((readP 2 0 (parts x).tail).isSome && isLn x) with
   | false => exact doNot 2 0 _ (by decide) sb s x hs w hm hf hq
   | true =>
    rw [if_pos rfl]
    rw [Bool.and_eq_true] at hq
    obtain ⟨⟨nm, nu⟩, hp⟩ := Option.isSome_iff_exists.1 hq.1
    rw [hp]
    obtain ⟨h1, h2, h3⟩ := readP_shape hp
    obtain ⟨v, k, rfl⟩ := two_of h1
    obtain rfl := List.eq_nil_of_length_eq_zero h2
    exact doYes 2 0 _ (by decide) G sb s x _ _ _ hs w hm hT hst hj.short hf he hp hq.2 (chgRank s hj.abv v k hadd)
 rw [if_neg e5]
 by_cases e6 : (wordOf x).data.toList = [109, 101, 100, 97, 108]
 · rw [if_pos e6]
   have hf : asS changesL (.string (wordOf x)) = some (.agg #[.int .i64 ((1 : Nat) : Int), .int .i64 ((0 : Nat) : Int), .func (.func 120) #[] #[], .nilFunc]) := by rw [do_word x, e6]; rfl
   have he : ∀ args W, (callFunc 120 args).run Tryz.prog W = .ok (.enter 120 args) W := fun args W => enters Tryz.func120 (by kernel_rfl) rfl args W
   unfold lineL
   cases hq : ((readP 1 0 (parts x).tail).isSome && isLn x) with
   | false => exact doNot 1 0 _ (by decide) sb s x hs w hm hf hq
   | true =>
    rw [if_pos rfl]
    rw [Bool.and_eq_true] at hq
    obtain ⟨⟨nm, nu⟩, hp⟩ := Option.isSome_iff_exists.1 hq.1
    rw [hp]
    obtain ⟨h1, h2, h3⟩ := readP_shape hp
    obtain ⟨v, rfl⟩ := one_of h1
    obtain rfl := List.eq_nil_of_length_eq_zero h2
    exact doYes 1 0 _ (by decide) G sb s x _ _ _ hs w hm hT hst hj.short hf he hp hq.2 (chgMedal s hj.short v)
 rw [if_neg e6]
 refine doOut sb s x hs w hm ?_
 rw [do_word x]
 unfold changesL
 rw [lk_ne e0, lk_ne e1, lk_ne e2, lk_ne e3, lk_ne e4, lk_ne e5, lk_ne e6]
 rfl
end
end Go.Proofs.YtnibidmlkbcfkaaGreatDoor
