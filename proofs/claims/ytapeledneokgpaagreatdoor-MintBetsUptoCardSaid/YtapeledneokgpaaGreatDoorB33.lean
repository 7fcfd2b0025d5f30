/- Texts of this proof, one behind the other; each says its condition at its head. -/
import Derived.Test.YtapeledneokgpaaGreatDoorB25
import Derived.Test.YtapeledneokgpaaGreatDoorB26
import Derived.Test.YtapeledneokgpaaGreatDoorB31
import Derived.Test.YtapeledneokgpaaGreatDoorB5
import Derived.Test.YtapeledneokgpaaGreatDoorB3
import Derived.Test.YtapeledneokgpaaGreatDoorB23
import Derived.Test.YtapeledneokgpaaGreatDoorB10
/- Plain law of tournaments: whom each player beats, as sets; what a mint's books keep of it. No condition. -/
namespace Go.Proofs.YtapeledneokgpaaGreatDoor
open Go.RowKit Go.Maps
/-- A tournament of n players: b i j says that i beats j. -/
def TourOk (n : Nat) (b : Nat → Nat → Bool) : Prop := (∀ i, i < n → b i i = false) ∧ ∀ i j, i < n → j < n → i ≠ j → b i j = !b j i
/-- A list that is a tournament. -/
def TourI (l : List Int) : Prop := ∃ b, l = ordL l.length b ∧ TourOk l.length b
theorem TourOk.congr {n : Nat} {a b : Nat → Nat → Bool} (h : TourOk n a) (he : ∀ i j, i < n → j < n → a i j = b i j) : TourOk n b :=
 ⟨fun i hi => by rw [← he i i hi hi]; exact h.1 i hi, fun i j hi hj hij => by rw [← he i j hi hj, ← he j i hj hi]; exact h.2 i j hi hj hij⟩
/-- With a player more, who loses to all. -/
def joinA (n : Nat) (b : Nat → Nat → Bool) (i j : Nat) : Bool := decide (i < n) && (decide (j = n) || b i j && decide (j < n))
theorem joinA_ok {n : Nat} {b : Nat → Nat → Bool} (h : TourOk n b) : TourOk (n + 1) (joinA n b) := by
 refine ⟨fun i hi => ?_, fun i j hi hj hij => ?_⟩
 · unfold joinA
   by_cases e : i = n
   · simp [e]
   · have hi' : i < n := by omega
     simp [e, hi', h.1 i hi']
 · unfold joinA
   by_cases ei : i = n
   · subst ei
     have hj' : j < i := by omega
     simp [hj']
   · by_cases ej : j = n
     · subst ej
       have hi' : i < j := by omega
       simp [hi']
     · have hi' : i < n := by omega
       have hj' : j < n := by omega
       simp [hi', hj', ei, ej, h.2 i j hi' hj' hij]
theorem mk_up {n : Nat} (hn : n < 60) (f : Nat → Bool) : bits .or .i64 (mk n f) (p2 n) = mk (n + 1) (fun j => decide (j = n) || f j && decide (j < n)) := by
 have h1 := mk_push (n := n + 1) (k := n) (by omega) (by omega) (fun j => decide (j = n) || f j && decide (j < n)) (b := 1) (by simp)
 rw [Int.one_mul] at h1
 rw [← h1]
 congr 1
 apply mk_congr
 intro i hi
 have hne : ¬ i = n := by omega
 simp [hi, hne]
theorem ordL_join {n : Nat} (hn : n < 60) (b : Nat → Nat → Bool) : (ordL n b).map (fun v => bits .or .i64 v (p2 n)) ++ [0] = ordL (n + 1) (joinA n b) := by
 unfold ordL
 rw [List.range_succ, List.map_append, List.map_map]
 congr 1
 · refine List.map_congr_left fun i hi => ?_
   have hi := List.mem_range.1 hi
   simp only [Function.comp_apply]
   rw [mk_up hn]
   apply mk_congr
   intro j _
   unfold joinA
   simp [hi]
 · simp only [List.map_cons, List.map_nil]
   rw [show joinA n b n = fun _ => false by funext j; unfold joinA; simp, mk_none]
/-- With a result: x beats y. -/
def beatA (b : Nat → Nat → Bool) (x y i j : Nat) : Bool := if i = x ∧ j = y then true else if i = y ∧ j = x then false else b i j
theorem beatA_ok {n : Nat} {b : Nat → Nat → Bool} (h : TourOk n b) {x y : Nat} (hxy : x ≠ y) : TourOk n (beatA b x y) := by
 refine ⟨fun i hi => ?_, fun i j hi hj hij => ?_⟩
 · unfold beatA
   rw [if_neg (by omega), if_neg (by omega)]
   exact h.1 i hi
 · unfold beatA
   by_cases e1 : i = x ∧ j = y
   · rw [if_pos e1, if_neg (by omega), if_pos (by omega)]
     rfl
   · by_cases e2 : i = y ∧ j = x
     · rw [if_neg e1, if_pos e2, if_pos (by omega)]
       rfl
     · rw [if_neg e1, if_neg e2, if_neg (by omega), if_neg (by omega)]
       exact h.2 i j hi hj hij
theorem ordL_get {n : Nat} (b : Nat → Nat → Bool) {i : Nat} (hi : i < n) : (ordL n b).getD i 0 = mk n (b i) := by
 unfold ordL
 rw [List.getD_eq_getElem?_getD, List.getElem?_map, List.getElem?_range hi]
 rfl
theorem ordL_at {n : Nat} (b : Nat → Nat → Bool) {i : Nat} (hi : i < n) : (ordL n b)[i]? = some (mk n (b i)) := by
 unfold ordL
 rw [List.getElem?_map, List.getElem?_range hi]
 rfl
theorem ordL_put {n : Nat} (b : Nat → Nat → Bool) {i : Nat} (f : Nat → Bool) : (ordL n b).set i (mk n f) = ordL n (fun k => if k = i then f else b k) := by
 apply List.ext_getElem?
 intro k
 rw [List.getElem?_set]
 by_cases hk : k < n
 · rw [ordL_at _ hk, ordL_at _ hk, ordL_len]
   by_cases e : i = k
   · subst e
     simp [hk]
   · have e2 : ¬ k = i := fun h => e h.symm
     simp [e, e2]
 · have hl : (ordL n (fun k => if k = i then f else b k))[k]? = none := List.getElem?_eq_none (by rw [ordL_len]; omega)
   have hl2 : (ordL n b)[k]? = none := List.getElem?_eq_none (by rw [ordL_len]; omega)
   rw [hl, hl2, ordL_len]
   split <;> simp_all
theorem mk_set {n : Nat} (hn : n ≤ 60) {j : Nat} (hj : j < n) (f : Nat → Bool) : bits .or .i64 (mk n f) (p2 j) = mk n (fun k => if k = j then true else f k) := by
 rw [← mk_single hj, mk_or hn]
 apply mk_congr
 intro k _
 by_cases e : k = j <;> simp [e]
theorem mk_del {n : Nat} (hn : n ≤ 60) {j : Nat} (hj : j < n) (f : Nat → Bool) : bits .andNot .i64 (mk n f) (p2 j) = mk n (fun k => if k = j then false else f k) := by
 rw [← mk_single hj, mk_andNot hn]
 apply mk_congr
 intro k _
 by_cases e : k = j <;> simp [e]
theorem ordL_beat {n : Nat} (hn : n ≤ 60) (b : Nat → Nat → Bool) {x y : Nat} (hx : x < n) (hy : y < n) (hxy : x ≠ y) :
 putI (putI (ordL n b) x fun v => bits .or .i64 v (p2 y)) y (fun v => bits .andNot .i64 v (p2 x)) = ordL n (beatA b x y) := by
 unfold putI
 dsimp only
 rw [ordL_get b hx, mk_set hn hy, ordL_put, ordL_get _ hy, mk_del hn hx, ordL_put]
 apply ordL_congr
 intro i j _ _
 unfold beatA
 by_cases e1 : i = y
 · subst e1
   have e2 : ¬ i = x := fun h => hxy h.symm
   simp [e2]
 · simp only [if_neg e1]
   by_cases e2 : i = x
   · subst e2
     by_cases e3 : j = y
     · simp [e3]
     · simp [e3, e1]
   · simp [e1, e2]
theorem TourI.nil : TourI [] := ⟨fun _ _ => false, rfl, ⟨fun i hi => by simp at hi, fun i j hi => by simp at hi⟩⟩
theorem TourI.of {n : Nat} {b : Nat → Nat → Bool} (h : TourOk n b) : TourI (ordL n b) := ⟨b, by rw [ordL_len], by rw [ordL_len]; exact h⟩
theorem TourI.push {l : List Int} (h : TourI l) (hl : l.length < 60) : TourI (l.map (fun v => bits .or .i64 v (p2 l.length)) ++ [0]) := by
 obtain ⟨b, h1, h2⟩ := h
 generalize hn : l.length = n at *
 subst h1
 rw [ordL_join hl]
 exact TourI.of (joinA_ok h2)
theorem TourI.beat {l : List Int} (h : TourI l) (hl : l.length ≤ 60) {x y : Nat} (hx : x < l.length) (hy : y < l.length) (hxy : x ≠ y) : TourI (putI (putI l x fun v => bits .or .i64 v (p2 y)) y (fun v => bits .andNot .i64 v (p2 x))) := by
 obtain ⟨b, h1, h2⟩ := h
 generalize hn : l.length = n at *
 subst h1
 rw [ordL_beat hl b hx hy hxy]
 exact TourI.of (beatA_ok h2 hxy)
/-- What a mint's books keep of the players. -/
theorem TourI.player {s : Bk} (h : TourI s.beats) (hs : BkI s) (x : ByteArray) : TourI (playerL s x).1.beats := by
 unfold playerL
 split
 · have := hs.1.bea
   have := hs.1.pla
   exact h.push (by omega)
 · exact h
theorem TourI.beats {s : Bk} (h : TourI s.beats) (hs : BkI s) (x y : ByteArray) : TourI (beatL s x y).1.beats := by
 have h1 := hs.1.bea
 have h2 := hs.1.pla
 have b1 := idxZ_bd x s.players
 have b2 := idxZ_bd y s.players
 unfold beatL
 split
 · split
   · exact h
   · rename_i hp hq
     simp only [not_or] at hq
     obtain ⟨i, hi⟩ := Int.eq_ofNat_of_zero_le hp.1
     obtain ⟨j, hj⟩ := Int.eq_ofNat_of_zero_le hp.2
     have h3 := h.beat (x := i) (y := j) (by omega) (by omega) (by omega) (by omega)
     rw [hi, hj]
     exact h3
 · exact h
theorem beats_medal (s : Bk) (x : ByteArray) : (medalL s x).1.beats = s.beats := by
 unfold medalL; split <;> rfl
theorem beats_rank (s : Bk) (x y : ByteArray) : (rankL s x y).1.beats = s.beats := by
 unfold rankL; split
 · split <;> rfl
 · rfl
theorem beats_lay (s : Bk) (x y z u : Int) : (layL s x y z u).1.beats = s.beats := by
 unfold layL; split <;> rfl
theorem beats_pan (s : Bk) (x y z u : Int) : (panL s x y z u).1.beats = s.beats := by
 unfold panL; split <;> rfl
theorem beats_bet (s : Bk) (v k : Int) : (betL s v k).1.beats = s.beats := by
 unfold betL
 split
 · rfl
 · split
   · rfl
   · split <;> rfl
theorem TourI.doL {s : Bk} (h : TourI s.beats) (hs : BkI s) (x : ByteArray) : TourI (doL s x).1.beats := by
 unfold Go.Proofs.YtapeledneokgpaaGreatDoor.doL
 split
 · split
   · rw [beats_bet]; exact h
   · exact h
 · split
   · split
     · rw [beats_pan]; exact h
     · exact h
   · split
     · split
       · rw [beats_lay]; exact h
       · exact h
     · split
       · split
         · exact h.beats hs _ _
         · exact h
       · split
         · split
           · exact h.player hs _
           · exact h
         · split
           · split
             · rw [beats_rank]; exact h
             · exact h
           · split
             · split
               · rw [beats_medal]; exact h
               · exact h
             · exact h
end Go.Proofs.YtapeledneokgpaaGreatDoor
/- What a line that was done is: its word, and what stands behind it. No condition. -/
namespace Go.Proofs.YtapeledneokgpaaGreatDoor
open Go.RowKit Go.Maps
/-- A line's first part is its word. -/
theorem parts_head (x : ByteArray) : parts x = wordOf x :: (parts x).tail := by
 have key : ∃ t, parts x = wordOf x :: t := by
  unfold parts
  rcases Lib.indexB_cases x ⟨#[32]⟩ with hix | ⟨i, hix, hroom⟩
  · rw [Lib.splitB_miss _ _ _ _ hix]
    refine ⟨[], ?_⟩
    congr 1
    unfold wordOf Lib.cut
    have h1 : Lib.index x.data.toList [32] = -1 := hix
    rw [h1, if_neg (by omega)]
  · have hc : ∃ k, Lib.countB x ⟨#[32]⟩ = k + 1 := by
     have h1 : Lib.index x.data.toList (ByteArray.mk #[32]).data.toList = i := hix
     unfold Lib.countB Lib.count Lib.countFrom
     rw [h1, if_neg (by rw [beq_iff_eq]; omega)]
     exact ⟨_, Nat.add_comm _ _⟩
    obtain ⟨k, hk⟩ := hc
    rw [hk, Lib.splitB_hit _ _ _ _ i hix]
    refine ⟨Lib.splitB ⟨#[32]⟩ 0 k (x.extract (i + (ByteArray.mk #[32]).size) x.size), ?_⟩
    congr 1
    apply ByteArray.ext
    apply Array.toList_inj.1
    rw [Nat.add_zero, Lib.extract_from_zero]
    unfold wordOf Lib.cut
    have h1 : Lib.index x.data.toList [32] = i := hix
    rw [h1, if_pos (by omega), Int.toNat_natCast]
 obtain ⟨t, h⟩ := key
 rw [h, List.tail_cons]
theorem lineL_tail {r0 r1 : Nat} {x : ByteArray} {nm : List ByteArray} {nu : List Int} (h : lineL r0 r1 x = some (nm, nu)) : nm = (parts x).tail.take r0 ∧ nu = ((parts x).tail.drop r0).map numV ∧ (parts x).tail.length = r0 + r1 ∧ (∀ v ∈ nm, isNm v = true) ∧ ∀ v ∈ (parts x).tail.drop r0, (numOf v).isSome = true := by
 unfold lineL at h
 split at h
 · unfold readP at h
   split at h
   · rename_i hc
     cases h
     exact ⟨rfl, rfl, hc.1, fun v hv => List.all_eq_true.1 hc.2.1 v hv, fun v hv => List.all_eq_true.1 hc.2.2 v hv⟩
   · cases h
 · cases h
/-- What a line that was done is. -/
inductive KindL (s : Bk) (x : ByteArray) : Bk → Prop
 | medal (v : ByteArray) : (wordOf x).data.toList = [109, 101, 100, 97, 108] → lineL 1 0 x = some ([v], []) → (medalL s v).2 = 0 → KindL s x (medalL s v).1
 | above (v k : ByteArray) : (wordOf x).data.toList = [97, 98, 111, 118, 101] → lineL 2 0 x = some ([v, k], []) → (rankL s v k).2 = 0 → KindL s x (rankL s v k).1
 | player (v : ByteArray) : (wordOf x).data.toList = [112, 108, 97, 121, 101, 114] → lineL 1 0 x = some ([v], []) → (playerL s v).2 = 0 → KindL s x (playerL s v).1
 | beat (v k : ByteArray) : (wordOf x).data.toList = [98, 101, 97, 116] → lineL 2 0 x = some ([v, k], []) → (beatL s v k).2 = 0 → KindL s x (beatL s v k).1
 | batch (a b c d : Int) : (wordOf x).data.toList = [98, 97, 116, 99, 104] → lineL 0 4 x = some ([], [a, b, c, d]) → (layL s a b c d).2 = 0 → KindL s x (layL s a b c d).1
 | pan (a b c d : Int) : (wordOf x).data.toList = [112, 97, 110] → lineL 0 4 x = some ([], [a, b, c, d]) → (panL s a b c d).2 = 0 → KindL s x (panL s a b c d).1
 | bet (v k : Int) : (wordOf x).data.toList = [98, 101, 116] → lineL 0 2 x = some ([], [v, k]) → (betL s v k).2 = 0 → KindL s x (betL s v k).1
theorem lineL_len {r0 r1 : Nat} {x : ByteArray} {nm : List ByteArray} {nu : List Int} (h : lineL r0 r1 x = some (nm, nu)) : nm.length = r0 ∧ nu.length = r1 := by
 obtain ⟨h1, h2, h3, _⟩ := lineL_tail h
 rw [h1, h2, List.length_take, List.length_map, List.length_drop]
 omega
theorem kindL {s : Bk} {x : ByteArray} (h : (doL s x).2 = 0) : KindL s x (doL s x).1 := by
 unfold doL at h ⊢
 split
 · rename_i e0
   rw [if_pos e0] at h
   split
   · rename_i nm v k hl
     obtain rfl := List.eq_nil_of_length_eq_zero (lineL_len hl).1
     rw [hl] at h
     exact .bet _ _ e0 hl h
   · rename_i hl
     split at h
     · rename_i a1 a2 a3 hx
       exact absurd hx (hl _ _ _)
     · cases h
 rename_i e0
 rw [if_neg e0] at h
 split
 · rename_i e1
   rw [if_pos e1] at h
   split
   · rename_i nm v k z u hl
     obtain rfl := List.eq_nil_of_length_eq_zero (lineL_len hl).1
     rw [hl] at h
     exact .pan _ _ _ _ e1 hl h
   · rename_i hl
     split at h
     · rename_i a1 a2 a3 a4 a5 hx
       exact absurd hx (hl _ _ _ _ _)
     · cases h
 rename_i e1
 rw [if_neg e1] at h
 split
 · rename_i e2
   rw [if_pos e2] at h
   split
   · rename_i nm v k z u hl
     obtain rfl := List.eq_nil_of_length_eq_zero (lineL_len hl).1
     rw [hl] at h
     exact .batch _ _ _ _ e2 hl h
   · rename_i hl
     split at h
     · rename_i a1 a2 a3 a4 a5 hx
       exact absurd hx (hl _ _ _ _ _)
     · cases h
 rename_i e2
 rw [if_neg e2] at h
 split
 · rename_i e3
   rw [if_pos e3] at h
   split
   · rename_i v k nu hl
     obtain rfl := List.eq_nil_of_length_eq_zero (lineL_len hl).2
     rw [hl] at h
     exact .beat _ _ e3 hl h
   · rename_i hl
     split at h
     · rename_i a1 a2 a3 hx
       exact absurd hx (hl _ _ _)
     · cases h
 rename_i e3
 rw [if_neg e3] at h
 split
 · rename_i e4
   rw [if_pos e4] at h
   split
   · rename_i v nu hl
     obtain rfl := List.eq_nil_of_length_eq_zero (lineL_len hl).2
     rw [hl] at h
     exact .player _ e4 hl h
   · rename_i hl
     split at h
     · rename_i a1 a2 hx
       exact absurd hx (hl _ _)
     · cases h
 rename_i e4
 rw [if_neg e4] at h
 split
 · rename_i e5
   rw [if_pos e5] at h
   split
   · rename_i v k nu hl
     obtain rfl := List.eq_nil_of_length_eq_zero (lineL_len hl).2
     rw [hl] at h
     exact .above _ _ e5 hl h
   · rename_i hl
     split at h
     · rename_i a1 a2 a3 hx
       exact absurd hx (hl _ _ _)
     · cases h
 rename_i e5
 rw [if_neg e5] at h
 split
 · rename_i e6
   rw [if_pos e6] at h
   split
   · rename_i v nu hl
     obtain rfl := List.eq_nil_of_length_eq_zero (lineL_len hl).2
     rw [hl] at h
     exact .medal _ e6 hl h
   · rename_i hl
     split at h
     · rename_i a1 a2 hx
       exact absurd hx (hl _ _)
     · cases h
 rename_i e6
 rw [if_neg e6] at h
 cases h
end Go.Proofs.YtapeledneokgpaaGreatDoor
/- What a mint's names keep: names of small letters, each once; and the books along a journal. No condition. -/
namespace Go.Proofs.YtapeledneokgpaaGreatDoor
open Go.RowKit Go.Maps
/-- A mint's names. -/
structure NmI (s : Bk) : Prop where
 pl : ∀ v ∈ s.players, isNm v = true
 pd : s.players.Nodup
 md : ∀ v ∈ s.medals, isNm v = true
 mn : s.medals.Nodup
theorem enter_nm {l : List ByteArray} {x : ByteArray} {k : Nat} (h : ∀ v ∈ l, isNm v = true) (hn : l.Nodup) (hx : isNm x = true) : (∀ v ∈ (enterL l x k).1, isNm v = true) ∧ (enterL l x k).1.Nodup := by
 unfold enterL
 split
 · exact ⟨h, hn⟩
 · rename_i hx2
   split
   · exact ⟨h, hn⟩
   · refine ⟨fun v hv => ?_, ?_⟩
     · rcases List.mem_append.1 hv with e | e
       · exact h v e
       · rw [List.mem_singleton.1 e]; exact hx
     · rw [List.nodup_append]
       refine ⟨hn, by simp, fun a ha b hb e => ?_⟩
       rw [List.mem_singleton] at hb
       subst e hb
       exact hx2 ha
theorem players_other {s s' : Bk} {x : ByteArray} (h : KindL s x s') : (∃ v, isNm v = true ∧ s' = (playerL s v).1) ∨ s'.players = s.players := by
 cases h with
 | medal v h1 h2 h3 => right; unfold medalL; split <;> rfl
 | above v k h1 h2 h3 => right; unfold rankL; split <;> first | (split <;> rfl) | rfl
 | player v h1 h2 h3 => left; exact ⟨v, (lineL_tail h2).2.2.2.1 v (by simp), rfl⟩
 | beat v k h1 h2 h3 => right; unfold beatL; split <;> first | (split <;> rfl) | rfl
 | batch a b c d h1 h2 h3 => right; unfold layL; split <;> rfl
 | pan a b c d h1 h2 h3 => right; unfold panL; split <;> rfl
 | bet v k h1 h2 h3 => right; unfold betL; split <;> first | rfl | (split <;> first | rfl | (split <;> rfl))
theorem medals_other {s s' : Bk} {x : ByteArray} (h : KindL s x s') : (∃ v, isNm v = true ∧ s' = (medalL s v).1) ∨ s'.medals = s.medals := by
 cases h with
 | medal v h1 h2 h3 => left; exact ⟨v, (lineL_tail h2).2.2.2.1 v (by simp), rfl⟩
 | above v k h1 h2 h3 => right; unfold rankL; split <;> first | (split <;> rfl) | rfl
 | player v h1 h2 h3 => right; unfold playerL; split <;> rfl
 | beat v k h1 h2 h3 => right; unfold beatL; split <;> first | (split <;> rfl) | rfl
 | batch a b c d h1 h2 h3 => right; unfold layL; split <;> rfl
 | pan a b c d h1 h2 h3 => right; unfold panL; split <;> rfl
 | bet v k h1 h2 h3 => right; unfold betL; split <;> first | rfl | (split <;> first | rfl | (split <;> rfl))
theorem NmI.kind {s s' : Bk} {x : ByteArray} (h : NmI s) (hk : KindL s x s') : NmI s' := by
 have h1 : (∀ v ∈ s'.players, isNm v = true) ∧ s'.players.Nodup := by
  rcases players_other hk with ⟨v, hv, rfl⟩ | e
  · unfold playerL
    split
    · exact enter_nm h.pl h.pd hv
    · exact ⟨h.pl, h.pd⟩
  · rw [e]; exact ⟨h.pl, h.pd⟩
 have h2 : (∀ v ∈ s'.medals, isNm v = true) ∧ s'.medals.Nodup := by
  rcases medals_other hk with ⟨v, hv, rfl⟩ | e
  · unfold medalL
    split
    · exact enter_nm h.md h.mn hv
    · exact ⟨h.md, h.mn⟩
  · rw [e]; exact ⟨h.md, h.mn⟩
 exact ⟨h1.1, h1.2, h2.1, h2.2⟩
/-- All that a mint's books keep. -/
structure BkT (s : Bk) : Prop where
 bk : BkI s
 tr : TourI s.beats
 nm : NmI s
theorem BkT.begin : BkT bk0 := ⟨BkI.begin, TourI.nil, ⟨by simp [bk0], by simp [bk0], by simp [bk0], by simp [bk0]⟩⟩
theorem BkT.step {s s' : Bk} {x : ByteArray} (h : BkT s) (hs : stepL s x = some s') : BkT s' ∧ KindL s x s' := by
 unfold stepL at hs
 split at hs
 · rename_i h0
   cases hs
   have hk := kindL h0
   exact ⟨⟨h.bk.doL x, h.tr.doL h.bk x, h.nm.kind hk⟩, hk⟩
 · cases hs
/-- The books along a journal. -/
theorem run_at : ∀ (J : List ByteArray) (s0 s : Bk), BkT s0 → runL stepL s0 J = some s → BkT s ∧ ∃ f : Nat → Bk, f 0 = s0 ∧ f J.length = s ∧ ∀ k x, J[k]? = some x → BkT (f k) ∧ KindL (f k) x (f (k + 1))
 | [], s0, s, h0, h => by
  have h : some s0 = some s := h
  cases h
  exact ⟨h0, fun _ => s0, rfl, rfl, fun k x hx => by simp at hx⟩
 | y :: J, s0, s, h0, h => by
  cases hy : stepL s0 y with
  | none => rw [runL, hy] at h; cases h
  | some s1 =>
   rw [runL, hy] at h
   obtain ⟨h1, hk⟩ := h0.step hy
   obtain ⟨h2, f, f0, fl, hf⟩ := run_at J s1 s h1 h
   refine ⟨h2, fun k => match k with | 0 => s0 | k + 1 => f k, rfl, fl, fun k x hx => ?_⟩
   cases k with
   | zero =>
    simp only [List.getElem?_cons_zero, Option.some.injEq] at hx
    subst hx
    exact ⟨h0, by show KindL s0 y (f 0); rw [f0]; exact hk⟩
   | succ k => exact hf k x (by simpa using hx)
end Go.Proofs.YtapeledneokgpaaGreatDoor
/- Texts cut at blanks: what a line of words reads as. No condition. -/
namespace Go.Proofs.YtapeledneokgpaaGreatDoor
open Go.RowKit Go.Maps
/-- A text cut at its blanks. -/
def spl : List UInt8 → List (List UInt8)
 | [] => [[]]
 | c :: r => if c = 32 then [] :: spl r else (match spl r with
  | h :: t => (c :: h) :: t
  | [] => [[c]])
theorem spl_cons (c : UInt8) (r : List UInt8) : spl (c :: r) = if c = 32 then [] :: spl r else (match spl r with
 | h :: t => (c :: h) :: t
 | [] => [[c]]) := rfl
theorem spl_ne : ∀ s, spl s ≠ []
 | [] => by simp [spl]
 | c :: r => by
  unfold spl
  split
  · simp
  · split <;> simp
theorem spl_hd (s : List UInt8) : ∃ h t, spl s = h :: t := by
 cases h : spl s with
 | nil => exact absurd h (spl_ne s)
 | cons a b => exact ⟨a, b, rfl⟩
theorem splitK_spl : ∀ s : List UInt8, Lib.splitK [32] 0 (Lib.count s [32]) s = spl s
 | [] => by
  rw [Lib.count_miss (by simp [Lib.index])]
  rfl
 | c :: r => by
  by_cases hc : c = 32
  · subst hc
    have hix : Lib.index (32 :: r) [32] = ((0 : Nat) : Int) := by rw [Lib.index]; simp [List.isPrefixOf]
    rw [Lib.count_cons_eq, Nat.add_comm, Lib.splitK, hix, if_neg (by simp)]
    simp only [Int.toNat_natCast, Nat.add_zero, List.take_zero, Nat.zero_add, List.length_singleton, List.drop_succ_cons, List.drop_zero]
    rw [splitK_spl r]
    simp [spl]
  · have hp : ([32] : List UInt8).isPrefixOf (c :: r) = false := by simp [List.isPrefixOf, Ne.symm hc]
    have hix : Lib.index (c :: r) [32] = if Lib.index r [32] == -1 then -1 else Lib.index r [32] + 1 := by rw [Lib.index, hp]; simp
    have ih := splitK_spl r
    rw [Lib.count_cons_ne c 32 r hc]
    by_cases hm : Lib.index r [32] = -1
    · rw [Lib.count_miss hm] at ih ⊢
      have e : spl r = [r] := ih.symm
      have e2 : spl (c :: r) = [c :: r] := by unfold spl; rw [if_neg hc, e]
      rw [e2]
      rfl
    · have hge := Lib.index_ge r [32]
      obtain ⟨j, hj⟩ : ∃ j : Nat, Lib.index r [32] = j := ⟨(Lib.index r [32]).toNat, by omega⟩
      have hix2 : Lib.index (c :: r) [32] = ((j + 1 : Nat) : Int) := by rw [hix, if_neg (fun e => hm (beq_iff_eq.1 e)), hj]; omega
      rw [Lib.count_hit (by simp) hj, Nat.add_comm] at ih ⊢
      rw [Lib.splitK, hj, if_neg (by rw [beq_iff_eq]; omega)] at ih
      rw [Lib.splitK, hix2, if_neg (by rw [beq_iff_eq]; omega)]
      simp only [Int.toNat_natCast, Nat.add_zero, List.length_singleton] at ih ⊢
      have e2 : spl (c :: r) = (c :: r.take j) :: Lib.splitK [32] 0 (Lib.count (r.drop (j + 1)) [32]) (r.drop (j + 1)) := by unfold spl; rw [if_neg hc, ← ih]
      rw [e2]
      rfl
theorem parts_spl (x : ByteArray) : (parts x).map (fun v => v.data.toList) = spl x.data.toList := by
 unfold parts
 rw [Lib.splitB_data]
 exact splitK_spl x.data.toList
theorem spl_app : ∀ (u v : List UInt8), spl (u ++ 32 :: v) = spl u ++ spl v
 | [], v => by simp [spl]
 | c :: u, v => by
  rw [List.cons_append]
  obtain ⟨h, t, e⟩ := spl_hd u
  have ih := spl_app u v
  rw [e] at ih
  rw [spl_cons, spl_cons]
  by_cases hc : c = 32
  · rw [if_pos hc, if_pos hc, ih, e]; rfl
  · rw [if_neg hc, if_neg hc, ih, e]; rfl
theorem spl_no : ∀ v : List UInt8, (∀ c ∈ v, c ≠ 32) → spl v = [v]
 | [], _ => rfl
 | c :: v, h => by
  have ih := spl_no v fun x hx => h x (by simp [hx])
  unfold spl
  rw [if_neg (h c (by simp)), ih]
theorem data_inj {a b : List ByteArray} (h : a.map (fun v => v.data.toList) = b.map (fun v => v.data.toList)) : a = b := by
 induction a generalizing b with
 | nil => cases b with
  | nil => rfl
  | cons x b => simp at h
 | cons y a ih =>
  cases b with
  | nil => simp at h
  | cons x b =>
   rw [List.map_cons, List.map_cons] at h
   injection h with h1 h2
   rw [ih h2, ByteArray.ext (Array.toList_inj.1 h1)]
/-- One word more. -/
theorem parts_snoc (v s : ByteArray) (hs : ∀ c ∈ s.data.toList, c ≠ 32) : parts (v ++ (⟨#[32]⟩ ++ s)) = parts v ++ [s] := by
 apply data_inj
 rw [parts_spl, List.map_append, parts_spl]
 have e : (v ++ (⟨#[32]⟩ ++ s)).data.toList = v.data.toList ++ 32 :: s.data.toList := by simp [ByteArray.data_append]
 rw [e, spl_app, spl_no _ hs]
 rfl
end Go.Proofs.YtapeledneokgpaaGreatDoor
/- What a line that was done is: its size, its words. No condition. -/
namespace Go.Proofs.YtapeledneokgpaaGreatDoor
open Go.RowKit Go.Maps
theorem lineL_size {r0 r1 : Nat} {x : ByteArray} {nm : List ByteArray} {nu : List Int} (h : lineL r0 r1 x = some (nm, nu)) : x.size ≤ 60 := by
 unfold lineL at h
 split at h
 · rename_i hc
   rw [Bool.and_eq_true] at hc
   have := hc.2
   unfold isLn at this
   simp only [Bool.and_eq_true, decide_eq_true_eq] at this
   omega
 · cases h
theorem kind_size {s s' : Bk} {x : ByteArray} (h : KindL s x s') : x.size ≤ 60 := by
 cases h with
 | medal v h1 h2 h3 => exact lineL_size h2
 | above v k h1 h2 h3 => exact lineL_size h2
 | player v h1 h2 h3 => exact lineL_size h2
 | beat v k h1 h2 h3 => exact lineL_size h2
 | batch a b c d h1 h2 h3 => exact lineL_size h2
 | pan a b c d h1 h2 h3 => exact lineL_size h2
 | bet v k h1 h2 h3 => exact lineL_size h2
theorem word_is {x : ByteArray} {l : List UInt8} {w : ByteArray} (h : (wordOf x).data.toList = l) (e : w.data.toList = l) : wordOf x = w := ByteArray.ext (Array.toList_inj.1 (h.trans e.symm))
theorem word_no {x : ByteArray} {l : List UInt8} {w : ByteArray} (h : (wordOf x).data.toList = l) (e : w.data.toList ≠ l) : wordOf x ≠ w := fun hw => e (by rw [← hw]; exact h)
/-- A line's words behind the first, where all are numbers. -/
theorem lineL_nums {r1 : Nat} {x : ByteArray} {nm : List ByteArray} {nu : List Int} (h : lineL 0 r1 x = some (nm, nu)) : ∃ t, parts x = wordOf x :: t ∧ t.length = r1 ∧ nu = t.map numV ∧ ∀ v ∈ t, (numOf v).isSome = true := by
 obtain ⟨_, h2, h3, _, h5⟩ := lineL_tail h
 rw [List.drop_zero] at h2 h5
 exact ⟨_, parts_head x, by omega, h2, h5⟩
end Go.Proofs.YtapeledneokgpaaGreatDoor
/- Plain law of what a journal says of the bets, and that they stay sound. No condition. -/
namespace Go.Proofs.YtapeledneokgpaaGreatDoor
open Go.RowKit Go.Maps
def sBet : ByteArray := ⟨#[98, 101, 116]⟩
/-- What a line does to the bets. -/
inductive PrcL (s : Bk) (x : ByteArray) (s' : Bk) : Prop
 | bet (a c : ByteArray) (v k : Nat) : wordOf x = sBet → parts x = [sBet, a, c] → numOf a = some v → numOf c = some k → (betL s v k).2 = 0 → s'.bets = s.bets ++ [((v : Int), (k : Int))] → cornersL (s.bets ++ [((v : Int), (k : Int))]) ≠ [] → PrcL s x s'
 | other : wordOf x ≠ sBet → s'.bets = s.bets → PrcL s x s'
theorem numV_of {x : ByteArray} (h : (numOf x).isSome = true) : ∃ n : Nat, numOf x = some n ∧ numV x = n := by
 cases h2 : numOf x with
 | none => rw [h2] at h; cases h
 | some n => exact ⟨n, rfl, by unfold numV; rw [h2]; rfl⟩
theorem prcL {s s' : Bk} {x : ByteArray} (h : KindL s x s') : PrcL s x s' := by
 cases h with
 | medal v h1 h2 h3 => exact .other (word_no h1 (by decide)) (by unfold medalL; split <;> rfl)
 | above v k h1 h2 h3 => exact .other (word_no h1 (by decide)) (by unfold rankL; split <;> first | (split <;> rfl) | rfl)
 | player v h1 h2 h3 => exact .other (word_no h1 (by decide)) (by unfold playerL; split <;> rfl)
 | beat v k h1 h2 h3 => exact .other (word_no h1 (by decide)) (by unfold beatL; split <;> first | (split <;> rfl) | rfl)
 | batch a b c d h1 h2 h3 => exact .other (word_no h1 (by decide)) (by unfold layL; split <;> rfl)
 | pan a b c d h1 h2 h3 => exact .other (word_no h1 (by decide)) (by unfold panL; split <;> rfl)
 | bet v k h1 h2 h3 =>
  have hw : wordOf x = sBet := word_is h1 rfl
  obtain ⟨t, hp, hl, hn, hs⟩ := lineL_nums h2
  rw [hw] at hp
  match t, hl with
  | [a, c], _ =>
   obtain ⟨v', e1, e2⟩ := numV_of (hs a (by simp))
   obtain ⟨k', e3, e4⟩ := numV_of (hs c (by simp))
   simp only [List.map_cons, List.map_nil, List.cons.injEq, and_true, e2, e4] at hn
   obtain ⟨rfl, rfl⟩ := hn
   have hb := h3
   unfold betL at h3 ⊢
   split at h3
   · cases h3
   · rename_i c1
     rw [if_neg c1]
     split at h3
     · cases h3
     · rename_i c2
       rw [if_neg c2]
       split at h3
       · cases h3
       · rename_i c3
         rw [if_neg c3]
         exact .bet a c v' k' hw hp e1 e3 hb rfl (fun e => c3 (by rw [e]; rfl))
/-- The bets stay sound. -/
def SndI (s : Bk) : Prop := cornersL (allB s.bets) ≠ []
theorem SndI.begin : SndI bk0 := corner_zero
theorem SndI.step {s s' : Bk} {x : ByteArray} (h : SndI s) (hk : PrcL s x s') : SndI s' := by
 cases hk with
 | bet a c v k _ _ _ _ _ h4 h5 =>
  unfold SndI allB
  rw [h4, if_neg (by simp)]
  exact h5
 | other _ h2 => unfold SndI at *; rw [h2]; exact h
theorem snd_all {J : List ByteArray} {f : Nat → Bk} (h0 : f 0 = bk0) (hf : ∀ k x, J[k]? = some x → BkT (f k) ∧ KindL (f k) x (f (k + 1))) : ∀ k, k ≤ J.length → SndI (f k)
 | 0, _ => by rw [h0]; exact SndI.begin
 | k + 1, hk => (snd_all h0 hf k (by omega)).step (prcL (hf k _ (List.getElem?_eq_getElem (by omega))).2)
end Go.Proofs.YtapeledneokgpaaGreatDoor
/- Walk of told: a word and numbers. Conditions: the numbers are below a thousand; the library's variables stand. -/
namespace Go.Proofs.YtapeledneokgpaaGreatDoor
open Go.RowKit Go.Maps
/-- A number as a word. -/
def itoaB (n : Nat) : ByteArray := ⟨(Lib.itoa (n : Int)).toArray⟩
/-- A word and numbers behind it, each behind a blank. -/
def numd (word : ByteArray) (l : List Nat) : ByteArray := l.foldl (fun o n => o ++ (⟨#[32]⟩ ++ itoaB n)) word
theorem numd_snoc (word : ByteArray) (l : List Nat) (i : Nat) : numd word (l ++ [i]) = numd word l ++ (⟨#[32]⟩ ++ itoaB i) := by simp [numd, List.foldl_append]
set_option maxRecDepth 100000 in
theorem itoaB_all : (List.range 1000).all (fun n => decide ((itoaB n).size ≤ 3)) = true := by kernel_rfl
theorem itoaB_size {n : Nat} (h : n < 1000) : (itoaB n).size ≤ 3 := of_decide_eq_true (List.all_eq_true.1 itoaB_all n (List.mem_range.2 h))
theorem numd_size {l : List Nat} (h : ∀ i ∈ l, i < 1000) : ∀ v : ByteArray, (numd v l).size ≤ v.size + 4 * l.length := by
 induction l with
 | nil => intro v; exact Nat.le_refl _
 | cons n l ih =>
  intro v
  have h1 := ih (fun i hi => h i (by simp [hi])) (v ++ (⟨#[32]⟩ ++ itoaB n))
  have h2 := itoaB_size (h n (by simp))
  have h4 : (v ++ ((⟨#[32]⟩ : ByteArray) ++ itoaB n)).size = v.size + (1 + (itoaB n).size) := by rw [ByteArray.size_append, ByteArray.size_append]; rfl
  show (numd (v ++ (⟨#[32]⟩ ++ itoaB n)) l).size ≤ _
  rw [List.length_cons]
  omega
set_option maxRecDepth 100000 in
set_option maxHeartbeats 2000000 in
theorem toldF (word : ByteArray) (A : Option Addr) (m c : Nat) (l : List Nat) (w : World) (ht : Sl w A m c (l.map fun i : Nat => Value.int .i64 i)) (hl : ∀ i ∈ l, i < 1000) (hw : word.size ≤ 1000) (hm2 : m ≤ 1000) (he : EnvN w) :
 Calls Tryz.prog 168 #[.int .i64 0, .string word, .slice A m c] w fun x w' => x = .returned (.tuple #[.string (numd word l), .int .i64 0]) ∧ Below w.heap.size w w' := by
 have HT := hid ht
 have HLL := hid (show l.length = m by have := ht.len; simpa using this)
 have HI := hid hl
 have HW := hid hw
 have HEN := hid he
 have hm : m ≤ 9223372036854775807 := by omega
 clear ht hl hw he
 go_enter Tryz.func168, Tryz.ntmps168
 go_wp2
 go_loopg [1, 15] m (fun gk v i wr => ∃ k : Nat, gk + k = m ∧ i = .int .i64 k ∧ v = .string (numd word (l.take k)) ∧ Hid ((numd word (l.take k)).size ≤ 1000 + 4 * k) ∧ Hid (Below w.heap.size w wr))
 case atStart => exact ⟨0, by omega, rfl, rfl, HW, hid (Below.refl _ _)⟩
 case round =>
  obtain ⟨k, hk, rfl, rfl, HSZ, HB⟩ := hrel
  have HK := hid hk
  by_cases hlt : k < m
  · have HLT := hid hlt
    obtain ⟨b, o, u, rfl, lb, e1, ca⟩ := (HT.out.below HB.out).at hlt
    rw [List.getElem?_map] at e1
    obtain ⟨i, hi, rfl⟩ := Option.map_eq_some_iff.1 e1
    have hin := HI.out i (List.mem_of_getElem? hi)
    have HST := hid (show numd word (l.take (k + 1)) = numd word (l.take k) ++ (⟨#[32]⟩ ++ itoaB i) by
     rw [List.take_add_one, hi, Option.toList_some, numd_snoc])
    have hz := itoaB_size hin
    have HIT := hid (itoaAny (i : Nat) (by omega) (by omega) wr (HEN.out.keep HB.out))
    have hsz := HSZ.out
    have hdef : (⟨(Lib.itoa (i : Int)).toArray⟩ : ByteArray) = itoaB i := rfl
    rw [hdef] at HIT
    generalize numd word (l.take k) = v at *
    generalize itoaB i = s at *
    have h1s : (⟨#[32]⟩ ++ s : ByteArray).size = 1 + s.size := by rw [ByteArray.size_append]; rfl
    have cat1 : ∀ W : World, (Op.stringOp .add ⟨#[32]⟩ s).run Tryz.prog W = .ok (.string (⟨#[32]⟩ ++ s)) W := fun W => run_string_add_sum W _ _ (by have : (ByteArray.mk #[32]).size = 1 := rfl; omega)
    have cat2 : ∀ W : World, (Op.stringOp .add v (⟨#[32]⟩ ++ s)).run Tryz.prog W = .ok (.string (v ++ (⟨#[32]⟩ ++ s))) W := fun W => run_string_add_sum W _ _ (by omega)
    have HS2 := hid (show (v ++ (⟨#[32]⟩ ++ s)).size ≤ 1000 + 4 * (k + 1) by rw [ByteArray.size_append]; omega)
    clear hk e1 hi lb hsz hdef
    go_wp2_with fail
    refine (HIT.out).mono ?_; rintro e w2 ⟨rfl, b2⟩
    have HB2 := hid (below_call HB.out b2 HB.out.size)
    clear HIT b2
    go_wp2
    go_roundg (gk - 1)
    case measure => have := HK.out; have := HLT.out; omega
    case rel => exact ⟨k + 1, by have := HK.out; have := HLT.out; omega, by go_num, by rw [HST.out], by rw [HST.out]; exact HS2, HB2⟩
  · obtain rfl : k = m := by have := HK.out; omega
    have e : l.take k = l := List.take_of_length_le (by have := HLL.out; omega)
    rw [e]
    clear hk e
    go_wp2
    go_ret2
    exact ⟨rfl, HB.out⟩
set_option maxRecDepth 100000 in
set_option maxHeartbeats 2000000 in
theorem toldErr (e : Nat) (h0 : e ≠ 0) (word : ByteArray) (A : Option Addr) (m c : Nat) (w : World) :
 Calls Tryz.prog 168 #[.int .i64 (e : Nat), .string word, .slice A m c] w fun x w' => x = .returned (.tuple #[.string ByteArray.empty, .int .i64 (e : Nat)]) ∧ w = w' := by
 have hz : ((e : Int) == 0) = false := by rw [beq_eq_false_iff_ne]; omega
 have hz2 : (e == 0) = false := by rw [beq_eq_false_iff_ne]; exact h0
 clear h0
 go_enter Tryz.func168, Tryz.ntmps168
 go_wp2
 go_ret2
 exact ⟨rfl, rfl⟩
end Go.Proofs.YtapeledneokgpaaGreatDoor
/- Walks of state.ask and of Mint.Ask at any text, over a contract of the question that its word names. Conditions: the text is short of the shelf's bound; the library's variables stand. -/
namespace Go.Proofs.YtapeledneokgpaaGreatDoor
open Go.RowKit Go.Maps
/-- What a question replies: a text, and a number. -/
def AskC (k : FuncId) (s : Bk) (nm : List ByteArray) (nu : List Int) (q : ByteArray × Nat) : Prop :=
 ∀ (w : World) (G : Nat → Prop) (sb : Nat) (A : Option Addr) (c : Nat) (D : Option Addr) (d : Nat), StR w G sb s → Sl w A nm.length c (strV nm) → Sl w D nu.length d (intV nu) → EnvN w → Tab w →
  Calls Tryz.prog k #[.pointer (some ⟨sb, 0, none⟩), .agg #[.slice A nm.length c, .slice D nu.length d]] w fun r w' => r = .returned (.tuple #[.string q.1, .int .i64 (q.2 : Nat)]) ∧ Below w.heap.size w w'
/-- What ask hands back. -/
def AskR (w : World) (q : ByteArray × Nat) (r : Ending) (w' : World) : Prop := r = .returned (.tuple #[.string q.1, .int .i64 (q.2 : Nat)]) ∧ Below w.heap.size w w'
set_option maxRecDepth 100000 in
set_option maxHeartbeats 4000000 in
theorem askYes (r0 r1 : Nat) (k : FuncId) (hr : r0 + r1 ≤ 100) (G : Nat → Prop) (sb : Nat) (s : Bk) (x : ByteArray) (nm : List ByteArray) (nu : List Int) (q : ByteArray × Nat) (hs : x.size ≤ 100000000) (w : World) (hm : EnvN w) (hT : Tab w) (hst : StR w G sb s)
 (hf : asS questionsL (.string (wordOf x)) = some (.agg #[.int .i64 (r0 : Nat), .int .i64 (r1 : Nat), .nilFunc, .func (.func k) #[] #[]]))
 (he : ∀ args W, (callFunc k args).run Tryz.prog W = .ok (.enter k args) W) (hrd : readP r0 r1 (parts x).tail = some (nm, nu)) (hln : isLn x = true) (hk : AskC k s nm nu q) :
 Calls Tryz.prog 40 #[.pointer (some ⟨sb, 0, none⟩), .string x] w (AskR w q) := by
 unfold AskR
 have HC := hid (questionsF w)
 have HM := hid hm
 have HT := hid hT
 have HS := hid hst
 have HK := hid hk
 clear hm hT hst hk
 go_enter Tryz.func40, Tryz.ntmps40
 go_wp2_with fail
 refine (HC.out).mono ?_; rintro e w1 ⟨bm, rfl, hmap, hb, b1⟩
 have HB1 := hid b1
 have HF := hid (findQst bm (asS questionsL) x r0 r1 k hr hs w1 (HM.out.keep b1) hmap hf)
 rw [hrd, hln] at HF
 unfold FndP at HF
 simp only [Option.getD_some, Option.isSome_some, Bool.and_self] at HF
 clear hmap hb b1 HC hf hrd hln
 go_wp2_with fail
 refine (HF.out).mono ?_; rintro e w2 ⟨⟨A, c, D, d, rfl, ho, ho2⟩, b2⟩
 have HO := hid ho
 have HO2 := hid ho2
 have HB2 := hid (below_call HB1.out b2 HB1.out.size)
 clear ho ho2 b2 HF
 obtain ⟨na, hna⟩ : ∃ n, n = nm.length := ⟨_, rfl⟩
 obtain ⟨nd, hnd⟩ : ∃ n, n = nu.length := ⟨_, rfl⟩
 have HNA := hid hna
 have HND := hid hnd
 rw [← hna] at HO ⊢
 rw [← hnd] at HO2 ⊢
 clear hna hnd
 have b3 := (HB2.out.alloc HB2.out.size (.cells #[.int .i64 (r0 : Nat), .int .i64 (r1 : Nat), .nilFunc, .func (.func k) #[] #[]] 137)).alloc (by have := HB2.out.size; simp; omega) (.cells #[.slice A na c, .slice D nd d] 139)
 have HB3 := hid b3
 have HO3 := hid ((HO.out.alloc (.cells #[.int .i64 (r0 : Nat), .int .i64 (r1 : Nat), .nilFunc, .func (.func k) #[] #[]] 137)).alloc (.cells #[.slice A na c, .slice D nd d] 139))
 have HO4 := hid ((HO2.out.alloc (.cells #[.int .i64 (r0 : Nat), .int .i64 (r1 : Nat), .nilFunc, .func (.func k) #[] #[]] 137)).alloc (.cells #[.slice A na c, .slice D nd d] 139))
 have HRO := hid (HK.out _ G sb A c D d (HS.out.below b3) (by have := Sl.of_own HO3.out; rwa [← HNA.out]) (by have := Sl.of_own HO4.out; rwa [← HND.out]) (HM.out.keep b3) (HT.out.below b3))
 rw [← HNA.out, ← HND.out] at HRO
 clear b3 HO HO2
 go_wp2_with fail
 refine (HRO.out).mono ?_; rintro e w4 ⟨rfl, b4⟩
 have HB4 := hid (below_call HB3.out b4 HB3.out.size)
 clear b4
 go_wp2
 go_ret2
 exact ⟨rfl, HB4.out⟩
set_option maxRecDepth 100000 in
set_option maxHeartbeats 4000000 in
/-- Mint.Ask asks the state. -/
theorem mintAskF (R : Nat → Prop) (m : Nat) (d : Value) (L : List (Nat × Nat)) (k : Int) (s : Bk) (J : List ByteArray) (out : Bool) (x : ByteArray) (q : ByteArray × Nat) (w : World) (hm : MinM w R m d L k s J out)
 (hk : ∀ sb, StR w R sb s → Calls Tryz.prog 40 #[.pointer (some ⟨sb, 0, none⟩), .string x] w (AskR w q)) :
 Calls Tryz.prog 12 #[.pointer (some ⟨m, 0, none⟩), .string x] w (AskR w q) := by
 obtain ⟨sb, A, ca, h1, h2, h3, h4⟩ := hm.ex
 have HN := hid (mintNone m _ k sb _ out w h1)
 have HA := hid (hk sb h3)
 have c2 := h1.cell 2
 simp only [List.getElem?_toArray, List.getElem?_cons_zero, List.getElem?_cons_succ] at c2
 clear hm h1 h2 h3 h4 hk
 unfold AskR at HA ⊢
 go_enter Tryz.func12, Tryz.ntmps12
 go_wp2_with fail
 refine (HN.out).mono ?_; rintro e w' ⟨rfl, rfl⟩
 go_wp2_with fail
 refine (HA.out).mono ?_; rintro e w2 ⟨rfl, b2⟩
 have HB2 := hid b2
 clear b2
 go_wp2
 go_ret2
 exact ⟨rfl, HB2.out⟩
end Go.Proofs.YtapeledneokgpaaGreatDoor
