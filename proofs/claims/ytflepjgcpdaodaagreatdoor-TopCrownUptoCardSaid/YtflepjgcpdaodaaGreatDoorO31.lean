/- Texts of this proof, one behind the other; each says its condition at its head. -/
import Derived.Test.YtflepjgcpdaodaaGreatDoorO25
import Derived.Test.YtflepjgcpdaodaaGreatDoorO26
import Derived.Test.YtflepjgcpdaodaaGreatDoorO23
import Derived.Test.YtflepjgcpdaodaaGreatDoorO10
import Derived.Test.YtflepjgcpdaodaaGreatDoorO27
/- Plain law of tournaments: whom each player beats, as sets; what a mint's books keep of it. No condition. -/
namespace Go.Proofs.YtflepjgcpdaodaaGreatDoor
open Go.RowKit Go.Maps
/-- A tournament of n players: b i j says that i beats j. -/
def TourOk (n : Nat) (b : Nat → Nat → Bool) : Prop := (∀ i, i < n → b i i = false) ∧ ∀ i j, i < n → j < n → i ≠ j → b i j = !b j i
/-- A list that is a tournament. -/
def TourI (l : List Int) : Prop := ∃ b, l = ordL l.length b ∧ TourOk l.length b
theorem TourOk.congr {n : Nat} {a b : Nat → Nat → Bool} (h : TourOk n a) (he : ∀ i j, i < n → j < n → a i j = b i j) : TourOk n b :=
 ⟨fun i hi => by rw [← he i i hi hi]; exact h.1 i hi, fun i j hi hj hij => by rw [← he i j hi hj, ← he j i hj hi]; exact h.2 i j hi hj hij⟩
/-- With a player more, who loses to all. -/
def joinA (n : Nat) (b : Nat → Nat → Bool) (i j : Nat) : Bool := decide (i < n) && (decide (j = n) || b i j && decide (j < n))
theorem joinA_ok {n : Nat} {b : Nat → Nat → Bool} (h : TourOk n b) : TourOk (n + 1) (joinA n b) := by
 refine ⟨fun i hi => ?_, fun i j hi hj hij => ?_⟩
 · unfold joinA
   by_cases e : i = n
   · simp [e]
   · have hi' : i < n := by omega
     simp [e, hi', h.1 i hi']
 · unfold joinA
   by_cases ei : i = n
   · subst ei
     have hj' : j < i := by omega
     simp [hj']
   · by_cases ej : j = n
     · subst ej
       have hi' : i < j := by omega
       simp [hi']
     · have hi' : i < n := by omega
       have hj' : j < n := by omega
       simp [hi', hj', ei, ej, h.2 i j hi' hj' hij]
theorem mk_up {n : Nat} (hn : n < 60) (f : Nat → Bool) : bits .or .i64 (mk n f) (p2 n) = mk (n + 1) (fun j => decide (j = n) || f j && decide (j < n)) := by
 have h1 := mk_push (n := n + 1) (k := n) (by omega) (by omega) (fun j => decide (j = n) || f j && decide (j < n)) (b := 1) (by simp)
 rw [Int.one_mul] at h1
 rw [← h1]
 congr 1
 apply mk_congr
 intro i hi
 have hne : ¬ i = n := by omega
 simp [hi, hne]
theorem ordL_join {n : Nat} (hn : n < 60) (b : Nat → Nat → Bool) : (ordL n b).map (fun v => bits .or .i64 v (p2 n)) ++ [0] = ordL (n + 1) (joinA n b) := by
 unfold ordL
 rw [List.range_succ, List.map_append, List.map_map]
 congr 1
 · refine List.map_congr_left fun i hi => ?_
   have hi := List.mem_range.1 hi
   simp only [Function.comp_apply]
   rw [mk_up hn]
   apply mk_congr
   intro j _
   unfold joinA
   simp [hi]
 · simp only [List.map_cons, List.map_nil]
   rw [show joinA n b n = fun _ => false by funext j; unfold joinA; simp, mk_none]
/-- With a result: x beats y. -/
def beatA (b : Nat → Nat → Bool) (x y i j : Nat) : Bool := if i = x ∧ j = y then true else if i = y ∧ j = x then false else b i j
theorem beatA_ok {n : Nat} {b : Nat → Nat → Bool} (h : TourOk n b) {x y : Nat} (hxy : x ≠ y) : TourOk n (beatA b x y) := by
 refine ⟨fun i hi => ?_, fun i j hi hj hij => ?_⟩
 · unfold beatA
   rw [if_neg (by omega), if_neg (by omega)]
   exact h.1 i hi
 · unfold beatA
   by_cases e1 : i = x ∧ j = y
   · rw [if_pos e1, if_neg (by omega), if_pos (by omega)]
     rfl
   · by_cases e2 : i = y ∧ j = x
     · rw [if_neg e1, if_pos e2, if_pos (by omega)]
       rfl
     · rw [if_neg e1, if_neg e2, if_neg (by omega), if_neg (by omega)]
       exact h.2 i j hi hj hij
theorem ordL_get {n : Nat} (b : Nat → Nat → Bool) {i : Nat} (hi : i < n) : (ordL n b).getD i 0 = mk n (b i) := by
 unfold ordL
 rw [List.getD_eq_getElem?_getD, List.getElem?_map, List.getElem?_range hi]
 rfl
theorem ordL_at {n : Nat} (b : Nat → Nat → Bool) {i : Nat} (hi : i < n) : (ordL n b)[i]? = some (mk n (b i)) := by
 unfold ordL
 rw [List.getElem?_map, List.getElem?_range hi]
 rfl
theorem ordL_put {n : Nat} (b : Nat → Nat → Bool) {i : Nat} (f : Nat → Bool) : (ordL n b).set i (mk n f) = ordL n (fun k => if k = i then f else b k) := by
 apply List.ext_getElem?
 intro k
 rw [List.getElem?_set]
 by_cases hk : k < n
 · rw [ordL_at _ hk, ordL_at _ hk, ordL_len]
   by_cases e : i = k
   · subst e
     simp [hk]
   · have e2 : ¬ k = i := fun h => e h.symm
     simp [e, e2]
 · have hl : (ordL n (fun k => if k = i then f else b k))[k]? = none := List.getElem?_eq_none (by rw [ordL_len]; omega)
   have hl2 : (ordL n b)[k]? = none := List.getElem?_eq_none (by rw [ordL_len]; omega)
   rw [hl, hl2, ordL_len]
   split <;> simp_all
theorem mk_set {n : Nat} (hn : n ≤ 60) {j : Nat} (hj : j < n) (f : Nat → Bool) : bits .or .i64 (mk n f) (p2 j) = mk n (fun k => if k = j then true else f k) := by
 rw [← mk_single hj, mk_or hn]
 apply mk_congr
 intro k _
 by_cases e : k = j <;> simp [e]
theorem mk_del {n : Nat} (hn : n ≤ 60) {j : Nat} (hj : j < n) (f : Nat → Bool) : bits .andNot .i64 (mk n f) (p2 j) = mk n (fun k => if k = j then false else f k) := by
 rw [← mk_single hj, mk_andNot hn]
 apply mk_congr
 intro k _
 by_cases e : k = j <;> simp [e]
theorem ordL_beat {n : Nat} (hn : n ≤ 60) (b : Nat → Nat → Bool) {x y : Nat} (hx : x < n) (hy : y < n) (hxy : x ≠ y) :
 putI (putI (ordL n b) x fun v => bits .or .i64 v (p2 y)) y (fun v => bits .andNot .i64 v (p2 x)) = ordL n (beatA b x y) := by
 unfold putI
 dsimp only
 rw [ordL_get b hx, mk_set hn hy, ordL_put, ordL_get _ hy, mk_del hn hx, ordL_put]
 apply ordL_congr
 intro i j _ _
 unfold beatA
 by_cases e1 : i = y
 · subst e1
   have e2 : ¬ i = x := fun h => hxy h.symm
   simp [e2]
 · simp only [if_neg e1]
   by_cases e2 : i = x
   · subst e2
     by_cases e3 : j = y
     · simp [e3]
     · simp [e3, e1]
   · simp [e1, e2]
theorem TourI.nil : TourI [] := ⟨fun _ _ => false, rfl, ⟨fun i hi => by simp at hi, fun i j hi => by simp at hi⟩⟩
theorem TourI.of {n : Nat} {b : Nat → Nat → Bool} (h : TourOk n b) : TourI (ordL n b) := ⟨b, by rw [ordL_len], by rw [ordL_len]; exact h⟩
theorem TourI.push {l : List Int} (h : TourI l) (hl : l.length < 60) : TourI (l.map (fun v => bits .or .i64 v (p2 l.length)) ++ [0]) := by
 obtain ⟨b, h1, h2⟩ := h
 generalize hn : l.length = n at *
 subst h1
 rw [ordL_join hl]
 exact TourI.of (joinA_ok h2)
theorem TourI.beat {l : List Int} (h : TourI l) (hl : l.length ≤ 60) {x y : Nat} (hx : x < l.length) (hy : y < l.length) (hxy : x ≠ y) : TourI (putI (putI l x fun v => bits .or .i64 v (p2 y)) y (fun v => bits .andNot .i64 v (p2 x))) := by
 obtain ⟨b, h1, h2⟩ := h
 generalize hn : l.length = n at *
 subst h1
 rw [ordL_beat hl b hx hy hxy]
 exact TourI.of (beatA_ok h2 hxy)
/-- What a mint's books keep of the players. -/
theorem TourI.player {s : Bk} (h : TourI s.beats) (hs : BkI s) (x : ByteArray) : TourI (playerL s x).1.beats := by
 unfold playerL
 split
 · have := hs.1.bea
   have := hs.1.pla
   exact h.push (by omega)
 · exact h
theorem TourI.beats {s : Bk} (h : TourI s.beats) (hs : BkI s) (x y : ByteArray) : TourI (beatL s x y).1.beats := by
 have h1 := hs.1.bea
 have h2 := hs.1.pla
 have b1 := idxZ_bd x s.players
 have b2 := idxZ_bd y s.players
 unfold beatL
 split
 · split
   · exact h
   · rename_i hp hq
     simp only [not_or] at hq
     obtain ⟨i, hi⟩ := Int.eq_ofNat_of_zero_le hp.1
     obtain ⟨j, hj⟩ := Int.eq_ofNat_of_zero_le hp.2
     have h3 := h.beat (x := i) (y := j) (by omega) (by omega) (by omega) (by omega)
     rw [hi, hj]
     exact h3
 · exact h
theorem beats_medal (s : Bk) (x : ByteArray) : (medalL s x).1.beats = s.beats := by
 unfold medalL; split <;> rfl
theorem beats_rank (s : Bk) (x y : ByteArray) : (rankL s x y).1.beats = s.beats := by
 unfold rankL; split
 · split <;> rfl
 · rfl
theorem beats_lay (s : Bk) (x y z u : Int) : (layL s x y z u).1.beats = s.beats := by
 unfold layL; split <;> rfl
theorem beats_pan (s : Bk) (x y z u : Int) : (panL s x y z u).1.beats = s.beats := by
 unfold panL; split <;> rfl
theorem beats_bet (s : Bk) (v k : Int) : (betL s v k).1.beats = s.beats := by
 unfold betL
 split
 · rfl
 · split
   · rfl
   · split <;> rfl
theorem TourI.doL {s : Bk} (h : TourI s.beats) (hs : BkI s) (x : ByteArray) : TourI (doL s x).1.beats := by
 unfold Go.Proofs.YtflepjgcpdaodaaGreatDoor.doL
 split
 · split
   · rw [beats_bet]; exact h
   · exact h
 · split
   · split
     · rw [beats_pan]; exact h
     · exact h
   · split
     · split
       · rw [beats_lay]; exact h
       · exact h
     · split
       · split
         · exact h.beats hs _ _
         · exact h
       · split
         · split
           · exact h.player hs _
           · exact h
         · split
           · split
             · rw [beats_rank]; exact h
             · exact h
           · split
             · split
               · rw [beats_medal]; exact h
               · exact h
             · exact h
end Go.Proofs.YtflepjgcpdaodaaGreatDoor
/- What a line that was done is: its word, and what stands behind it. No condition. -/
namespace Go.Proofs.YtflepjgcpdaodaaGreatDoor
open Go.RowKit Go.Maps
/-- A line's first part is its word. -/
theorem parts_head (x : ByteArray) : parts x = wordOf x :: (parts x).tail := by
 have key : ∃ t, parts x = wordOf x :: t := by
  unfold parts
  rcases Lib.indexB_cases x ⟨#[32]⟩ with hix | ⟨i, hix, hroom⟩
  · rw [Lib.splitB_miss _ _ _ _ hix]
    refine ⟨[], ?_⟩
    congr 1
    unfold wordOf Lib.cut
    have h1 : Lib.index x.data.toList [32] = -1 := hix
    rw [h1, if_neg (by omega)]
  · have hc : ∃ k, Lib.countB x ⟨#[32]⟩ = k + 1 := by
     have h1 : Lib.index x.data.toList (ByteArray.mk #[32]).data.toList = i := hix
     unfold Lib.countB Lib.count Lib.countFrom
     rw [h1, if_neg (by rw [beq_iff_eq]; omega)]
     exact ⟨_, Nat.add_comm _ _⟩
    obtain ⟨k, hk⟩ := hc
    rw [hk, Lib.splitB_hit _ _ _ _ i hix]
    refine ⟨Lib.splitB ⟨#[32]⟩ 0 k (x.extract (i + (ByteArray.mk #[32]).size) x.size), ?_⟩
    congr 1
    apply ByteArray.ext
    apply Array.toList_inj.1
    rw [Nat.add_zero, Lib.extract_from_zero]
    unfold wordOf Lib.cut
    have h1 : Lib.index x.data.toList [32] = i := hix
    rw [h1, if_pos (by omega), Int.toNat_natCast]
 obtain ⟨t, h⟩ := key
 rw [h, List.tail_cons]
theorem lineL_tail {r0 r1 : Nat} {x : ByteArray} {nm : List ByteArray} {nu : List Int} (h : lineL r0 r1 x = some (nm, nu)) : nm = (parts x).tail.take r0 ∧ nu = ((parts x).tail.drop r0).map numV ∧ (parts x).tail.length = r0 + r1 ∧ (∀ v ∈ nm, isNm v = true) ∧ ∀ v ∈ (parts x).tail.drop r0, (numOf v).isSome = true := by
 unfold lineL at h
 split at h
 · unfold readP at h
   split at h
   · rename_i hc
     cases h
     exact ⟨rfl, rfl, hc.1, fun v hv => List.all_eq_true.1 hc.2.1 v hv, fun v hv => List.all_eq_true.1 hc.2.2 v hv⟩
   · cases h
 · cases h
/-- What a line that was done is. -/
inductive KindL (s : Bk) (x : ByteArray) : Bk → Prop
 | medal (v : ByteArray) : (wordOf x).data.toList = [109, 101, 100, 97, 108] → lineL 1 0 x = some ([v], []) → (medalL s v).2 = 0 → KindL s x (medalL s v).1
 | above (v k : ByteArray) : (wordOf x).data.toList = [97, 98, 111, 118, 101] → lineL 2 0 x = some ([v, k], []) → (rankL s v k).2 = 0 → KindL s x (rankL s v k).1
 | player (v : ByteArray) : (wordOf x).data.toList = [112, 108, 97, 121, 101, 114] → lineL 1 0 x = some ([v], []) → (playerL s v).2 = 0 → KindL s x (playerL s v).1
 | beat (v k : ByteArray) : (wordOf x).data.toList = [98, 101, 97, 116] → lineL 2 0 x = some ([v, k], []) → (beatL s v k).2 = 0 → KindL s x (beatL s v k).1
 | batch (a b c d : Int) : (wordOf x).data.toList = [98, 97, 116, 99, 104] → lineL 0 4 x = some ([], [a, b, c, d]) → (layL s a b c d).2 = 0 → KindL s x (layL s a b c d).1
 | pan (a b c d : Int) : (wordOf x).data.toList = [112, 97, 110] → lineL 0 4 x = some ([], [a, b, c, d]) → (panL s a b c d).2 = 0 → KindL s x (panL s a b c d).1
 | bet (v k : Int) : (wordOf x).data.toList = [98, 101, 116] → lineL 0 2 x = some ([], [v, k]) → (betL s v k).2 = 0 → KindL s x (betL s v k).1
theorem lineL_len {r0 r1 : Nat} {x : ByteArray} {nm : List ByteArray} {nu : List Int} (h : lineL r0 r1 x = some (nm, nu)) : nm.length = r0 ∧ nu.length = r1 := by
 obtain ⟨h1, h2, h3, _⟩ := lineL_tail h
 rw [h1, h2, List.length_take, List.length_map, List.length_drop]
 omega
theorem kindL {s : Bk} {x : ByteArray} (h : (doL s x).2 = 0) : KindL s x (doL s x).1 := by
 unfold doL at h ⊢
 split
 · rename_i e0
   rw [if_pos e0] at h
   split
   · rename_i nm v k hl
     obtain rfl := List.eq_nil_of_length_eq_zero (lineL_len hl).1
     rw [hl] at h
     exact .bet _ _ e0 hl h
   · rename_i hl
     split at h
     · rename_i a1 a2 a3 hx
       exact absurd hx (hl _ _ _)
     · cases h
 rename_i e0
 rw [if_neg e0] at h
 split
 · rename_i e1
   rw [if_pos e1] at h
   split
   · rename_i nm v k z u hl
     obtain rfl := List.eq_nil_of_length_eq_zero (lineL_len hl).1
     rw [hl] at h
     exact .pan _ _ _ _ e1 hl h
   · rename_i hl
     split at h
     · rename_i a1 a2 a3 a4 a5 hx
       exact absurd hx (hl _ _ _ _ _)
     · cases h
 rename_i e1
 rw [if_neg e1] at h
 split
 · rename_i e2
   rw [if_pos e2] at h
   split
   · rename_i nm v k z u hl
     obtain rfl := List.eq_nil_of_length_eq_zero (lineL_len hl).1
     rw [hl] at h
     exact .batch _ _ _ _ e2 hl h
   · rename_i hl
     split at h
     · rename_i a1 a2 a3 a4 a5 hx
       exact absurd hx (hl _ _ _ _ _)
     · cases h
 rename_i e2
 rw [if_neg e2] at h
 split
 · rename_i e3
   rw [if_pos e3] at h
   split
   · rename_i v k nu hl
     obtain rfl := List.eq_nil_of_length_eq_zero (lineL_len hl).2
     rw [hl] at h
     exact .beat _ _ e3 hl h
   · rename_i hl
     split at h
     · rename_i a1 a2 a3 hx
       exact absurd hx (hl _ _ _)
     · cases h
 rename_i e3
 rw [if_neg e3] at h
 split
 · rename_i e4
   rw [if_pos e4] at h
   split
   · rename_i v nu hl
     obtain rfl := List.eq_nil_of_length_eq_zero (lineL_len hl).2
     rw [hl] at h
     exact .player _ e4 hl h
   · rename_i hl
     split at h
     · rename_i a1 a2 hx
       exact absurd hx (hl _ _)
     · cases h
 rename_i e4
 rw [if_neg e4] at h
 split
 · rename_i e5
   rw [if_pos e5] at h
   split
   · rename_i v k nu hl
     obtain rfl := List.eq_nil_of_length_eq_zero (lineL_len hl).2
     rw [hl] at h
     exact .above _ _ e5 hl h
   · rename_i hl
     split at h
     · rename_i a1 a2 a3 hx
       exact absurd hx (hl _ _ _)
     · cases h
 rename_i e5
 rw [if_neg e5] at h
 split
 · rename_i e6
   rw [if_pos e6] at h
   split
   · rename_i v nu hl
     obtain rfl := List.eq_nil_of_length_eq_zero (lineL_len hl).2
     rw [hl] at h
     exact .medal _ e6 hl h
   · rename_i hl
     split at h
     · rename_i a1 a2 hx
       exact absurd hx (hl _ _)
     · cases h
 rename_i e6
 rw [if_neg e6] at h
 cases h
end Go.Proofs.YtflepjgcpdaodaaGreatDoor
/- What a mint's names keep: names of small letters, each once; and the books along a journal. No condition. -/
namespace Go.Proofs.YtflepjgcpdaodaaGreatDoor
open Go.RowKit Go.Maps
/-- A mint's names. -/
structure NmI (s : Bk) : Prop where
 pl : ∀ v ∈ s.players, isNm v = true
 pd : s.players.Nodup
 md : ∀ v ∈ s.medals, isNm v = true
 mn : s.medals.Nodup
theorem enter_nm {l : List ByteArray} {x : ByteArray} {k : Nat} (h : ∀ v ∈ l, isNm v = true) (hn : l.Nodup) (hx : isNm x = true) : (∀ v ∈ (enterL l x k).1, isNm v = true) ∧ (enterL l x k).1.Nodup := by
 unfold enterL
 split
 · exact ⟨h, hn⟩
 · rename_i hx2
   split
   · exact ⟨h, hn⟩
   · refine ⟨fun v hv => ?_, ?_⟩
     · rcases List.mem_append.1 hv with e | e
       · exact h v e
       · rw [List.mem_singleton.1 e]; exact hx
     · rw [List.nodup_append]
       refine ⟨hn, by simp, fun a ha b hb e => ?_⟩
       rw [List.mem_singleton] at hb
       subst e hb
       exact hx2 ha
theorem players_other {s s' : Bk} {x : ByteArray} (h : KindL s x s') : (∃ v, isNm v = true ∧ s' = (playerL s v).1) ∨ s'.players = s.players := by
 cases h with
 | medal v h1 h2 h3 => right; unfold medalL; split <;> rfl
 | above v k h1 h2 h3 => right; unfold rankL; split <;> first | (split <;> rfl) | rfl
 | player v h1 h2 h3 => left; exact ⟨v, (lineL_tail h2).2.2.2.1 v (by simp), rfl⟩
 | beat v k h1 h2 h3 => right; unfold beatL; split <;> first | (split <;> rfl) | rfl
 | batch a b c d h1 h2 h3 => right; unfold layL; split <;> rfl
 | pan a b c d h1 h2 h3 => right; unfold panL; split <;> rfl
 | bet v k h1 h2 h3 => right; unfold betL; split <;> first | rfl | (split <;> first | rfl | (split <;> rfl))
theorem medals_other {s s' : Bk} {x : ByteArray} (h : KindL s x s') : (∃ v, isNm v = true ∧ s' = (medalL s v).1) ∨ s'.medals = s.medals := by
 cases h with
 | medal v h1 h2 h3 => left; exact ⟨v, (lineL_tail h2).2.2.2.1 v (by simp), rfl⟩
 | above v k h1 h2 h3 => right; unfold rankL; split <;> first | (split <;> rfl) | rfl
 | player v h1 h2 h3 => right; unfold playerL; split <;> rfl
 | beat v k h1 h2 h3 => right; unfold beatL; split <;> first | (split <;> rfl) | rfl
 | batch a b c d h1 h2 h3 => right; unfold layL; split <;> rfl
 | pan a b c d h1 h2 h3 => right; unfold panL; split <;> rfl
 | bet v k h1 h2 h3 => right; unfold betL; split <;> first | rfl | (split <;> first | rfl | (split <;> rfl))
theorem NmI.kind {s s' : Bk} {x : ByteArray} (h : NmI s) (hk : KindL s x s') : NmI s' := by
 have h1 : (∀ v ∈ s'.players, isNm v = true) ∧ s'.players.Nodup := by
  rcases players_other hk with ⟨v, hv, rfl⟩ | e
  · unfold playerL
    split
    · exact enter_nm h.pl h.pd hv
    · exact ⟨h.pl, h.pd⟩
  · rw [e]; exact ⟨h.pl, h.pd⟩
 have h2 : (∀ v ∈ s'.medals, isNm v = true) ∧ s'.medals.Nodup := by
  rcases medals_other hk with ⟨v, hv, rfl⟩ | e
  · unfold medalL
    split
    · exact enter_nm h.md h.mn hv
    · exact ⟨h.md, h.mn⟩
  · rw [e]; exact ⟨h.md, h.mn⟩
 exact ⟨h1.1, h1.2, h2.1, h2.2⟩
/-- All that a mint's books keep. -/
structure BkT (s : Bk) : Prop where
 bk : BkI s
 tr : TourI s.beats
 nm : NmI s
theorem BkT.begin : BkT bk0 := ⟨BkI.begin, TourI.nil, ⟨by simp [bk0], by simp [bk0], by simp [bk0], by simp [bk0]⟩⟩
theorem BkT.step {s s' : Bk} {x : ByteArray} (h : BkT s) (hs : stepL s x = some s') : BkT s' ∧ KindL s x s' := by
 unfold stepL at hs
 split at hs
 · rename_i h0
   cases hs
   have hk := kindL h0
   exact ⟨⟨h.bk.doL x, h.tr.doL h.bk x, h.nm.kind hk⟩, hk⟩
 · cases hs
/-- The books along a journal. -/
theorem run_at : ∀ (J : List ByteArray) (s0 s : Bk), BkT s0 → runL stepL s0 J = some s → BkT s ∧ ∃ f : Nat → Bk, f 0 = s0 ∧ f J.length = s ∧ ∀ k x, J[k]? = some x → BkT (f k) ∧ KindL (f k) x (f (k + 1))
 | [], s0, s, h0, h => by
  have h : some s0 = some s := h
  cases h
  exact ⟨h0, fun _ => s0, rfl, rfl, fun k x hx => by simp at hx⟩
 | y :: J, s0, s, h0, h => by
  cases hy : stepL s0 y with
  | none => rw [runL, hy] at h; cases h
  | some s1 =>
   rw [runL, hy] at h
   obtain ⟨h1, hk⟩ := h0.step hy
   obtain ⟨h2, f, f0, fl, hf⟩ := run_at J s1 s h1 h
   refine ⟨h2, fun k => match k with | 0 => s0 | k + 1 => f k, rfl, fl, fun k x hx => ?_⟩
   cases k with
   | zero =>
    simp only [List.getElem?_cons_zero, Option.some.injEq] at hx
    subst hx
    exact ⟨h0, by show KindL s0 y (f 0); rw [f0]; exact hk⟩
   | succ k => exact hf k x (by simpa using hx)
end Go.Proofs.YtflepjgcpdaodaaGreatDoor
/- Texts cut at blanks: what a line of words reads as. No condition. -/
namespace Go.Proofs.YtflepjgcpdaodaaGreatDoor
open Go.RowKit Go.Maps
/-- A text cut at its blanks. -/
def spl : List UInt8 → List (List UInt8)
 | [] => [[]]
 | c :: r => if c = 32 then [] :: spl r else (match spl r with
  | h :: t => (c :: h) :: t
  | [] => [[c]])
theorem spl_cons (c : UInt8) (r : List UInt8) : spl (c :: r) = if c = 32 then [] :: spl r else (match spl r with
 | h :: t => (c :: h) :: t
 | [] => [[c]]) := rfl
theorem spl_ne : ∀ s, spl s ≠ []
 | [] => by simp [spl]
 | c :: r => by
  unfold spl
  split
  · simp
  · split <;> simp
theorem spl_hd (s : List UInt8) : ∃ h t, spl s = h :: t := by
 cases h : spl s with
 | nil => exact absurd h (spl_ne s)
 | cons a b => exact ⟨a, b, rfl⟩
theorem splitK_spl : ∀ s : List UInt8, Lib.splitK [32] 0 (Lib.count s [32]) s = spl s
 | [] => by
  rw [Lib.count_miss (by simp [Lib.index])]
  rfl
 | c :: r => by
  by_cases hc : c = 32
  · subst hc
    have hix : Lib.index (32 :: r) [32] = ((0 : Nat) : Int) := by rw [Lib.index]; simp [List.isPrefixOf]
    rw [Lib.count_cons_eq, Nat.add_comm, Lib.splitK, hix, if_neg (by simp)]
    simp only [Int.toNat_natCast, Nat.add_zero, List.take_zero, Nat.zero_add, List.length_singleton, List.drop_succ_cons, List.drop_zero]
    rw [splitK_spl r]
    simp [spl]
  · have hp : ([32] : List UInt8).isPrefixOf (c :: r) = false := by simp [List.isPrefixOf, Ne.symm hc]
    have hix : Lib.index (c :: r) [32] = if Lib.index r [32] == -1 then -1 else Lib.index r [32] + 1 := by rw [Lib.index, hp]; simp
    have ih := splitK_spl r
    rw [Lib.count_cons_ne c 32 r hc]
    by_cases hm : Lib.index r [32] = -1
    · rw [Lib.count_miss hm] at ih ⊢
      have e : spl r = [r] := ih.symm
      have e2 : spl (c :: r) = [c :: r] := by unfold spl; rw [if_neg hc, e]
      rw [e2]
      rfl
    · have hge := Lib.index_ge r [32]
      obtain ⟨j, hj⟩ : ∃ j : Nat, Lib.index r [32] = j := ⟨(Lib.index r [32]).toNat, by omega⟩
      have hix2 : Lib.index (c :: r) [32] = ((j + 1 : Nat) : Int) := by rw [hix, if_neg (fun e => hm (beq_iff_eq.1 e)), hj]; omega
      rw [Lib.count_hit (by simp) hj, Nat.add_comm] at ih ⊢
      rw [Lib.splitK, hj, if_neg (by rw [beq_iff_eq]; omega)] at ih
      rw [Lib.splitK, hix2, if_neg (by rw [beq_iff_eq]; omega)]
      simp only [Int.toNat_natCast, Nat.add_zero, List.length_singleton] at ih ⊢
      have e2 : spl (c :: r) = (c :: r.take j) :: Lib.splitK [32] 0 (Lib.count (r.drop (j + 1)) [32]) (r.drop (j + 1)) := by unfold spl; rw [if_neg hc, ← ih]
      rw [e2]
      rfl
theorem parts_spl (x : ByteArray) : (parts x).map (fun v => v.data.toList) = spl x.data.toList := by
 unfold parts
 rw [Lib.splitB_data]
 exact splitK_spl x.data.toList
theorem spl_app : ∀ (u v : List UInt8), spl (u ++ 32 :: v) = spl u ++ spl v
 | [], v => by simp [spl]
 | c :: u, v => by
  rw [List.cons_append]
  obtain ⟨h, t, e⟩ := spl_hd u
  have ih := spl_app u v
  rw [e] at ih
  rw [spl_cons, spl_cons]
  by_cases hc : c = 32
  · rw [if_pos hc, if_pos hc, ih, e]; rfl
  · rw [if_neg hc, if_neg hc, ih, e]; rfl
theorem spl_no : ∀ v : List UInt8, (∀ c ∈ v, c ≠ 32) → spl v = [v]
 | [], _ => rfl
 | c :: v, h => by
  have ih := spl_no v fun x hx => h x (by simp [hx])
  unfold spl
  rw [if_neg (h c (by simp)), ih]
theorem data_inj {a b : List ByteArray} (h : a.map (fun v => v.data.toList) = b.map (fun v => v.data.toList)) : a = b := by
 induction a generalizing b with
 | nil => cases b with
  | nil => rfl
  | cons x b => simp at h
 | cons y a ih =>
  cases b with
  | nil => simp at h
  | cons x b =>
   rw [List.map_cons, List.map_cons] at h
   injection h with h1 h2
   rw [ih h2, ByteArray.ext (Array.toList_inj.1 h1)]
/-- One word more. -/
theorem parts_snoc (v s : ByteArray) (hs : ∀ c ∈ s.data.toList, c ≠ 32) : parts (v ++ (⟨#[32]⟩ ++ s)) = parts v ++ [s] := by
 apply data_inj
 rw [parts_spl, List.map_append, parts_spl]
 have e : (v ++ (⟨#[32]⟩ ++ s)).data.toList = v.data.toList ++ 32 :: s.data.toList := by simp [ByteArray.data_append]
 rw [e, spl_app, spl_no _ hs]
 rfl
theorem parts_one (s : ByteArray) (hs : ∀ c ∈ s.data.toList, c ≠ 32) : parts s = [s] := by
 apply data_inj
 rw [parts_spl, spl_no _ hs]
 rfl
theorem nm_blank {x : ByteArray} (h : isNm x = true) : ∀ c ∈ x.data.toList, c ≠ 32 := by
 intro c hc e
 unfold isNm at h
 rw [Bool.and_eq_true, List.all_eq_true] at h
 have := h.1 c hc
 rw [e] at this
 exact absurd this (by decide)
theorem parts_nmdS (names : List ByteArray) (hn : ∀ v ∈ names, isNm v = true) : ∀ (l : List Nat) (v : ByteArray), (∀ i ∈ l, i < names.length) → parts (nmd v names l) = parts v ++ l.map fun i => names.getD i ByteArray.empty
 | [], v, _ => by simp [nmd]
 | i :: l, v, hl => by
  have h1 : nmd v names (i :: l) = nmd (v ++ (⟨#[32]⟩ ++ names.getD i ByteArray.empty)) names l := rfl
  have hi := hl i (by simp)
  rw [h1, parts_nmdS names hn l _ fun j hj => hl j (by simp [hj]), parts_snoc _ _ (nm_blank (hn _ (by
   rw [List.getD_eq_getElem?_getD, List.getElem?_eq_getElem hi]
   exact List.getElem_mem hi)))]
  simp
/-- A word and names behind it read as these. -/
theorem parts_nmd (word : ByteArray) (hw : ∀ c ∈ word.data.toList, c ≠ 32) (names : List ByteArray) (hn : ∀ v ∈ names, isNm v = true) (l : List Nat) (hl : ∀ i ∈ l, i < names.length) : parts (nmd word names l) = word :: l.map fun i => names.getD i ByteArray.empty := by
 rw [parts_nmdS names hn l word hl, parts_one word hw]
 rfl
end Go.Proofs.YtflepjgcpdaodaaGreatDoor
/- Walks of state.ask and of Mint.Ask at any text, over a contract of the question that its word names. Conditions: the text is short of the shelf's bound; the library's variables stand. -/
namespace Go.Proofs.YtflepjgcpdaodaaGreatDoor
open Go.RowKit Go.Maps
/-- What a question replies: a text, and a number. -/
def AskC (k : FuncId) (s : Bk) (nm : List ByteArray) (nu : List Int) (q : ByteArray × Nat) : Prop :=
 ∀ (w : World) (G : Nat → Prop) (sb : Nat) (A : Option Addr) (c : Nat) (D : Option Addr) (d : Nat), StR w G sb s → Sl w A nm.length c (strV nm) → Sl w D nu.length d (intV nu) → EnvN w → Tab w →
  Calls Tryz.prog k #[.pointer (some ⟨sb, 0, none⟩), .agg #[.slice A nm.length c, .slice D nu.length d]] w fun r w' => r = .returned (.tuple #[.string q.1, .int .i64 (q.2 : Nat)]) ∧ Below w.heap.size w w'
/-- What ask hands back. -/
def AskR (w : World) (q : ByteArray × Nat) (r : Ending) (w' : World) : Prop := r = .returned (.tuple #[.string q.1, .int .i64 (q.2 : Nat)]) ∧ Below w.heap.size w w'
set_option maxRecDepth 100000 in
set_option maxHeartbeats 4000000 in
theorem askYes (r0 r1 : Nat) (k : FuncId) (hr : r0 + r1 ≤ 100) (G : Nat → Prop) (sb : Nat) (s : Bk) (x : ByteArray) (nm : List ByteArray) (nu : List Int) (q : ByteArray × Nat) (hs : x.size ≤ 100000000) (w : World) (hm : EnvN w) (hT : Tab w) (hst : StR w G sb s)
 (hf : asS questionsL (.string (wordOf x)) = some (.agg #[.int .i64 (r0 : Nat), .int .i64 (r1 : Nat), .nilFunc, .func (.func k) #[] #[]]))
 (he : ∀ args W, (callFunc k args).run Tryz.prog W = .ok (.enter k args) W) (hrd : readP r0 r1 (parts x).tail = some (nm, nu)) (hln : isLn x = true) (hk : AskC k s nm nu q) :
 Calls Tryz.prog 23 #[.pointer (some ⟨sb, 0, none⟩), .string x] w (AskR w q) := by
 unfold AskR
 have HC := hid (questionsF w)
 have HM := hid hm
 have HT := hid hT
 have HS := hid hst
 have HK := hid hk
 clear hm hT hst hk
 go_enter Tryz.func23, Tryz.ntmps23
 go_wp2_with fail
 refine (HC.out).mono ?_; rintro e w1 ⟨bm, rfl, hmap, hb, b1⟩
 have HB1 := hid b1
 have HF := hid (findQst bm (asS questionsL) x r0 r1 k hr hs w1 (HM.out.keep b1) hmap hf)
 rw [hrd, hln] at HF
 unfold FndP at HF
 simp only [Option.getD_some, Option.isSome_some, Bool.and_self] at HF
 clear hmap hb b1 HC hf hrd hln
 go_wp2_with fail
 refine (HF.out).mono ?_; rintro e w2 ⟨⟨A, c, D, d, rfl, ho, ho2⟩, b2⟩
 have HO := hid ho
 have HO2 := hid ho2
 have HB2 := hid (below_call HB1.out b2 HB1.out.size)
 clear ho ho2 b2 HF
 obtain ⟨na, hna⟩ : ∃ n, n = nm.length := ⟨_, rfl⟩
 obtain ⟨nd, hnd⟩ : ∃ n, n = nu.length := ⟨_, rfl⟩
 have HNA := hid hna
 have HND := hid hnd
 rw [← hna] at HO ⊢
 rw [← hnd] at HO2 ⊢
 clear hna hnd
 have b3 := (HB2.out.alloc HB2.out.size (.cells #[.int .i64 (r0 : Nat), .int .i64 (r1 : Nat), .nilFunc, .func (.func k) #[] #[]] 82)).alloc (by have := HB2.out.size; simp; omega) (.cells #[.slice A na c, .slice D nd d] 84)
 have HB3 := hid b3
 have HO3 := hid ((HO.out.alloc (.cells #[.int .i64 (r0 : Nat), .int .i64 (r1 : Nat), .nilFunc, .func (.func k) #[] #[]] 82)).alloc (.cells #[.slice A na c, .slice D nd d] 84))
 have HO4 := hid ((HO2.out.alloc (.cells #[.int .i64 (r0 : Nat), .int .i64 (r1 : Nat), .nilFunc, .func (.func k) #[] #[]] 82)).alloc (.cells #[.slice A na c, .slice D nd d] 84))
 have HRO := hid (HK.out _ G sb A c D d (HS.out.below b3) (by have := Sl.of_own HO3.out; rwa [← HNA.out]) (by have := Sl.of_own HO4.out; rwa [← HND.out]) (HM.out.keep b3) (HT.out.below b3))
 rw [← HNA.out, ← HND.out] at HRO
 clear b3 HO HO2
 go_wp2_with fail
 refine (HRO.out).mono ?_; rintro e w4 ⟨rfl, b4⟩
 have HB4 := hid (below_call HB3.out b4 HB3.out.size)
 clear b4
 go_wp2
 go_ret2
 exact ⟨rfl, HB4.out⟩
set_option maxRecDepth 100000 in
set_option maxHeartbeats 4000000 in
/-- Mint.Ask asks the state. -/
theorem mintAskF (R : Nat → Prop) (m : Nat) (d : Value) (L : List (Nat × Nat)) (k : Int) (s : Bk) (J : List ByteArray) (out : Bool) (x : ByteArray) (q : ByteArray × Nat) (w : World) (hm : MinM w R m d L k s J out)
 (hk : ∀ sb, StR w R sb s → Calls Tryz.prog 23 #[.pointer (some ⟨sb, 0, none⟩), .string x] w (AskR w q)) :
 Calls Tryz.prog 9 #[.pointer (some ⟨m, 0, none⟩), .string x] w (AskR w q) := by
 obtain ⟨sb, A, ca, h1, h2, h3, h4⟩ := hm.ex
 have HN := hid (mintNone m _ k sb _ out w h1)
 have HA := hid (hk sb h3)
 have c2 := h1.cell 2
 simp only [List.getElem?_toArray, List.getElem?_cons_zero, List.getElem?_cons_succ] at c2
 clear hm h1 h2 h3 h4 hk
 unfold AskR at HA ⊢
 go_enter Tryz.func9, Tryz.ntmps9
 go_wp2_with fail
 refine (HN.out).mono ?_; rintro e w' ⟨rfl, rfl⟩
 go_wp2_with fail
 refine (HA.out).mono ?_; rintro e w2 ⟨rfl, b2⟩
 have HB2 := hid b2
 clear b2
 go_wp2
 go_ret2
 exact ⟨rfl, HB2.out⟩
end Go.Proofs.YtflepjgcpdaodaaGreatDoor
/- Walks of a tournament's valid and all. Conditions: one to eight players; the list is a tournament. -/
namespace Go.Proofs.YtflepjgcpdaodaaGreatDoor
open Go.RowKit Go.Maps
attribute [local go_sem] Oper.semAt_some
attribute [local go_sem ↓] shl_p2 shr_v and_shr
set_option maxRecDepth 100000 in
set_option maxHeartbeats 4000000 in
theorem tourAll (A : Option Addr) (n c : Nat) (xs : List Value) (w : World) (hs : Sl w A n c xs) (h8 : n ≤ 8) :
 Calls Tryz.prog 27 #[.slice A n c] w fun e w' => e = .returned (.int .i64 (p2 n - 1)) ∧ w = w' := by
 have hcap := hs.cap
 have hcapm := hs.capm
 have fn : Fits (n : Int) := ⟨by omega, by omega⟩
 have hb := p2_bd fn.2
 have hp := p2_pos (n : Int)
 have hw : wrap64 (p2 n - 1) = p2 n - 1 := by unfold wrap64; omega
 clear hs
 go_enter Tryz.func27, Tryz.ntmps27
 go_wp2
 go_ret
 exact ⟨rfl, rfl⟩
set_option maxRecDepth 100000 in
set_option maxHeartbeats 4000000 in
theorem tourValid (A : Option Addr) (n c : Nat) (b : Nat → Nat → Bool) (w : World) (hs : Sl w A n c (intV (ordL n b))) (hb : TourOk n b) (h1 : 1 ≤ n) (h8 : n ≤ 8) :
 Calls Tryz.prog 24 #[.slice A n c] w fun e w' => e = .returned (.bool true) ∧ Below w.heap.size w w' := by
 have hcap := hs.cap
 have hcapm := hs.capm
 obtain ⟨ab, ao, rfl, lb, hca⟩ := hs.pos (by omega)
 have HCA := hid fun (k : Nat) (hk : k < n) => hca k _ (intV_ordL (a := b) hk)
 have HTB := hid hb
 have HN := hid (And.intro h1 h8)
 have fn : Fits (n : Int) := ⟨by omega, by omega⟩
 have g1 : decide ((n : Int) < 1) = false := decide_eq_false (by omega)
 have g2 : decide ((8 : Int) < (n : Int)) = false := decide_eq_false (by omega)
 have g3 : decide (n < 1) = false := decide_eq_false (by omega)
 have g4 : decide (8 < n) = false := decide_eq_false (by omega)
 have HB0 := hid (Below.refl w.heap.size w)
 clear hs hb hca
 go_enter Tryz.func24, Tryz.ntmps24
 go_wp2
 clear g1 g2 g3 g4
 go_loopg [17] n (fun gk i wr => ∃ k : Nat, gk + k = n ∧ i = .int .i64 k ∧ Hid (Below w.heap.size w wr))
 case atStart => exact ⟨0, by omega, rfl, HB0⟩
 case round =>
  clear HB0
  obtain ⟨k, hk, rfl, HB⟩ := hrel
  have HK := hid hk
  by_cases hlt : k < n
  · have HLT := hid hlt
    have ck := cell_keep HB.out (HCA.out k hlt)
    have hs0 := (mk_bd (n := n) (by omega) (b k)).1
    have hs1 := mk_lt (n := n) (b k)
    have hs2 : bitV (mk n (b k)) k = 0 := by rw [bitV_if, mk_bitB (b k) hlt, HTB.out.1 k hlt]; rfl
    have HBK := hid fun (j : Nat) (hj : j < n) => show bitV (mk n (b k)) j = if b k j then 1 else 0 from by rw [bitV_if, mk_bitB (b k) hj]
    have fk : Fits (k : Int) := ⟨by omega, by omega⟩
    generalize mk n (b k) = s at *
    have q1 : decide (s < 0) = false := decide_eq_false (by omega)
    have q2 : decide (p2 n ≤ s) = false := decide_eq_false (by omega)
    have q3 : (bitV s (k : Int) == 1) = false := by rw [hs2]; rfl
    clear hk
    go_wp2
    clear q1 q2 q3 hs2
    go_loopg [38] k (fun gk i wr => ∃ j : Nat, gk + j = k ∧ i = .int .i64 j ∧ Hid (Below w.heap.size w wr))
    case atStart => exact ⟨0, by omega, rfl, HB⟩
    case round =>
     clear HB
     obtain ⟨j, hj, rfl, HB⟩ := hrel
     have HJ := hid hj
     by_cases hlj : j < k
     · have HLJ := hid hlj
       have hjn : j < n := by omega
       have cj := cell_keep HB.out (HCA.out j hjn)
       have fj : Fits (j : Int) := ⟨by omega, by omega⟩
       have e1 := HBK.out j hjn
       have e2 : bitV (mk n (b j)) k = if b j k then 1 else 0 := by rw [bitV_if, mk_bitB (b j) hlt]
       have e3 := HTB.out.2 k j hlt hjn (by omega)
       generalize mk n (b j) = s2 at *
       have q4 : (bitV s (j : Int) == bitV s2 (k : Int)) = false := by
        rw [e1, e2, e3]
        cases b j k <;> rfl
       clear hj e1 e2 e3
       go_wp2
       go_region
       all_goals go_wp2
       all_goals go_roundg (k - (j + 1))
       case measure => have := HJ.out; have := HLJ.out; omega
       case rel => exact ⟨j + 1, by have := HJ.out; have := HLJ.out; omega, by go_num, hid HB.out.drew⟩
     · have hge : decide ((j : Int) < (k : Int)) = false := decide_eq_false (by omega)
       have hge2 : decide (j < k) = false := decide_eq_false hlj
       clear hj hlj
       go_wp2
       go_roundg (n - (k + 1))
       case measure => have := HK.out; have := HLT.out; omega
       case rel => exact ⟨k + 1, by have := HK.out; have := HLT.out; omega, by go_num, HB⟩
  · obtain rfl : k = n := by have := HK.out; omega
    clear hk hlt
    go_wp2
    go_ret
    exact ⟨rfl, HB.out⟩
end Go.Proofs.YtflepjgcpdaodaaGreatDoor
