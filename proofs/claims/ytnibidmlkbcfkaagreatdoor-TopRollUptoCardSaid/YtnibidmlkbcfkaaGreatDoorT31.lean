/- Texts of this proof, one behind the other; each says its condition at its head. -/
import Derived.Test.YtnibidmlkbcfkaaGreatDoorT30
import Derived.Test.YtnibidmlkbcfkaaGreatDoorT25
import Derived.Test.YtnibidmlkbcfkaaGreatDoorT23
import Derived.Test.YtnibidmlkbcfkaaGreatDoorT10
import Derived.Test.YtnibidmlkbcfkaaGreatDoorT27
import Derived.Test.YtnibidmlkbcfkaaGreatDoorT26
import Derived.Laws.Bits64
import Derived.Laws.Bits64b
import Derived.Test.YtnibidmlkbcfkaaGreatDoorT5
import Derived.Deep.AppendLies
import Derived.Deep.RegionHeld3
import Derived.Deep.CutRange
import Derived.Test.YtnibidmlkbcfkaaGreatDoorT2
import Derived.Laws.MakeOwn
import Derived.Test.YtnibidmlkbcfkaaGreatDoorT14
namespace Go.Proofs.YtnibidmlkbcfkaaGreatDoor
/- What a line that was done is: its word, and what stands behind it. No condition. -/
section
open Go.RowKit Go.Maps
/-- A line's first part is its word. -/
theorem parts_head (x : ByteArray) : parts x = wordOf x :: (parts x).tail := by
 have key : ∃ t, parts x = wordOf x :: t := by
  unfold parts
  rcases Lib.indexB_cases x ⟨#[32]⟩ with hix | ⟨i, hix, hroom⟩
  · rw [Lib.splitB_miss _ _ _ _ hix]
    refine ⟨[], ?_⟩
    congr 1
    unfold wordOf Lib.cut
    have h1 : Lib.index x.data.toList [32] = -1 := hix
    rw [h1, if_neg (by omega)]
  · have hc : ∃ k, Lib.countB x ⟨#[32]⟩ = k + 1 := by
     have h1 : Lib.index x.data.toList (ByteArray.mk #[32]).data.toList = i := hix
     unfold Lib.countB Lib.count Lib.countFrom
     rw [h1, if_neg (by rw [beq_iff_eq]; omega)]
     exact ⟨_, Nat.add_comm _ _⟩
    obtain ⟨k, hk⟩ := hc
    rw [hk, Lib.splitB_hit _ _ _ _ i hix]
    refine ⟨Lib.splitB ⟨#[32]⟩ 0 k (x.extract (i + (ByteArray.mk #[32]).size) x.size), ?_⟩
    congr 1
    apply ByteArray.ext
    apply Array.toList_inj.1
    rw [Nat.add_zero, Lib.extract_from_zero]
    unfold wordOf Lib.cut
    have h1 : Lib.index x.data.toList [32] = i := hix
    rw [h1, if_pos (by omega), Int.toNat_natCast]
 obtain ⟨t, h⟩ := key
 rw [h, List.tail_cons]
theorem lineL_tail {r0 r1 : Nat} {x : ByteArray} {nm : List ByteArray} {nu : List Int} (h : lineL r0 r1 x = some (nm, nu)) : nm = (parts x).tail.take r0 ∧ nu = ((parts x).tail.drop r0).map numV ∧ (parts x).tail.length = r0 + r1 ∧ (∀ v ∈ nm, isNm v = true) ∧ ∀ v ∈ (parts x).tail.drop r0, (numOf v).isSome = true := by
 unfold lineL at h
 split at h
 · unfold readP at h
   split at h
   · rename_i hc
     cases h
     exact ⟨rfl, rfl, hc.1, fun v hv => List.all_eq_true.1 hc.2.1 v hv, fun v hv => List.all_eq_true.1 hc.2.2 v hv⟩
   · cases h
 · cases h
/-- What a line that was done is. -/
inductive KindL (s : Bk) (x : ByteArray) : Bk → Prop
 | medal (v : ByteArray) : (wordOf x).data.toList = [109, 101, 100, 97, 108] → lineL 1 0 x = some ([v], []) → (medalL s v).2 = 0 → KindL s x (medalL s v).1
 | above (v k : ByteArray) : (wordOf x).data.toList = [97, 98, 111, 118, 101] → lineL 2 0 x = some ([v, k], []) → (rankL s v k).2 = 0 → KindL s x (rankL s v k).1
 | player (v : ByteArray) : (wordOf x).data.toList = [112, 108, 97, 121, 101, 114] → lineL 1 0 x = some ([v], []) → (playerL s v).2 = 0 → KindL s x (playerL s v).1
 | beat (v k : ByteArray) : (wordOf x).data.toList = [98, 101, 97, 116] → lineL 2 0 x = some ([v, k], []) → (beatL s v k).2 = 0 → KindL s x (beatL s v k).1
 | batch (a b c d : Int) : (wordOf x).data.toList = [98, 97, 116, 99, 104] → lineL 0 4 x = some ([], [a, b, c, d]) → (layL s a b c d).2 = 0 → KindL s x (layL s a b c d).1
 | pan (a b c d : Int) : (wordOf x).data.toList = [112, 97, 110] → lineL 0 4 x = some ([], [a, b, c, d]) → (panL s a b c d).2 = 0 → KindL s x (panL s a b c d).1
 | bet (v k : Int) : (wordOf x).data.toList = [98, 101, 116] → lineL 0 2 x = some ([], [v, k]) → (betL s v k).2 = 0 → KindL s x (betL s v k).1
theorem lineL_len {r0 r1 : Nat} {x : ByteArray} {nm : List ByteArray} {nu : List Int} (h : lineL r0 r1 x = some (nm, nu)) : nm.length = r0 ∧ nu.length = r1 := by
 obtain ⟨h1, h2, h3, _⟩ := lineL_tail h
 rw [h1, h2, List.length_take, List.length_map, List.length_drop]
 omega
theorem kindL {s : Bk} {x : ByteArray} (h : (doL s x).2 = 0) : KindL s x (doL s x).1 := by
 unfold doL at h ⊢
 split
 · rename_i e0
   rw [if_pos e0] at h
   split
   · rename_i nm v k hl
     obtain rfl := List.eq_nil_of_length_eq_zero (lineL_len hl).1
     rw [hl] at h
     exact .bet _ _ e0 hl h
   · rename_i hl
     split at h
     · rename_i a1 a2 a3 hx
       exact absurd hx (hl _ _ _)
     · cases h
 rename_i e0
 rw [if_neg e0] at h
 split
 · rename_i e1
   rw [if_pos e1] at h
   split
   · rename_i nm v k z u hl
     obtain rfl := List.eq_nil_of_length_eq_zero (lineL_len hl).1
     rw [hl] at h
     exact .pan _ _ _ _ e1 hl h
   · rename_i hl
     split at h
     · rename_i a1 a2 a3 a4 a5 hx
       exact absurd hx (hl _ _ _ _ _)
     · cases h
 rename_i e1
 rw [if_neg e1] at h
 split
 · rename_i e2
   rw [if_pos e2] at h
   split
   · rename_i nm v k z u hl
     obtain rfl := List.eq_nil_of_length_eq_zero (lineL_len hl).1
     rw [hl] at h
     exact .batch _ _ _ _ e2 hl h
   · rename_i hl
     split at h
     · rename_i a1 a2 a3 a4 a5 hx
       exact absurd hx (hl _ _ _ _ _)
     · cases h
 rename_i e2
 rw [if_neg e2] at h
 split
 · rename_i e3
   rw [if_pos e3] at h
   split
   · rename_i v k nu hl
     obtain rfl := List.eq_nil_of_length_eq_zero (lineL_len hl).2
     rw [hl] at h
     exact .beat _ _ e3 hl h
   · rename_i hl
     split at h
     · rename_i a1 a2 a3 hx
       exact absurd hx (hl _ _ _)
     · cases h
 rename_i e3
 rw [if_neg e3] at h
 split
 · rename_i e4
   rw [if_pos e4] at h
   split
   · rename_i v nu hl
     obtain rfl := List.eq_nil_of_length_eq_zero (lineL_len hl).2
     rw [hl] at h
     exact .player _ e4 hl h
   · rename_i hl
     split at h
     · rename_i a1 a2 hx
       exact absurd hx (hl _ _)
     · cases h
 rename_i e4
 rw [if_neg e4] at h
 split
 · rename_i e5
   rw [if_pos e5] at h
   split
   · rename_i v k nu hl
     obtain rfl := List.eq_nil_of_length_eq_zero (lineL_len hl).2
     rw [hl] at h
     exact .above _ _ e5 hl h
   · rename_i hl
     split at h
     · rename_i a1 a2 a3 hx
       exact absurd hx (hl _ _ _)
     · cases h
 rename_i e5
 rw [if_neg e5] at h
 split
 · rename_i e6
   rw [if_pos e6] at h
   split
   · rename_i v nu hl
     obtain rfl := List.eq_nil_of_length_eq_zero (lineL_len hl).2
     rw [hl] at h
     exact .medal _ e6 hl h
   · rename_i hl
     split at h
     · rename_i a1 a2 hx
       exact absurd hx (hl _ _)
     · cases h
 rename_i e6
 rw [if_neg e6] at h
 cases h
end
/- What a mint's names keep: names of small letters, each once; and the books along a journal. No condition. -/
section
open Go.RowKit Go.Maps
/-- A mint's names. -/
structure NmI (s : Bk) : Prop where
 pl : ∀ v ∈ s.players, isNm v = true
 pd : s.players.Nodup
 md : ∀ v ∈ s.medals, isNm v = true
 mn : s.medals.Nodup
theorem enter_nm {l : List ByteArray} {x : ByteArray} {k : Nat} (h : ∀ v ∈ l, isNm v = true) (hn : l.Nodup) (hx : isNm x = true) : (∀ v ∈ (enterL l x k).1, isNm v = true) ∧ (enterL l x k).1.Nodup := by
 unfold enterL
 split
 · exact ⟨h, hn⟩
 · rename_i hx2
   split
   · exact ⟨h, hn⟩
   · refine ⟨fun v hv => ?_, ?_⟩
     · rcases List.mem_append.1 hv with e | e
       · exact h v e
       · rw [List.mem_singleton.1 e]; exact hx
     · rw [List.nodup_append]
       refine ⟨hn, by simp, fun a ha b hb e => ?_⟩
       rw [List.mem_singleton] at hb
       subst e hb
       exact hx2 ha
theorem players_other {s s' : Bk} {x : ByteArray} (h : KindL s x s') : (∃ v, isNm v = true ∧ s' = (playerL s v).1) ∨ s'.players = s.players := by
 cases h with
 | medal v h1 h2 h3 => right; unfold medalL; split <;> rfl
 | above v k h1 h2 h3 => right; unfold rankL; split <;> first | (split <;> rfl) | rfl
 | player v h1 h2 h3 => left; exact ⟨v, (lineL_tail h2).2.2.2.1 v (by simp), rfl⟩
 | beat v k h1 h2 h3 => right; unfold beatL; split <;> first | (split <;> rfl) | rfl
 | batch a b c d h1 h2 h3 => right; unfold layL; split <;> rfl
 | pan a b c d h1 h2 h3 => right; unfold panL; split <;> rfl
 | bet v k h1 h2 h3 => right; unfold betL; split <;> first | rfl | (split <;> first | rfl | (split <;> rfl))
theorem medals_other {s s' : Bk} {x : ByteArray} (h : KindL s x s') : (∃ v, isNm v = true ∧ s' = (medalL s v).1) ∨ s'.medals = s.medals := by
 cases h with
 | medal v h1 h2 h3 => left; exact ⟨v, (lineL_tail h2).2.2.2.1 v (by simp), rfl⟩
 | above v k h1 h2 h3 => right; unfold rankL; split <;> first | (split <;> rfl) | rfl
 | player v h1 h2 h3 => right; unfold playerL; split <;> rfl
 | beat v k h1 h2 h3 => right; unfold beatL; split <;> first | (split <;> rfl) | rfl
 | batch a b c d h1 h2 h3 => right; unfold layL; split <;> rfl
 | pan a b c d h1 h2 h3 => right; unfold panL; split <;> rfl
 | bet v k h1 h2 h3 => right; unfold betL; split <;> first | rfl | (split <;> first | rfl | (split <;> rfl))
theorem NmI.kind {s s' : Bk} {x : ByteArray} (h : NmI s) (hk : KindL s x s') : NmI s' := by
 have h1 : (∀ v ∈ s'.players, isNm v = true) ∧ s'.players.Nodup := by
  rcases players_other hk with ⟨v, hv, rfl⟩ | e
  · unfold playerL
    split
    · exact enter_nm h.pl h.pd hv
    · exact ⟨h.pl, h.pd⟩
  · rw [e]; exact ⟨h.pl, h.pd⟩
 have h2 : (∀ v ∈ s'.medals, isNm v = true) ∧ s'.medals.Nodup := by
  rcases medals_other hk with ⟨v, hv, rfl⟩ | e
  · unfold medalL
    split
    · exact enter_nm h.md h.mn hv
    · exact ⟨h.md, h.mn⟩
  · rw [e]; exact ⟨h.md, h.mn⟩
 exact ⟨h1.1, h1.2, h2.1, h2.2⟩
/-- All that a mint's books keep. -/
structure BkT (s : Bk) : Prop where
 bk : BkI s
 tr : TourI s.beats
 nm : NmI s
theorem BkT.begin : BkT bk0 := ⟨BkI.begin, TourI.nil, ⟨by simp [bk0], by simp [bk0], by simp [bk0], by simp [bk0]⟩⟩
theorem BkT.step {s s' : Bk} {x : ByteArray} (h : BkT s) (hs : stepL s x = some s') : BkT s' ∧ KindL s x s' := by
 unfold stepL at hs
 split at hs
 · rename_i h0
   cases hs
   have hk := kindL h0
   exact ⟨⟨h.bk.doL x, h.tr.doL h.bk x, h.nm.kind hk⟩, hk⟩
 · cases hs
/-- The books along a journal. -/
theorem run_at : ∀ (J : List ByteArray) (s0 s : Bk), BkT s0 → runL stepL s0 J = some s → BkT s ∧ ∃ f : Nat → Bk, f 0 = s0 ∧ f J.length = s ∧ ∀ k x, J[k]? = some x → BkT (f k) ∧ KindL (f k) x (f (k + 1))
 | [], s0, s, h0, h => by
  have h : some s0 = some s := h
  cases h
  exact ⟨h0, fun _ => s0, rfl, rfl, fun k x hx => by simp at hx⟩
 | y :: J, s0, s, h0, h => by
  cases hy : stepL s0 y with
  | none => rw [runL, hy] at h; cases h
  | some s1 =>
   rw [runL, hy] at h
   obtain ⟨h1, hk⟩ := h0.step hy
   obtain ⟨h2, f, f0, fl, hf⟩ := run_at J s1 s h1 h
   refine ⟨h2, fun k => match k with | 0 => s0 | k + 1 => f k, rfl, fl, fun k x hx => ?_⟩
   cases k with
   | zero =>
    simp only [List.getElem?_cons_zero, Option.some.injEq] at hx
    subst hx
    exact ⟨h0, by show KindL s0 y (f 0); rw [f0]; exact hk⟩
   | succ k => exact hf k x (by simpa using hx)
end
/- Texts cut at blanks: what a line of words reads as. No condition. -/
section
open Go.RowKit Go.Maps
/-- A text cut at its blanks. -/
def spl : List UInt8 → List (List UInt8)
 | [] => [[]]
 | c :: r => if c = 32 then [] :: spl r else (match spl r with
  | h :: t => (c :: h) :: t
  | [] => [[c]])
theorem spl_cons (c : UInt8) (r : List UInt8) : spl (c :: r) = if c = 32 then [] :: spl r else (match spl r with
 | h :: t => (c :: h) :: t
 | [] => [[c]]) := rfl
theorem spl_ne : ∀ s, spl s ≠ []
 | [] => by simp [spl]
 | c :: r => by
  unfold spl
  split
  · simp
  · split <;> simp
theorem spl_hd (s : List UInt8) : ∃ h t, spl s = h :: t := by
 cases h : spl s with
 | nil => exact absurd h (spl_ne s)
 | cons a b => exact ⟨a, b, rfl⟩
theorem splitK_spl : ∀ s : List UInt8, Lib.splitK [32] 0 (Lib.count s [32]) s = spl s
 | [] => by
  rw [Lib.count_miss (by simp [Lib.index])]
  rfl
 | c :: r => by
  by_cases hc : c = 32
  · subst hc
    have hix : Lib.index (32 :: r) [32] = ((0 : Nat) : Int) := by rw [Lib.index]; simp [List.isPrefixOf]
    rw [Lib.count_cons_eq, Nat.add_comm, Lib.splitK, hix, if_neg (by simp)]
    simp only [Int.toNat_natCast, Nat.add_zero, List.take_zero, Nat.zero_add, List.length_singleton, List.drop_succ_cons, List.drop_zero]
    rw [splitK_spl r]
    simp [spl]
  · have hp : ([32] : List UInt8).isPrefixOf (c :: r) = false := by simp [List.isPrefixOf, Ne.symm hc]
    have hix : Lib.index (c :: r) [32] = if Lib.index r [32] == -1 then -1 else Lib.index r [32] + 1 := by rw [Lib.index, hp]; simp
    have ih := splitK_spl r
    rw [Lib.count_cons_ne c 32 r hc]
    by_cases hm : Lib.index r [32] = -1
    · rw [Lib.count_miss hm] at ih ⊢
      have e : spl r = [r] := ih.symm
      have e2 : spl (c :: r) = [c :: r] := by unfold spl; rw [if_neg hc, e]
      rw [e2]
      rfl
    · have hge := Lib.index_ge r [32]
      obtain ⟨j, hj⟩ : ∃ j : Nat, Lib.index r [32] = j := ⟨(Lib.index r [32]).toNat, by omega⟩
      have hix2 : Lib.index (c :: r) [32] = ((j + 1 : Nat) : Int) := by rw [hix, if_neg (fun e => hm (beq_iff_eq.1 e)), hj]; omega
      rw [Lib.count_hit (by simp) hj, Nat.add_comm] at ih ⊢
      rw [Lib.splitK, hj, if_neg (by rw [beq_iff_eq]; omega)] at ih
      rw [Lib.splitK, hix2, if_neg (by rw [beq_iff_eq]; omega)]
      simp only [Int.toNat_natCast, Nat.add_zero, List.length_singleton] at ih ⊢
      have e2 : spl (c :: r) = (c :: r.take j) :: Lib.splitK [32] 0 (Lib.count (r.drop (j + 1)) [32]) (r.drop (j + 1)) := by unfold spl; rw [if_neg hc, ← ih]
      rw [e2]
      rfl
theorem parts_spl (x : ByteArray) : (parts x).map (fun v => v.data.toList) = spl x.data.toList := by
 unfold parts
 rw [Lib.splitB_data]
 exact splitK_spl x.data.toList
theorem spl_app : ∀ (u v : List UInt8), spl (u ++ 32 :: v) = spl u ++ spl v
 | [], v => by simp [spl]
 | c :: u, v => by
  rw [List.cons_append]
  obtain ⟨h, t, e⟩ := spl_hd u
  have ih := spl_app u v
  rw [e] at ih
  rw [spl_cons, spl_cons]
  by_cases hc : c = 32
  · rw [if_pos hc, if_pos hc, ih, e]; rfl
  · rw [if_neg hc, if_neg hc, ih, e]; rfl
theorem spl_no : ∀ v : List UInt8, (∀ c ∈ v, c ≠ 32) → spl v = [v]
 | [], _ => rfl
 | c :: v, h => by
  have ih := spl_no v fun x hx => h x (by simp [hx])
  unfold spl
  rw [if_neg (h c (by simp)), ih]
theorem data_inj {a b : List ByteArray} (h : a.map (fun v => v.data.toList) = b.map (fun v => v.data.toList)) : a = b := by
 induction a generalizing b with
 | nil => cases b with
  | nil => rfl
  | cons x b => simp at h
 | cons y a ih =>
  cases b with
  | nil => simp at h
  | cons x b =>
   rw [List.map_cons, List.map_cons] at h
   injection h with h1 h2
   rw [ih h2, ByteArray.ext (Array.toList_inj.1 h1)]
/-- One word more. -/
theorem parts_snoc (v s : ByteArray) (hs : ∀ c ∈ s.data.toList, c ≠ 32) : parts (v ++ (⟨#[32]⟩ ++ s)) = parts v ++ [s] := by
 apply data_inj
 rw [parts_spl, List.map_append, parts_spl]
 have e : (v ++ (⟨#[32]⟩ ++ s)).data.toList = v.data.toList ++ 32 :: s.data.toList := by simp [ByteArray.data_append]
 rw [e, spl_app, spl_no _ hs]
 rfl
theorem parts_one (s : ByteArray) (hs : ∀ c ∈ s.data.toList, c ≠ 32) : parts s = [s] := by
 apply data_inj
 rw [parts_spl, spl_no _ hs]
 rfl
theorem nm_blank {x : ByteArray} (h : isNm x = true) : ∀ c ∈ x.data.toList, c ≠ 32 := by
 intro c hc e
 unfold isNm at h
 rw [Bool.and_eq_true, List.all_eq_true] at h
 have := h.1 c hc
 rw [e] at this
 exact absurd this (by decide)
theorem parts_nmdS (names : List ByteArray) (hn : ∀ v ∈ names, isNm v = true) : ∀ (l : List Nat) (v : ByteArray), (∀ i ∈ l, i < names.length) → parts (nmd v names l) = parts v ++ l.map fun i => names.getD i ByteArray.empty
 | [], v, _ => by simp [nmd]
 | i :: l, v, hl => by
  have h1 : nmd v names (i :: l) = nmd (v ++ (⟨#[32]⟩ ++ names.getD i ByteArray.empty)) names l := rfl
  have hi := hl i (by simp)
  rw [h1, parts_nmdS names hn l _ fun j hj => hl j (by simp [hj]), parts_snoc _ _ (nm_blank (hn _ (by
   rw [List.getD_eq_getElem?_getD, List.getElem?_eq_getElem hi]
   exact List.getElem_mem hi)))]
  simp
/-- A word and names behind it read as these. -/
theorem parts_nmd (word : ByteArray) (hw : ∀ c ∈ word.data.toList, c ≠ 32) (names : List ByteArray) (hn : ∀ v ∈ names, isNm v = true) (l : List Nat) (hl : ∀ i ∈ l, i < names.length) : parts (nmd word names l) = word :: l.map fun i => names.getD i ByteArray.empty := by
 rw [parts_nmdS names hn l word hl, parts_one word hw]
 rfl
end
/- What a line that was done is: its size, its words. No condition. -/
section
open Go.RowKit Go.Maps
theorem lineL_size {r0 r1 : Nat} {x : ByteArray} {nm : List ByteArray} {nu : List Int} (h : lineL r0 r1 x = some (nm, nu)) : x.size ≤ 60 := by
 unfold lineL at h
 split at h
 · rename_i hc
   rw [Bool.and_eq_true] at hc
   have := hc.2
   unfold isLn at this
   simp only [Bool.and_eq_true, decide_eq_true_eq] at this
   omega
 · cases h
theorem kind_size {s s' : Bk} {x : ByteArray} (h : KindL s x s') : x.size ≤ 60 := by
 cases h with
 | medal v h1 h2 h3 => exact lineL_size h2
 | above v k h1 h2 h3 => exact lineL_size h2
 | player v h1 h2 h3 => exact lineL_size h2
 | beat v k h1 h2 h3 => exact lineL_size h2
 | batch a b c d h1 h2 h3 => exact lineL_size h2
 | pan a b c d h1 h2 h3 => exact lineL_size h2
 | bet v k h1 h2 h3 => exact lineL_size h2
theorem word_is {x : ByteArray} {l : List UInt8} {w : ByteArray} (h : (wordOf x).data.toList = l) (e : w.data.toList = l) : wordOf x = w := ByteArray.ext (Array.toList_inj.1 (h.trans e.symm))
theorem word_no {x : ByteArray} {l : List UInt8} {w : ByteArray} (h : (wordOf x).data.toList = l) (e : w.data.toList ≠ l) : wordOf x ≠ w := fun hw => e (by rw [← hw]; exact h)
theorem lineL_parts {r0 r1 : Nat} {x : ByteArray} {nm : List ByteArray} {nu : List Int} (h : lineL r0 r1 x = some (nm, nu)) (h0 : r1 = 0) : parts x = wordOf x :: nm := by
 obtain ⟨h1, _, h3, _⟩ := lineL_tail h
 rw [parts_head x]
 subst h0
 rw [h1, List.take_of_length_le (by omega)]
end
/- Walks of state.ask and of Mint.Ask at any text, over a contract of the question that its word names. Conditions: the text is short of the shelf's bound; the library's variables stand. -/
section
open Go.RowKit Go.Maps
/-- What a question replies: a text, and a number. -/
def AskC (k : FuncId) (s : Bk) (nm : List ByteArray) (nu : List Int) (q : ByteArray × Nat) : Prop :=
 ∀ (w : World) (G : Nat → Prop) (sb : Nat) (A : Option Addr) (c : Nat) (D : Option Addr) (d : Nat), StR w G sb s → Sl w A nm.length c (strV nm) → Sl w D nu.length d (intV nu) → EnvN w → Tab w →
  Calls Tryz.prog k #[.pointer (some ⟨sb, 0, none⟩), .agg #[.slice A nm.length c, .slice D nu.length d]] w fun r w' => r = .returned (.tuple #[.string q.1, .int .i64 (q.2 : Nat)]) ∧ Below w.heap.size w w'
/-- What ask hands back. -/
def AskR (w : World) (q : ByteArray × Nat) (r : Ending) (w' : World) : Prop := r = .returned (.tuple #[.string q.1, .int .i64 (q.2 : Nat)]) ∧ Below w.heap.size w w'
set_option maxRecDepth 100000 in
set_option maxHeartbeats 4000000 in
theorem askYes (r0 r1 : Nat) (k : FuncId) (hr : r0 + r1 ≤ 100) (G : Nat → Prop) (sb : Nat) (s : Bk) (x : ByteArray) (nm : List ByteArray) (nu : List Int) (q : ByteArray × Nat) (hs : x.size ≤ 100000000) (w : World) (hm : EnvN w) (hT : Tab w) (hst : StR w G sb s)
 (hf : asS questionsL (.string (wordOf x)) = some (.agg #[.int .i64 (r0 : Nat), .int .i64 (r1 : Nat), .nilFunc, .func (.func k) #[] #[]]))
 (he : ∀ args W, (callFunc k args).run Tryz.prog W = .ok (.enter k args) W) (hrd : readP r0 r1 (parts x).tail = some (nm, nu)) (hln : isLn x = true) (hk : AskC k s nm nu q) :
 Calls Tryz.prog 36 #[.pointer (some ⟨sb, 0, none⟩), .string x] w (AskR w q) := by
 unfold AskR
 have HC := hid (questionsF w)
 have HM := hid hm
 have HT := hid hT
 have HS := hid hst
 have HK := hid hk
 clear hm hT hst hk
 go_enter Tryz.func36, Tryz.ntmps36
 go_wp2_with fail
 refine (HC.out).mono ?_; rintro e w1 ⟨bm, rfl, hmap, hb, b1⟩
 have HB1 := hid b1
 have HF := hid (findQst bm (asS questionsL) x r0 r1 k hr hs w1 (HM.out.keep b1) hmap hf)
 rw [hrd, hln] at HF
 unfold FndP at HF
 simp only [Option.getD_some, Option.isSome_some, Bool.and_self] at HF
 clear hmap hb b1 HC hf hrd hln
 go_wp2_with fail
 refine (HF.out).mono ?_; rintro e w2 ⟨⟨A, c, D, d, rfl, ho, ho2⟩, b2⟩
 have HO := hid ho
 have HO2 := hid ho2
 have HB2 := hid (below_call HB1.out b2 HB1.out.size)
 clear ho ho2 b2 HF
 obtain ⟨na, hna⟩ : ∃ n, n = nm.length := ⟨_, rfl⟩
 obtain ⟨nd, hnd⟩ : ∃ n, n = nu.length := ⟨_, rfl⟩
 have HNA := hid hna
 have HND := hid hnd
 rw [← hna] at HO ⊢
 rw [← hnd] at HO2 ⊢
 clear hna hnd
 have b3 := (HB2.out.alloc HB2.out.size (.cells #[.int .i64 (r0 : Nat), .int .i64 (r1 : Nat), .nilFunc, .func (.func k) #[] #[]] 122)).alloc (by have := HB2.out.size; simp; omega) (.cells #[.slice A na c, .slice D nd d] 124)
 have HB3 := hid b3
 have HO3 := hid ((HO.out.alloc (.cells #[.int .i64 (r0 : Nat), .int .i64 (r1 : Nat), .nilFunc, .func (.func k) #[] #[]] 122)).alloc (.cells #[.slice A na c, .slice D nd d] 124))
 have HO4 := hid ((HO2.out.alloc (.cells #[.int .i64 (r0 : Nat), .int .i64 (r1 : Nat), .nilFunc, .func (.func k) #[] #[]] 122)).alloc (.cells #[.slice A na c, .slice D nd d] 124))
 have HRO := hid (HK.out _ G sb A c D d (HS.out.below b3) (by have := Sl.of_own HO3.out; rwa [← HNA.out]) (by have := Sl.of_own HO4.out; rwa [← HND.out]) (HM.out.keep b3) (HT.out.below b3))
 rw [← HNA.out, ← HND.out] at HRO
 clear b3 HO HO2
 go_wp2_with fail
 refine (HRO.out).mono ?_; rintro e w4 ⟨rfl, b4⟩
 have HB4 := hid (below_call HB3.out b4 HB3.out.size)
 clear b4
 go_wp2
 go_ret2
 exact ⟨rfl, HB4.out⟩
set_option maxRecDepth 100000 in
set_option maxHeartbeats 4000000 in
/-- Mint.Ask asks the state. -/
theorem mintAskF (R : Nat → Prop) (m : Nat) (d : Value) (L : List (Nat × Nat)) (k : Int) (s : Bk) (J : List ByteArray) (out : Bool) (x : ByteArray) (q : ByteArray × Nat) (w : World) (hm : MinM w R m d L k s J out)
 (hk : ∀ sb, StR w R sb s → Calls Tryz.prog 36 #[.pointer (some ⟨sb, 0, none⟩), .string x] w (AskR w q)) :
 Calls Tryz.prog 11 #[.pointer (some ⟨m, 0, none⟩), .string x] w (AskR w q) := by
 obtain ⟨sb, A, ca, h1, h2, h3, h4⟩ := hm.ex
 have HN := hid (mintNone m _ k sb _ out w h1)
 have HA := hid (hk sb h3)
 have c2 := h1.cell 2
 simp only [List.getElem?_toArray, List.getElem?_cons_zero, List.getElem?_cons_succ] at c2
 clear hm h1 h2 h3 h4 hk
 unfold AskR at HA ⊢
 go_enter Tryz.func11, Tryz.ntmps11
 go_wp2_with fail
 refine (HN.out).mono ?_; rintro e w' ⟨rfl, rfl⟩
 go_wp2_with fail
 refine (HA.out).mono ?_; rintro e w2 ⟨rfl, b2⟩
 have HB2 := hid b2
 clear b2
 go_wp2
 go_ret2
 exact ⟨rfl, HB2.out⟩
end
/- Walks of a tournament's valid and all. Conditions: one to eight players; the list is a tournament. -/
section
open Go.RowKit Go.Maps
attribute [local go_sem] Oper.semAt_some
attribute [local go_sem ↓] shl_p2 shr_v and_shr
end
/- Plain law of the best order of a tournament, and of its kings. No condition. -/
section
open Go.RowKit Go.Maps
/-- How many below n. -/
def onesN : Nat → (Nat → Bool) → Nat
 | 0, _ => 0
 | n+1, f => onesN n f + (if f n then 1 else 0)
theorem onesN_congr {n : Nat} {f g : Nat → Bool} (h : ∀ i, i < n → f i = g i) : onesN n f = onesN n g := by
 induction n with
 | zero => rfl
 | succ n ih =>
  unfold onesN
  rw [ih fun i hi => h i (by omega), h n (by omega)]
theorem onesN_le (f : Nat → Bool) : ∀ n, onesN n f ≤ n := by
 intro n
 induction n with
 | zero => simp [onesN]
 | succ n ih => unfold onesN; split <;> omega
/-- One more. -/
theorem onesN_add {f : Nat → Bool} {i : Nat} (hf : f i = false) : ∀ {n : Nat}, i < n → onesN n (fun k => f k || decide (k = i)) = onesN n f + 1 := by
 intro n hi
 induction n with
 | zero => omega
 | succ n ih =>
  unfold onesN
  by_cases e : i = n
  · subst e
    rw [onesN_congr (n := i) (f := fun k => f k || decide (k = i)) (g := f) fun k hk => by
     have : ¬ k = i := by omega
     simp [this]]
    simp [hf]
  · rw [ih (by omega)]
    have : ¬ n = i := fun h => e h.symm
    simp only [this, decide_false, Bool.or_false]
    omega
theorem onesN_lt {f : Nat → Bool} {i : Nat} (hf : f i = false) : ∀ {n : Nat}, i < n → onesN n f + 1 ≤ n := by
 intro n hi
 have h1 := onesN_add hf hi
 have h2 := onesN_le (fun k => f k || decide (k = i)) n
 omega
section
variable (n : Nat) (b : Nat → Nat → Bool)
/-- How many of a set i beats. -/
def ag (S : Nat → Bool) (i : Nat) : Nat := onesN n (fun k => b i k && S k)
def addS (S : Nat → Bool) (i k : Nat) : Bool := S k || decide (k = i)
/-- Who is not in a set. -/
def outS (S : Nat → Bool) : List Nat := (List.range n).filter fun k => !S k
/-- The least number of pairs that the players behind a set bring, of k players more. -/
def valF : Nat → (Nat → Bool) → Nat
 | 0, _ => 0
 | k+1, S => (outS n S).foldl (fun m i => min m (ag n b S i + valF k (addS S i))) (n * n)
/-- How many are behind a set. -/
def lackS (S : Nat → Bool) : Nat := onesN n (fun k => !S k)
def valS (S : Nat → Bool) : Nat := valF n b (lackS n S) S
end
section
variable {n : Nat} {b : Nat → Nat → Bool} {S : Nat → Bool}
end
end
/- Plain law of the best order and the kings, as MintOrder asks it. No condition. -/
section
open Go.RowKit Go.Maps
section
variable {n : Nat} {b : Nat → Nat → Bool} {S : Nat → Bool}
theorem onesN_mono {f g : Nat → Bool} (h : ∀ i, i < n → f i = true → g i = true) : onesN n f ≤ onesN n g := by
 induction n with
 | zero => simp [onesN]
 | succ n ih =>
  unfold onesN
  have h1 := ih fun i hi => h i (by omega)
  have h2 := h n (by omega)
  split <;> split <;> first | omega | (rename_i a c; exact absurd (h2 a) c)
theorem onesN_strict {f g : Nat → Bool} (h : ∀ i, i < n → f i = true → g i = true) {k : Nat} (hk : k < n) (hf : f k = false) (hg : g k = true) : onesN n f < onesN n g := by
 have h1 := onesN_add hf hk
 have h2 : onesN n (fun m => f m || decide (m = k)) ≤ onesN n g := onesN_mono fun i hi e => by
  rw [Bool.or_eq_true, decide_eq_true_eq] at e
  rcases e with e | rfl
  · exact h i hi e
  · exact hg
 omega
end
end
/- Walks of ranks' players and of its closure. Condition: the library's table of 64 numbers stands in its variable; the set's box is known. -/
section
open Go.RowKit Go.Shelf
attribute [local go_sem] Oper.semAt_some
end
/- Walk of ranks.Kings. Conditions: a tournament of one to eight players; the library's table of 64 numbers stands in its variable. -/
section
open Go.RowKit Go.Shelf
attribute [local go_sem] Oper.semAt_some
attribute [local go_sem ↓] shl_p2 shr_v and_shr
end
/- Walks of math/bits.OnesCount and of ranks' count for sets of eight players. Condition: these bounds. -/
section
open Go.RowKit
/-! the steps of OnesCount64 -/
def oc1 (x : Int) : Int := IntKind.u64.wrap (bits .and .u64 (x / 2) 6148914691236517205 + bits .and .u64 x 6148914691236517205)
def oc2 (x : Int) : Int := IntKind.u64.wrap (bits .and .u64 (x / 4) 3689348814741910323 + bits .and .u64 x 3689348814741910323)
end
/- Walk of the closure that tells what a player costs behind a set. Conditions: one to eight players; the table's cell is known. -/
section
open Go.RowKit Go.Maps
attribute [local go_sem] Oper.semAt_some
attribute [local go_sem ↓] shl_p2 shr_v and_shr
end
/- Plain law of the table of the best orders, and the elements of a set in their order. No condition. -/
section
open Go.RowKit Go.Shelf
section
variable (n : Nat) (b : Nat → Nat → Bool)
/-- The table, right from a set on. -/
def tabV (t u : Nat) : Int := if t ≤ u then (valS n b u.testBit : Nat) else 0
end
section
variable {n : Nat} {b : Nat → Nat → Bool}
end
end
/- Walks of order's all and below at one element, and of lines' closure where nothing is left. Condition: the library's table of 64 numbers stands in its variable. -/
section
open Go.RowKit Go.Shelf
attribute [local go_sem] Oper.semAt_some
theorem TII : TS Tryz.prog 39 36 1 24 (.slice none 0 0) := ⟨Tryz.underlying39, by kernel_rfl, rfl, by decide⟩
/-- The boxes of lines: the order, what came out, the line, and the closure. -/
structure LnS (W : World) (bo bx bl bg : Nat) (x l : Value) : Prop where
 ord : Blk W bo 78 ord1
 out : Blk W bx 39 #[x]
 line : Blk W bl 36 #[l]
 grow : Blk W bg 133 #[.func (.func 73) #[] #[.pointer (some ⟨bx, 0, none⟩), .pointer (some ⟨bl, 0, none⟩), .pointer (some ⟨bo, 0, none⟩), .pointer (some ⟨bg, 0, none⟩)]]
theorem LnS.keep {W W' : World} {bo bx bl bg : Nat} {x l : Value} (h : LnS W bo bx bl bg x l) (hb : Below W.heap.size W W') : LnS W' bo bx bl bg x l := ⟨h.ord.keep hb, h.out.keep hb, h.line.keep hb, h.grow.keep hb⟩
theorem Chs.trans2 {S : Nat → Prop} {w W : World} (h : Chs S w W) {p : Addr} (hp : w.heap.size ≤ p.block) (v : Value) : Chs S w (W.setCell p v) :=
 ⟨h.os, h.tape, h.output, by simpa using h.size, fun i hi hn => (Below.heap_setCell W p v i (by omega)).trans (h.block i hi hn)⟩
theorem Tab.chs {S : Nat → Prop} {w w' : World} (h : Tab w) (hc : Chs S w w') (hs : ¬ S 7) : Tab w' := fun j hj =>
 (World.cell?_of_block (a := ⟨7, j, none⟩) (hc.block 7 (World.block_lt_of_cell? _ _ (h j hj)) hs)).trans (h j hj)
theorem ownFrom_chs {β : Type} {B : Nat} {S : Nat → Prop} {w0 : World} (hB : w0.heap.size ≤ B) : OwnFrom B (fun (_ : β) W => Chs S w0 W) := fun _ X Y row hs hg hr =>
 ⟨hg.os.trans hs.os, hg.tape.trans hs.tape, hg.output.trans hs.output, Nat.le_trans hs.size hg.size, fun i hi hn => (hg.block i (Nat.lt_of_lt_of_le hi hs.size) (fun e => by have := (hr i e.symm).1; omega)).trans (hs.block i hi hn)⟩
theorem ownFrom_own {β : Type} (B base : Nat) (e : TypeId) (size n : Nat) (v : Value) (xs : List Value) : OwnFrom B (fun (_ : β) W => W.ownsRow base e size v n xs) := fun _ X Y row hs hg hr => hs.kept hg (by
 cases hv : v.ownBlock with
 | none => exact .inl rfl
 | some g =>
  refine .inr fun e' => ?_
  obtain ⟨_, o, ho, hc⟩ := hr g e'.symm
  obtain ⟨cs, hcs⟩ := own_kind2 hs g hv
  rw [hcs] at ho
  cases ho
  cases hc)
end
/- make of numbers. Condition: not too many. -/
section
open Go.RowKit
theorem makeInts (n : Nat) (hn : n ≤ 1099511627776) (W : World) : (Instr.makeSlice 36 (.int .i64 (n : Int)) (.int .i64 (n : Int))).run Tryz.prog W = .ok (.slice (some ⟨W.heap.size, 0, none⟩) n n) (W.alloc (.cells (arr n fun _ => 0) 3)) := by
 obtain ⟨i0, hi, hz0, hz1, hz2⟩ := info_parts TI27.inf
 have := run_make (P := Tryz.prog) W 36 3 i0 (.int .i64 0) TI27.und hi hz0 .i64 .i64 (n : Int) (n : Int) (by omega) (Int.le_refl _) (by rw [hz2]; omega) (by omega)
 rw [this, Int.toNat_natCast, hz1, ← made_arr]
end
/- Walk of ranks.Order, the first half: what stands, and the table. Conditions: a tournament of one to eight players; the library's table of 64 numbers stands in its variable. -/
section
open Go.RowKit Go.Shelf
attribute [local go_sem] Oper.semAt_some
attribute [local go_sem ↓] shl_p2 shr_v and_shr
/-- What stands all along: the list's variable, the table's, the closure's. -/
structure OdS (w W : World) (ab ao n c rx rv cv : Nat) : Prop where
 bz : Blk W w.heap.size 36 #[.slice (some ⟨ab, ao, none⟩) n c]
 br : Blk W rv 36 #[.slice (some ⟨rx, 0, none⟩) (2 ^ n) (2 ^ n)]
 bc : Blk W cv 89 #[.func (.func 171) #[] #[.pointer (some ⟨w.heap.size, 0, none⟩), .pointer (some ⟨rv, 0, none⟩)]]
 lo : Below w.heap.size w W
 tb : Tab W
section
variable {w W W' : World} {ab ao n c rx rv cv : Nat}
theorem OdS.below (h : OdS w W ab ao n c rx rv cv) (hb : Below W.heap.size W W') : OdS w W' ab ao n c rx rv cv := ⟨h.bz.keep hb, h.br.keep hb, h.bc.keep hb, below_call h.lo hb h.lo.size, h.tb.below hb⟩
theorem OdS.drew (h : OdS w W ab ao n c rx rv cv) : OdS w W.drew ab ao n c rx rv cv := h.below (Below.refl _ W).drew
theorem OdS.drewN (h : OdS w W ab ao n c rx rv cv) (q : Nat) : OdS w (W.drewN q) ab ao n c rx rv cv := ⟨h.bz, h.br, h.bc, ⟨h.lo.os, (World.tape_drewN ..).trans h.lo.tape, h.lo.output, h.lo.size, h.lo.block⟩, h.tb⟩
/-- A store into another block of the call's own. -/
theorem OdS.far (h : OdS w W ab ao n c rx rv cv) {p : Nat} (hp : w.heap.size < p) (h1 : p ≠ rv) (h2 : p ≠ cv) (hT : 7 < w.heap.size) (i : Nat) (v : Value) : OdS w (W.setCell ⟨p, i, none⟩ v) ab ao n c rx rv cv :=
 ⟨h.bz.far (p := ⟨p, i, none⟩) (by simp; omega) v, h.br.far (p := ⟨p, i, none⟩) (by simp; omega) v, h.bc.far (p := ⟨p, i, none⟩) (by simp; omega) v, h.lo.setCell (p := ⟨p, i, none⟩) (by simp; omega) v, h.tb.grown (setGrown W ⟨p, i, none⟩ v) (by simp; omega)⟩
end
theorem MarkS.own {B : Nat} {Ds : List Nat} {W : World} {base : Nat} {e : TypeId} {size n : Nat} {v : Value} {xs : List Value} (h : MarkS B Ds W) (ho : W.ownsRow base e size v n xs) : (shut Ds W).ownsRow base e size v n xs := by
 refine ⟨ho.1, ?_⟩
 rcases ho.2 with h2 | ⟨g, cap, cur, hv, hb, hg, r⟩
 · exact .inl h2
 · exact .inr ⟨g, cap, cur, hv, hb, (shut_heap Ds W g (fun hm => by have := h.at_ g hm; rw [hg] at this; cases this)).trans hg, r⟩
def natV (l : List Nat) : List Value := l.map fun i => Value.int .i64 (i : Nat)
/-- What stands while the order is told: S are those that are in, l their order. -/
structure PkS (w W : World) (ab ao n c rx rv cv : Nat) (b : Nat → Nat → Bool) (sv ov : Nat) (S : Nat → Bool) (l : List Nat) (O : Option Addr) (oc : Nat) (Ds : List Nat) : Prop where
 ods : OdS w W ab ao n c rx rv cv
 bs : Blk W sv 3 #[.int .i64 (mk n S)]
 bt : Blk W rx 3 (arr (2 ^ n) (tabV n b 0))
 bo : Blk W ov 36 #[.slice O l.length oc]
 own : W.ownsRow (cv + 1) 3 1 (.slice O l.length oc) l.length (natV l)
 mrk : MarkS w.heap.size Ds W
section
variable {w W W' : World} {ab ao n c rx rv cv : Nat} {b : Nat → Nat → Bool} {sv ov : Nat} {S : Nat → Bool} {l : List Nat} {O : Option Addr} {oc : Nat} {Ds : List Nat}
theorem PkS.below (h : PkS w W ab ao n c rx rv cv b sv ov S l O oc Ds) (hb : Below W.heap.size W W') : PkS w W' ab ao n c rx rv cv b sv ov S l O oc Ds :=
 ⟨h.ods.below hb, h.bs.keep hb, h.bt.keep hb, h.bo.keep hb, own_below h.own hb, h.mrk.keep h.mrk.lt hb⟩
theorem PkS.drewN (h : PkS w W ab ao n c rx rv cv b sv ov S l O oc Ds) (q : Nat) : PkS w (W.drewN q) ab ao n c rx rv cv b sv ov S l O oc Ds :=
 ⟨h.ods.drewN q, h.bs, h.bt, h.bo, h.own, ⟨h.mrk.at_, h.mrk.nod, h.mrk.low⟩⟩
/-- A store into a box that is none of these. -/
theorem PkS.far (h : PkS w W ab ao n c rx rv cv b sv ov S l O oc Ds) {p : Nat} (h0 : w.heap.size < p) (h1 : p ≠ rv) (h2 : p ≠ cv) (h3 : p ≠ sv) (h4 : p ≠ rx) (h5 : p ≠ ov) (h6 : ∀ g, (Value.slice O l.length oc).ownBlock = some g → g ≠ p) (h7 : ∀ D ∈ Ds, D ≠ p) (hT : 7 < w.heap.size) (v : Value) :
 PkS w (W.setCell ⟨p, 0, none⟩ v) ab ao n c rx rv cv b sv ov S l O oc Ds :=
 ⟨h.ods.far h0 h1 h2 hT 0 v, h.bs.far (p := ⟨p, 0, none⟩) (by simp; omega) v, h.bt.far (p := ⟨p, 0, none⟩) (by simp; omega) v, h.bo.far (p := ⟨p, 0, none⟩) (by simp; omega) v,
  h.own.kept (setGrown W ⟨p, 0, none⟩ v) (by
   cases hv : (Value.slice O l.length oc).ownBlock with
   | none => exact .inl rfl
   | some g => exact .inr (fun e => h6 g hv (by injection e))),
  ⟨fun D hD => (Below.heap_setCell W ⟨p, 0, none⟩ v D (by have := h7 D hD; simp; omega)).trans (h.mrk.at_ D hD), h.mrk.nod, h.mrk.low⟩⟩
/-- One more is in the order. -/
theorem PkS.push (h : PkS w W ab ao n c rx rv cv b sv ov S l O oc Ds) {x : Nat} {O' : Option Addr} {oc' : Nat} (hl : w.heap.size < rx ∧ rx < rv ∧ rv < cv ∧ cv < ov) (hT : 7 < w.heap.size) (ha : ∀ g, (Value.slice O l.length oc).ownBlock = some g → g ≠ sv)
 (hg : W.grownBy W' (Value.slice O l.length oc).ownBlock) (ho : W'.ownsRow (cv + 1) 3 1 (.slice O' (l.length + 1) oc') (l.length + 1) (natV (l ++ [x]))) :
 PkS w (W'.setCell ⟨ov, 0, none⟩ (.slice O' (l.length + 1) oc')) ab ao n c rx rv cv b sv ov S (l ++ [x]) O' oc' Ds := by
 have hlt : ∀ g, (Value.slice O l.length oc).ownBlock = some g → cv + 1 ≤ g := fun g e => (h.own.lt g e).1
 have hov : some ov ≠ (Value.slice O l.length oc).ownBlock := own_ne_blk h.own h.bo (by decide)
 have nb : ∀ q, q < cv + 1 → some q ≠ (Value.slice O l.length oc).ownBlock := fun q hq e => by have := hlt q e.symm; omega
 have hO : OdS w W' ab ao n c rx rv cv := ⟨h.ods.bz.grown hg (nb _ (by omega)), h.ods.br.grown hg (nb _ (by omega)), h.ods.bc.grown hg (nb _ (by omega)), h.ods.lo.grown hg h.ods.lo.size (fun k hk => by have := hlt k hk; omega), h.ods.tb.grown hg (fun e => by have := hlt _ e; omega)⟩
 have hbo := h.bo.grown hg hov
 have hsv := h.bs.grown hg (fun e => ha sv e.symm rfl)
 have hne : sv ≠ ov := fun e => by
  subst e
  have k1 := h.bs
  have k2 := h.bo
  unfold Blk at k1 k2
  rw [k1] at k2
  injection k2 with k2
  injection k2 with k3 k4
  exact absurd k4 (by decide)
 have hlen : (l ++ [x]).length = l.length + 1 := by simp
 have hmk : MarkS w.heap.size Ds W' := ⟨fun D hD => (hg.block D (h.mrk.lt D hD) (fun e => by
  obtain ⟨cc, hc⟩ := own_kind2 h.own D e.symm
  have := h.mrk.at_ D hD
  rw [hc] at this
  cases this)).trans (h.mrk.at_ D hD), h.mrk.nod, h.mrk.low⟩
 refine ⟨hO.far (by omega) (by omega) (by omega) hT 0 _, hsv.far (p := ⟨ov, 0, none⟩) hne _, (h.bt.grown hg (nb _ (by omega))).far (p := ⟨ov, 0, none⟩) (by simp; omega) _, ?_, ?_, hmk.set hbo 0 _⟩
 · rw [hlen]; exact hbo.set 0 _
 · rw [hlen]; exact own_grown ho hbo (by decide) (setGrown W' ⟨ov, 0, none⟩ _)
end
end
end Go.Proofs.YtnibidmlkbcfkaaGreatDoor
