/- Texts of this proof, one behind the other; each says its condition at its head. -/
import Derived.Test.YtnibidmlkbcfkaaGreatDoorR33
import Derived.Test.YtnibidmlkbcfkaaGreatDoorR25
import Derived.Test.YtnibidmlkbcfkaaGreatDoorR30
import Derived.Test.YtnibidmlkbcfkaaGreatDoorR18
/- What a line that was done is: its word, and what stands behind it. No condition. -/
namespace Go.Proofs.YtnibidmlkbcfkaaGreatDoor
open Go.RowKit Go.Maps
/-- A line's first part is its word. -/
theorem parts_head (x : ByteArray) : parts x = wordOf x :: (parts x).tail := by
 have key : ∃ t, parts x = wordOf x :: t := by
  unfold parts
  rcases Lib.indexB_cases x ⟨#[32]⟩ with hix | ⟨i, hix, hroom⟩
  · rw [Lib.splitB_miss _ _ _ _ hix]
    refine ⟨[], ?_⟩
    congr 1
    unfold wordOf Lib.cut
    have h1 : Lib.index x.data.toList [32] = -1 := hix
    rw [h1, if_neg (by omega)]
  · have hc : ∃ k, Lib.countB x ⟨#[32]⟩ = k + 1 := by
     have h1 : Lib.index x.data.toList (ByteArray.mk #[32]).data.toList = i := hix
     unfold Lib.countB Lib.count Lib.countFrom
     rw [h1, if_neg (by rw [beq_iff_eq]; omega)]
     exact ⟨_, Nat.add_comm _ _⟩
    obtain ⟨k, hk⟩ := hc
    rw [hk, Lib.splitB_hit _ _ _ _ i hix]
    refine ⟨Lib.splitB ⟨#[32]⟩ 0 k (x.extract (i + (ByteArray.mk #[32]).size) x.size), ?_⟩
    congr 1
    apply ByteArray.ext
    apply Array.toList_inj.1
    rw [Nat.add_zero, Lib.extract_from_zero]
    unfold wordOf Lib.cut
    have h1 : Lib.index x.data.toList [32] = i := hix
    rw [h1, if_pos (by omega), Int.toNat_natCast]
 obtain ⟨t, h⟩ := key
 rw [h, List.tail_cons]
theorem lineL_tail {r0 r1 : Nat} {x : ByteArray} {nm : List ByteArray} {nu : List Int} (h : lineL r0 r1 x = some (nm, nu)) : nm = (parts x).tail.take r0 ∧ nu = ((parts x).tail.drop r0).map numV ∧ (parts x).tail.length = r0 + r1 ∧ (∀ v ∈ nm, isNm v = true) ∧ ∀ v ∈ (parts x).tail.drop r0, (numOf v).isSome = true := by
 unfold lineL at h
 split at h
 · unfold readP at h
   split at h
   · rename_i hc
     cases h
     exact ⟨rfl, rfl, hc.1, fun v hv => List.all_eq_true.1 hc.2.1 v hv, fun v hv => List.all_eq_true.1 hc.2.2 v hv⟩
   · cases h
 · cases h
/-- What a line that was done is. -/
inductive KindL (s : Bk) (x : ByteArray) : Bk → Prop
 | medal (v : ByteArray) : (wordOf x).data.toList = [109, 101, 100, 97, 108] → lineL 1 0 x = some ([v], []) → (medalL s v).2 = 0 → KindL s x (medalL s v).1
 | above (v k : ByteArray) : (wordOf x).data.toList = [97, 98, 111, 118, 101] → lineL 2 0 x = some ([v, k], []) → (rankL s v k).2 = 0 → KindL s x (rankL s v k).1
 | player (v : ByteArray) : (wordOf x).data.toList = [112, 108, 97, 121, 101, 114] → lineL 1 0 x = some ([v], []) → (playerL s v).2 = 0 → KindL s x (playerL s v).1
 | beat (v k : ByteArray) : (wordOf x).data.toList = [98, 101, 97, 116] → lineL 2 0 x = some ([v, k], []) → (beatL s v k).2 = 0 → KindL s x (beatL s v k).1
 | batch (a b c d : Int) : (wordOf x).data.toList = [98, 97, 116, 99, 104] → lineL 0 4 x = some ([], [a, b, c, d]) → (layL s a b c d).2 = 0 → KindL s x (layL s a b c d).1
 | pan (a b c d : Int) : (wordOf x).data.toList = [112, 97, 110] → lineL 0 4 x = some ([], [a, b, c, d]) → (panL s a b c d).2 = 0 → KindL s x (panL s a b c d).1
 | bet (v k : Int) : (wordOf x).data.toList = [98, 101, 116] → lineL 0 2 x = some ([], [v, k]) → (betL s v k).2 = 0 → KindL s x (betL s v k).1
theorem lineL_len {r0 r1 : Nat} {x : ByteArray} {nm : List ByteArray} {nu : List Int} (h : lineL r0 r1 x = some (nm, nu)) : nm.length = r0 ∧ nu.length = r1 := by
 obtain ⟨h1, h2, h3, _⟩ := lineL_tail h
 rw [h1, h2, List.length_take, List.length_map, List.length_drop]
 omega
theorem kindL {s : Bk} {x : ByteArray} (h : (doL s x).2 = 0) : KindL s x (doL s x).1 := by
 unfold doL at h ⊢
 split
 · rename_i e0
   rw [if_pos e0] at h
   split
   · rename_i nm v k hl
     obtain rfl := List.eq_nil_of_length_eq_zero (lineL_len hl).1
     rw [hl] at h
     exact .bet _ _ e0 hl h
   · rename_i hl
     split at h
     · rename_i a1 a2 a3 hx
       exact absurd hx (hl _ _ _)
     · cases h
 rename_i e0
 rw [if_neg e0] at h
 split
 · rename_i e1
   rw [if_pos e1] at h
   split
   · rename_i nm v k z u hl
     obtain rfl := List.eq_nil_of_length_eq_zero (lineL_len hl).1
     rw [hl] at h
     exact .pan _ _ _ _ e1 hl h
   · rename_i hl
     split at h
     · rename_i a1 a2 a3 a4 a5 hx
       exact absurd hx (hl _ _ _ _ _)
     · cases h
 rename_i e1
 rw [if_neg e1] at h
 split
 · rename_i e2
   rw [if_pos e2] at h
   split
   · rename_i nm v k z u hl
     obtain rfl := List.eq_nil_of_length_eq_zero (lineL_len hl).1
     rw [hl] at h
     exact .batch _ _ _ _ e2 hl h
   · rename_i hl
     split at h
     · rename_i a1 a2 a3 a4 a5 hx
       exact absurd hx (hl _ _ _ _ _)
     · cases h
 rename_i e2
 rw [if_neg e2] at h
 split
 · rename_i e3
   rw [if_pos e3] at h
   split
   · rename_i v k nu hl
     obtain rfl := List.eq_nil_of_length_eq_zero (lineL_len hl).2
     rw [hl] at h
     exact .beat _ _ e3 hl h
   · rename_i hl
     split at h
     · rename_i a1 a2 a3 hx
       exact absurd hx (hl _ _ _)
     · cases h
 rename_i e3
 rw [if_neg e3] at h
 split
 · rename_i e4
   rw [if_pos e4] at h
   split
   · rename_i v nu hl
     obtain rfl := List.eq_nil_of_length_eq_zero (lineL_len hl).2
     rw [hl] at h
     exact .player _ e4 hl h
   · rename_i hl
     split at h
     · rename_i a1 a2 hx
       exact absurd hx (hl _ _)
     · cases h
 rename_i e4
 rw [if_neg e4] at h
 split
 · rename_i e5
   rw [if_pos e5] at h
   split
   · rename_i v k nu hl
     obtain rfl := List.eq_nil_of_length_eq_zero (lineL_len hl).2
     rw [hl] at h
     exact .above _ _ e5 hl h
   · rename_i hl
     split at h
     · rename_i a1 a2 a3 hx
       exact absurd hx (hl _ _ _)
     · cases h
 rename_i e5
 rw [if_neg e5] at h
 split
 · rename_i e6
   rw [if_pos e6] at h
   split
   · rename_i v nu hl
     obtain rfl := List.eq_nil_of_length_eq_zero (lineL_len hl).2
     rw [hl] at h
     exact .medal _ e6 hl h
   · rename_i hl
     split at h
     · rename_i a1 a2 hx
       exact absurd hx (hl _ _)
     · cases h
 rename_i e6
 rw [if_neg e6] at h
 cases h
end Go.Proofs.YtnibidmlkbcfkaaGreatDoor
/- What a mint's names keep: names of small letters, each once; and the books along a journal. No condition. -/
namespace Go.Proofs.YtnibidmlkbcfkaaGreatDoor
open Go.RowKit Go.Maps
/-- A mint's names. -/
structure NmI (s : Bk) : Prop where
 pl : ∀ v ∈ s.players, isNm v = true
 pd : s.players.Nodup
 md : ∀ v ∈ s.medals, isNm v = true
 mn : s.medals.Nodup
theorem enter_nm {l : List ByteArray} {x : ByteArray} {k : Nat} (h : ∀ v ∈ l, isNm v = true) (hn : l.Nodup) (hx : isNm x = true) : (∀ v ∈ (enterL l x k).1, isNm v = true) ∧ (enterL l x k).1.Nodup := by
 unfold enterL
 split
 · exact ⟨h, hn⟩
 · rename_i hx2
   split
   · exact ⟨h, hn⟩
   · refine ⟨fun v hv => ?_, ?_⟩
     · rcases List.mem_append.1 hv with e | e
       · exact h v e
       · rw [List.mem_singleton.1 e]; exact hx
     · rw [List.nodup_append]
       refine ⟨hn, by simp, fun a ha b hb e => ?_⟩
       rw [List.mem_singleton] at hb
       subst e hb
       exact hx2 ha
theorem players_other {s s' : Bk} {x : ByteArray} (h : KindL s x s') : (∃ v, isNm v = true ∧ s' = (playerL s v).1) ∨ s'.players = s.players := by
 cases h with
 | medal v h1 h2 h3 => right; unfold medalL; split <;> rfl
 | above v k h1 h2 h3 => right; unfold rankL; split <;> first | (split <;> rfl) | rfl
 | player v h1 h2 h3 => left; exact ⟨v, (lineL_tail h2).2.2.2.1 v (by simp), rfl⟩
 | beat v k h1 h2 h3 => right; unfold beatL; split <;> first | (split <;> rfl) | rfl
 | batch a b c d h1 h2 h3 => right; unfold layL; split <;> rfl
 | pan a b c d h1 h2 h3 => right; unfold panL; split <;> rfl
 | bet v k h1 h2 h3 => right; unfold betL; split <;> first | rfl | (split <;> first | rfl | (split <;> rfl))
theorem medals_other {s s' : Bk} {x : ByteArray} (h : KindL s x s') : (∃ v, isNm v = true ∧ s' = (medalL s v).1) ∨ s'.medals = s.medals := by
 cases h with
 | medal v h1 h2 h3 => left; exact ⟨v, (lineL_tail h2).2.2.2.1 v (by simp), rfl⟩
 | above v k h1 h2 h3 => right; unfold rankL; split <;> first | (split <;> rfl) | rfl
 | player v h1 h2 h3 => right; unfold playerL; split <;> rfl
 | beat v k h1 h2 h3 => right; unfold beatL; split <;> first | (split <;> rfl) | rfl
 | batch a b c d h1 h2 h3 => right; unfold layL; split <;> rfl
 | pan a b c d h1 h2 h3 => right; unfold panL; split <;> rfl
 | bet v k h1 h2 h3 => right; unfold betL; split <;> first | rfl | (split <;> first | rfl | (split <;> rfl))
theorem NmI.kind {s s' : Bk} {x : ByteArray} (h : NmI s) (hk : KindL s x s') : NmI s' := by
 have h1 : (∀ v ∈ s'.players, isNm v = true) ∧ s'.players.Nodup := by
  rcases players_other hk with ⟨v, hv, rfl⟩ | e
  · unfold playerL
    split
    · exact enter_nm h.pl h.pd hv
    · exact ⟨h.pl, h.pd⟩
  · rw [e]; exact ⟨h.pl, h.pd⟩
 have h2 : (∀ v ∈ s'.medals, isNm v = true) ∧ s'.medals.Nodup := by
  rcases medals_other hk with ⟨v, hv, rfl⟩ | e
  · unfold medalL
    split
    · exact enter_nm h.md h.mn hv
    · exact ⟨h.md, h.mn⟩
  · rw [e]; exact ⟨h.md, h.mn⟩
 exact ⟨h1.1, h1.2, h2.1, h2.2⟩
/-- All that a mint's books keep. -/
structure BkT (s : Bk) : Prop where
 bk : BkI s
 tr : TourI s.beats
 nm : NmI s
theorem BkT.begin : BkT bk0 := ⟨BkI.begin, TourI.nil, ⟨by simp [bk0], by simp [bk0], by simp [bk0], by simp [bk0]⟩⟩
theorem BkT.step {s s' : Bk} {x : ByteArray} (h : BkT s) (hs : stepL s x = some s') : BkT s' ∧ KindL s x s' := by
 unfold stepL at hs
 split at hs
 · rename_i h0
   cases hs
   have hk := kindL h0
   exact ⟨⟨h.bk.doL x, h.tr.doL h.bk x, h.nm.kind hk⟩, hk⟩
 · cases hs
/-- The books along a journal. -/
theorem run_at : ∀ (J : List ByteArray) (s0 s : Bk), BkT s0 → runL stepL s0 J = some s → BkT s ∧ ∃ f : Nat → Bk, f 0 = s0 ∧ f J.length = s ∧ ∀ k x, J[k]? = some x → BkT (f k) ∧ KindL (f k) x (f (k + 1))
 | [], s0, s, h0, h => by
  have h : some s0 = some s := h
  cases h
  exact ⟨h0, fun _ => s0, rfl, rfl, fun k x hx => by simp at hx⟩
 | y :: J, s0, s, h0, h => by
  cases hy : stepL s0 y with
  | none => rw [runL, hy] at h; cases h
  | some s1 =>
   rw [runL, hy] at h
   obtain ⟨h1, hk⟩ := h0.step hy
   obtain ⟨h2, f, f0, fl, hf⟩ := run_at J s1 s h1 h
   refine ⟨h2, fun k => match k with | 0 => s0 | k + 1 => f k, rfl, fl, fun k x hx => ?_⟩
   cases k with
   | zero =>
    simp only [List.getElem?_cons_zero, Option.some.injEq] at hx
    subst hx
    exact ⟨h0, by show KindL s0 y (f 0); rw [f0]; exact hk⟩
   | succ k => exact hf k x (by simpa using hx)
end Go.Proofs.YtnibidmlkbcfkaaGreatDoor
/- Walk of the question ways. Conditions: what a mint's books keep; the library's variables stand. -/
namespace Go.Proofs.YtnibidmlkbcfkaaGreatDoor
open Go.RowKit Go.Maps
def sWays : ByteArray := ⟨#[119, 97, 121, 115]⟩
/-- What 'ways' replies. -/
def replyWays (s : Bk) : ByteArray × Nat := if s.medals.length = 0 then (ByteArray.empty, 4) else (numd sWays [allW s.medals.length (bitsOf s.above)], 0)
theorem OrdI.bits {l : List Int} (h : OrdI l) : l = ordL l.length (bitsOf l) ∧ OrdOk l.length (bitsOf l) := by
 obtain ⟨b, h1, h2⟩ := h
 have h3 : ∀ i j, i < l.length → j < l.length → bitsOf l i j = b i j := fun i j hi hj => by
  conv => lhs; rw [h1]
  exact bits_ordL hi hj
 refine ⟨h1.trans (ordL_congr fun i j hi hj => (h3 i j hi hj).symm), fun i hi => by rw [h3 i i hi hi]; exact h2.1 i hi, fun i j k hi hj hk e1 e2 => ?_⟩
 rw [h3 i j hi hj] at e1
 rw [h3 j k hj hk] at e2
 rw [h3 i k hi hk]
 exact h2.2 i j k hi hj hk e1 e2
theorem toldOne (word : ByteArray) (q : Nat) (hq : q ≤ 720) (hw : word.size ≤ 1000) (w : World) (b : Nat) (h : Blk w b 3 #[.int .i64 (q : Nat)]) (he : EnvN w) :
 Calls Tryz.prog 138 #[.int .i64 0, .string word, .slice (some ⟨b, 0, none⟩) 1 1] w fun x w' => x = .returned (.tuple #[.string (numd word [q]), .int .i64 0]) ∧ Below w.heap.size w w' :=
 toldF word _ 1 1 [q] w (Sl.of_own (blk_own (base := 0) h (Nat.zero_le _) rfl (by omega))) (fun i hi => by rw [List.mem_singleton] at hi; subst hi; omega) hw (by omega) he
set_option maxRecDepth 100000 in
set_option maxHeartbeats 4000000 in
theorem waysQ (s : Bk) (hs : BkT s) : AskC 96 s [] [] (replyWays s) := by
 intro w G sb A c D d hst hA hD hE hT
 obtain ⟨M, mc, U, uc, Q, pc, T, tc, E, ec, g1, g2, g3, _, _, _, _, _, _, _, _, _⟩ := hst.ex
 have hal := hs.bk.1.abv
 have hml := hs.bk.1.med
 obtain ⟨ht1, ht2⟩ := hs.bk.2.bits
 have B1 := (Below.refl w.heap.size w).alloc (Nat.le_refl _) (.cells #[.slice A 0 c, .slice D 0 d] 124)
 have HB1 := hid B1
 have c0 := (g1.keep B1).cell 0
 have c1 := (g1.keep B1).cell 1
 simp only [stV, List.getElem?_toArray, List.getElem?_cons_zero, List.getElem?_cons_succ] at c0 c1
 have HU := hid (g3.below B1)
 have HTA := hid (hT.below B1)
 have HEN := hid (hE.keep B1)
 unfold replyWays
 generalize bitsOf s.above = a at *
 rw [hal] at ht1 ht2 c1 HU
 rw [ht1] at HU
 clear ht1 hs hst hA hD hE hT g1 g2 g3 hal B1
 generalize hn : s.medals.length = n at *
 have HOK := hid ht2
 clear ht2 hn
 by_cases h0 : n = 0
 · rw [if_pos h0]
   subst h0
   go_enter Tryz.func96, Tryz.ntmps96
   go_wp2
   go_ret2
   exact ⟨rfl, HB1.out⟩
 · rw [if_neg h0]
   have hz : ((n : Int) == 0) = false := by rw [beq_eq_false_iff_ne]; omega
   have hz2 : (n == 0) = false := by rw [beq_eq_false_iff_ne]; exact h0
   have HC := hid (ordCountF n a (by omega) hml HOK.out U uc _ HU.out HTA.out)
   have hbd := allW_bd (a := a) hml
   have HTO := hid fun W b (h : Blk W b 3 #[.int .i64 (allW n a : Nat)]) (he : EnvN W) => toldOne sWays (allW n a) hbd (by decide) W b h he
   generalize numd sWays [allW n a] = rep at *
   generalize allW n a = aw at *
   unfold sWays at HTO
   go_enter Tryz.func96, Tryz.ntmps96
   go_wp2_with fail
   refine (HC.out).mono ?_; rintro e w2 ⟨rfl, b2⟩
   have bA := b2.alloc b2.size (.cells #[.int .i64 (aw : Nat)] 3)
   have HB2 := hid (below_call HB1.out bA HB1.out.size)
   have HT2 := hid (HTO.out _ _ (Blk.new w2 3 #[.int .i64 (aw : Nat)]) (HEN.out.keep bA))
   clear b2 bA HC HTO
   go_wp2_with fail
   refine (HT2.out).mono ?_; rintro e w3 ⟨rfl, b3⟩
   have HB3 := hid (below_call HB2.out b3 HB2.out.size)
   clear b3 HT2
   go_wp2
   go_ret2
   exact ⟨rfl, HB3.out⟩
set_option maxRecDepth 100000 in
theorem mintWaysQ (R : Nat → Prop) (m : Nat) (d : Value) (L : List (Nat × Nat)) (k : Int) (s : Bk) (J : List ByteArray) (out : Bool) (w : World) (hm : MinM w R m d L k s J out) (hs : BkT s) (he : EnvN w) (hT : Tab w) :
 Calls Tryz.prog 11 #[.pointer (some ⟨m, 0, none⟩), .string sWays] w (AskR w (replyWays s)) := by
 refine mintAskF R m d L k s J out sWays (replyWays s) w hm fun sb hst => ?_
 exact askYes 0 0 96 (by decide) R sb s sWays [] [] (replyWays s) (by decide) w he hT hst (by kernel_rfl) (fun args W => enters Tryz.func96 (by kernel_rfl) rfl args W) (by kernel_rfl) (by kernel_rfl) (waysQ s hs)
end Go.Proofs.YtnibidmlkbcfkaaGreatDoor
/- Walk of the question chance. Conditions: what a mint's books keep; the library's variables stand. -/
namespace Go.Proofs.YtnibidmlkbcfkaaGreatDoor
open Go.RowKit Go.Maps
def chaT (p q : Nat) : ByteArray := ⟨#[99, 104, 97, 110, 99, 101, 32]⟩ ++ itoaB p ++ ⟨#[47]⟩ ++ itoaB q
/-- What 'chance' replies. -/
def replyChance (s : Bk) (x y : ByteArray) : ByteArray × Nat :=
 if 0 ≤ idxZ s.medals x ∧ 0 ≤ idxZ s.medals y then
  if idxZ s.medals x = idxZ s.medals y then (ByteArray.empty, 2)
  else (chaT (chaN s.medals.length (bitsOf s.above) (idxZ s.medals x).toNat (idxZ s.medals y).toNat).1 (chaN s.medals.length (bitsOf s.above) (idxZ s.medals x).toNat (idxZ s.medals y).toNat).2, 0)
 else (ByteArray.empty, 4)
set_option maxRecDepth 100000 in
set_option maxHeartbeats 8000000 in
theorem chanceQ (s : Bk) (hs : BkT s) (x y : ByteArray) : AskC 97 s [x, y] [] (replyChance s x y) := by
 intro w G sb A c D d hst hA hD hE hT
 obtain ⟨M, mc, U, uc, Q, pc, T, tc, E, ec, g1, g2, g3, _, _, _, _, _, _, _, _, _⟩ := hst.ex
 have hal := hs.bk.1.abv
 have hml := hs.bk.1.med
 obtain ⟨ht1, ht2⟩ := hs.bk.2.bits
 have B1 := (Below.refl w.heap.size w).alloc (Nat.le_refl _) (.cells #[.slice A 2 c, .slice D 0 d] 124)
 have HB := hid B1
 have H3 := hid (Blk.new w 124 #[.slice A 2 c, .slice D 0 d])
 have c0 := (g1.keep B1).cell 0
 have c1 := (g1.keep B1).cell 1
 simp only [stV, List.getElem?_toArray, List.getElem?_cons_zero, List.getElem?_cons_succ] at c0 c1
 have HU := hid (g3.below B1)
 have HTA := hid (hT.below B1)
 have HEN := hid (hE.keep B1)
 have HPR := hid fun W (hW : Below w.heap.size w W) => pairF W s.medals x y A 2 c (.slice D 0 d) M mc (g2.below hW) (hA.below hW) ⟨_, _, _, rfl⟩
 have hi := (idxZ_bd x s.medals).2
 have hj := (idxZ_bd y s.medals).2
 have hrp0 : replyChance s x y = if 0 ≤ idxZ s.medals x ∧ 0 ≤ idxZ s.medals y then (if idxZ s.medals x = idxZ s.medals y then (ByteArray.empty, 2) else (chaT (chaN s.medals.length (bitsOf s.above) (idxZ s.medals x).toNat (idxZ s.medals y).toNat).1 (chaN s.medals.length (bitsOf s.above) (idxZ s.medals x).toNat (idxZ s.medals y).toNat).2, 0)) else (ByteArray.empty, 4) := rfl
 generalize replyChance s x y = rp at *
 have HRP := hid hrp0
 clear hrp0
 generalize bitsOf s.above = a at *
 generalize idxZ s.medals x = ia at *
 generalize idxZ s.medals y = ib at *
 rw [hal] at ht1 ht2 c1 HU
 rw [ht1] at HU
 clear ht1 hs hst hA hD hE hT g1 g2 g3 hal B1
 generalize hn : s.medals.length = n at *
 have HOK := hid ht2
 have HC0 := hid c0
 have HC1 := hid c1
 clear ht2 hn c0 c1
 go_enter Tryz.func97, Tryz.ntmps97
 go_wp2_with fail
 generalize w.alloc (.cells #[.slice A 2 c, .slice D 0 d] 124) = X at *
 generalize hok : (decide (0 ≤ ia) && decide (0 ≤ ib)) = ok at *
 go_cut [6, 7, 8] from 11 to 20 (fun u v z wx => u = .int .i64 ia ∧ v = .int .i64 ib ∧ z = .bool ok ∧ Hid (Below X.heap.size X wx))
 case first =>
  have HXX := hid (Below.refl X.heap.size X)
  refine wp_region_held_drew (S := (fun w' => w'.cell? ⟨w.heap.size, 0, none⟩ = some (.slice A 2 c) ∧ w'.cell? ⟨w.heap.size, 1, none⟩ = some (.slice D 0 d) ∧ w'.cell? ⟨sb, 0, none⟩ = some (.slice M n mc))) (by kernel_rfl) (by (try dsimp only); (first | exact ⟨H3.out.cell 0, H3.out.cell 1, HC0.out⟩ | exact ⟨H3.out.drew.cell 0, H3.out.drew.cell 1, HC0.out⟩)) (fun hHeld => ?_)
  have bd := (Below.refl X.heap.size X).drew
  have H3 := hid (H3.out.keep bd); have HC0 := hid (cell_keep bd HC0.out); have HB := hid (below_call HB.out bd HB.out.size); have HXX := hid (below_call HXX.out bd HXX.out.size)
  clear bd
  generalize X.drew = X1 at *
  obtain ⟨Y, rfl⟩ : ∃ Y, Y = X1 := ⟨X1, rfl⟩
  refine tk ?_ 0 (some 12) rfl rfl ?_ ?_; rotate_left; · (intro w hSw; (try dsimp only at hSw); go_simp <;> with_reducible rfl)
  try simp only [Act.put, pA0, pA1, pA2]
  refine tk ?_ 1 (some 13) rfl rfl ?_ ?_; rotate_left; · (intro w hSw; (try dsimp only at hSw); go_simp <;> with_reducible rfl)
  try simp only [Act.put, pA0, pA1, pA2]
  refine tk ?_ 2 (some 14) rfl rfl ?_ ?_; rotate_left; · (intro w hSw; (try dsimp only at hSw); go_simp <;> with_reducible rfl)
  try simp only [Act.put, pA0, pA1, pA2]
  refine tk ?_ 3 (some 15) rfl rfl ?_ ?_; rotate_left; · (intro w hSw; (try dsimp only at hSw); go_simp <;> with_reducible rfl)
  try simp only [Act.put, pA0, pA1, pA2]
  refine tk ?_ 4 (some 16) rfl rfl ?_ ?_; rotate_left; · (intro w hSw; (try dsimp only at hSw); go_simp <;> with_reducible rfl)
  try simp only [Act.put, pA0, pA1, pA2]
  refine wpAnyH_ready (rs := [5]) (by kernel_rfl) (by simp) ?_
  refine AllReadyH.cons rfl (fun K hK => ?_) AllReadyH.nil
  go_simp
  refine (HPR.out _ HB.out).mono ?_; rintro e Y ⟨rfl, bb⟩
  have H3 := hid (H3.out.keep bb); have HC0 := hid (cell_keep bb HC0.out); have HB := hid (below_call HB.out bb HB.out.size); have HXX := hid (below_call HXX.out bb HXX.out.size)
  clear bb hHeld
  refine hK.out _ _ ?_ (fun hHeld => ?_); · ((try dsimp only); (first | exact ⟨H3.out.cell 0, H3.out.cell 1, HC0.out⟩ | exact ⟨H3.out.drew.cell 0, H3.out.drew.cell 1, HC0.out⟩))
  clear hK K
  try simp only [Act.put, pA0, pA1, pA2]
  refine tk ?_ 6 (some 11) rfl rfl ?_ ?_; rotate_left; · (intro w hSw; (try dsimp only at hSw); go_simp <;> with_reducible rfl)
  try simp only [Act.put, pA0, pA1, pA2]
  refine tk ?_ 7 (some 18) rfl rfl ?_ ?_; rotate_left; · (intro w hSw; (try dsimp only at hSw); go_simp <;> with_reducible rfl)
  try simp only [Act.put, pA0, pA1, pA2]
  refine tk ?_ 8 (some 19) rfl rfl ?_ ?_; rotate_left; · (intro w hSw; (try dsimp only at hSw); go_simp <;> with_reducible rfl)
  try simp only [Act.put, pA0, pA1, pA2]
  refine tk ?_ 9 (some 20) rfl rfl ?_ ?_; rotate_left; · (intro w hSw; (try dsimp only at hSw); go_simp <;> with_reducible rfl)
  try simp only [Act.put, pA0, pA1, pA2]
  refine tk ?_ 10 (some 6) rfl rfl ?_ ?_; rotate_left; · (intro w hSw; (try dsimp only at hSw); go_simp <;> with_reducible rfl)
  try simp only [Act.put, pA0, pA1, pA2]
  refine tk ?_ 11 (some 7) rfl rfl ?_ ?_; rotate_left; · (intro w hSw; (try dsimp only at hSw); go_simp <;> with_reducible rfl)
  try simp only [Act.put, pA0, pA1, pA2]
  refine tk ?_ 12 (some 8) rfl rfl ?_ ?_; rotate_left; · (intro w hSw; (try dsimp only at hSw); go_simp <;> with_reducible rfl)
  try simp only [Act.put, pA0, pA1, pA2]
  refine wpAnyH_done (by kernel_rfl) ?_ _
  go_wp2_with fail
  go_meet
  case rel => exact ⟨rfl, rfl, rfl, HXX⟩
 case rest =>
  obtain ⟨rfl, rfl, rfl, HX⟩ := hcut
  have HB := hid (below_call HB.out HX.out HB.out.size)
  have HU := hid (HU.out.below HX.out)
  have HTA := hid (HTA.out.below HX.out)
  have HEN := hid (HEN.out.keep HX.out)
  have c1 := cell_keep HX.out HC1.out
  clear HPR HC0 HC1 H3 HX
  by_cases h0 : 0 ≤ ia ∧ 0 ≤ ib
  · have hokt : ok = true := by
     rw [← hok, Bool.and_eq_true, decide_eq_true_eq, decide_eq_true_eq]
     exact h0
    subst hokt
    have H0 := hid h0
    obtain ⟨i, hia⟩ : ∃ i : Nat, ia = (i : Nat) := ⟨ia.toNat, by omega⟩
    obtain ⟨j, hjb⟩ : ∃ j : Nat, ib = (j : Nat) := ⟨ib.toNat, by omega⟩
    subst hia hjb
    have hin : i < n := by omega
    have hjn : j < n := by omega
    clear hok h0
    by_cases hij : i = j
    · subst hij
      have HR2 := hid (show rp = (ByteArray.empty, 2) from HRP.out.trans ((if_pos H0.out).trans (if_pos rfl)))
      have HCH := hid (chanceNo n a i (by omega) hml HOK.out hin U uc wc HU.out HTA.out)
      go_wp2_with fail
      refine (HCH.out).mono ?_; rintro e w2 ⟨rfl, b2⟩
      have HB2 := hid (below_call HB.out (b2.alloc b2.size (.cells #[.int .i64 0, .int .i64 0] 48)) HB.out.size)
      clear b2 HCH
      go_wp2
      go_ret2
      exact ⟨by rw [HR2.out]; rfl, HB2.out⟩
    · have HCH := hid (chanceF n a i j (by omega) hml HOK.out hin hjn hij U uc wc HU.out HTA.out)
      have HIJ := hid hij
      have hb1 := allW_bd (a := a) hml
      have hb2 := befW_sum hml HOK.out hin hjn hij
      have hp1 : (chaN n a i j).1 ≤ 720 := Nat.le_trans (Nat.div_le_self _ _) (by omega)
      have hp2 : (chaN n a i j).2 ≤ 720 := Nat.le_trans (Nat.div_le_self _ _) hb1
      generalize hcp : chaN n a i j = cp at *
      have HCP := hid hcp
      obtain ⟨p, q⟩ := cp
      simp only at hp1 hp2 HCH
      have HI1 := hid fun (W : World) (h : EnvN W) => itoaAny (p : Nat) (by omega) (by omega) W h
      have HI2 := hid fun (W : World) (h : EnvN W) => itoaAny (q : Nat) (by omega) (by omega) W h
      have hz1 := itoaB_size (n := p) (by omega)
      have hz2 := itoaB_size (n := q) (by omega)
      have hd1 : (⟨(Lib.itoa (p : Int)).toArray⟩ : ByteArray) = itoaB p := rfl
      have hd2 : (⟨(Lib.itoa (q : Int)).toArray⟩ : ByteArray) = itoaB q := rfl
      rw [hd1] at HI1
      rw [hd2] at HI2
      have HTX := hid (show chaT p q = ⟨#[99, 104, 97, 110, 99, 101, 32]⟩ ++ itoaB p ++ ⟨#[47]⟩ ++ itoaB q from rfl)
      clear hd1 hd2 hb1 hb2 hcp
      generalize itoaB p = tp at *
      generalize itoaB q = tq at *
      have hs7 : (ByteArray.mk #[99, 104, 97, 110, 99, 101, 32]).size = 7 := rfl
      have hs1 : (ByteArray.mk #[47]).size = 1 := rfl
      have cat1 : ∀ W : World, (Op.stringOp .add ⟨#[99, 104, 97, 110, 99, 101, 32]⟩ tp).run Tryz.prog W = .ok (.string (⟨#[99, 104, 97, 110, 99, 101, 32]⟩ ++ tp)) W := fun W => run_string_add_sum W _ _ (by omega)
      have cat2 : ∀ W : World, (Op.stringOp .add (⟨#[99, 104, 97, 110, 99, 101, 32]⟩ ++ tp) ⟨#[47]⟩).run Tryz.prog W = .ok (.string (⟨#[99, 104, 97, 110, 99, 101, 32]⟩ ++ tp ++ ⟨#[47]⟩)) W := fun W => run_string_add_sum W _ _ (by rw [ByteArray.size_append]; omega)
      have cat3 : ∀ W : World, (Op.stringOp .add (⟨#[99, 104, 97, 110, 99, 101, 32]⟩ ++ tp ++ ⟨#[47]⟩) tq).run Tryz.prog W = .ok (.string (⟨#[99, 104, 97, 110, 99, 101, 32]⟩ ++ tp ++ ⟨#[47]⟩ ++ tq)) W := fun W => run_string_add_sum W _ _ (by rw [ByteArray.size_append, ByteArray.size_append]; omega)
      clear hz1 hz2 hs7 hs1 hp1 hp2
      go_wp2_with fail
      refine (HCH.out).mono ?_; rintro e w2 ⟨rfl, b2⟩
      have bA := b2.alloc b2.size (.cells #[.int .i64 (p : Nat), .int .i64 (q : Nat)] 48)
      have HB2 := hid (below_call HB.out bA HB.out.size)
      have HE2 := hid (HEN.out.keep bA)
      have H9 := hid (Blk.new w2 48 #[.int .i64 (p : Nat), .int .i64 (q : Nat)])
      clear b2 bA HCH c1
      go_wp2_with fail
      generalize w2.alloc (.cells #[.int .i64 (p : Nat), .int .i64 (q : Nat)] 48) = Z at *
      refine wp_region_held_drew (S := (fun w' => w'.cell? ⟨w2.heap.size, 0, none⟩ = some (.int .i64 (p : Nat)) ∧ w'.cell? ⟨w2.heap.size, 1, none⟩ = some (.int .i64 (q : Nat)))) (by kernel_rfl) (by (try dsimp only); (first | exact ⟨H9.out.cell 0, H9.out.cell 1⟩ | exact ⟨H9.out.drew.cell 0, H9.out.drew.cell 1⟩)) (fun hHeld => ?_)
      have bd := (Below.refl Z.heap.size Z).drew
      have H9 := hid (H9.out.keep bd); have HB2 := hid (below_call HB2.out bd HB2.out.size); have HE2 := hid (HE2.out.keep bd)
      clear bd
      generalize Z.drew = X1 at *
      obtain ⟨Y, rfl⟩ : ∃ Y, Y = X1 := ⟨X1, rfl⟩
      refine tk ?_ 0 (some 36) rfl rfl ?_ ?_; rotate_left; · (intro w hSw; (try dsimp only at hSw); go_simp <;> with_reducible rfl)
      try simp only [Act.put, pA0, pA1, pA2]
      refine tk ?_ 1 (some 37) rfl rfl ?_ ?_; rotate_left; · (intro w hSw; (try dsimp only at hSw); go_simp <;> with_reducible rfl)
      try simp only [Act.put, pA0, pA1, pA2]
      refine tk ?_ 5 (some 41) rfl rfl ?_ ?_; rotate_left; · (intro w hSw; (try dsimp only at hSw); go_simp <;> with_reducible rfl)
      try simp only [Act.put, pA0, pA1, pA2]
      refine tk ?_ 6 (some 42) rfl rfl ?_ ?_; rotate_left; · (intro w hSw; (try dsimp only at hSw); go_simp <;> with_reducible rfl)
      try simp only [Act.put, pA0, pA1, pA2]
      refine wpAnyH_ready (rs := [2]) (by kernel_rfl) (by simp) ?_
      refine AllReadyH.cons rfl (fun K hK => ?_) AllReadyH.nil
      go_simp
      refine (HI1.out _ HE2.out).mono ?_; rintro e Y ⟨rfl, bb⟩
      have H9 := hid (H9.out.keep bb); have HB2 := hid (below_call HB2.out bb HB2.out.size); have HE2 := hid (HE2.out.keep bb)
      clear bb hHeld
      refine hK.out _ _ ?_ (fun hHeld => ?_); · ((try dsimp only); (first | exact ⟨H9.out.cell 0, H9.out.cell 1⟩ | exact ⟨H9.out.drew.cell 0, H9.out.drew.cell 1⟩))
      clear hK K
      try simp only [Act.put, pA0, pA1, pA2]
      refine tk ?_ 3 (some 39) rfl rfl ?_ ?_; rotate_left; · (intro w hSw; (try dsimp only at hSw); go_simp <;> with_reducible rfl)
      try simp only [Act.put, pA0, pA1, pA2]
      refine tk ?_ 4 (some 40) rfl rfl ?_ ?_; rotate_left; · (intro w hSw; (try dsimp only at hSw); go_simp <;> with_reducible rfl)
      try simp only [Act.put, pA0, pA1, pA2]
      refine wpAnyH_ready (rs := [7]) (by kernel_rfl) (by simp) ?_
      refine AllReadyH.cons rfl (fun K hK => ?_) AllReadyH.nil
      go_simp
      refine (HI2.out _ HE2.out).mono ?_; rintro e Y ⟨rfl, bb⟩
      have H9 := hid (H9.out.keep bb); have HB2 := hid (below_call HB2.out bb HB2.out.size); have HE2 := hid (HE2.out.keep bb)
      clear bb hHeld
      refine hK.out _ _ ?_ (fun hHeld => ?_); · ((try dsimp only); (first | exact ⟨H9.out.cell 0, H9.out.cell 1⟩ | exact ⟨H9.out.drew.cell 0, H9.out.drew.cell 1⟩))
      clear hK K
      try simp only [Act.put, pA0, pA1, pA2]
      refine tk ?_ 8 (some 44) rfl rfl ?_ ?_; rotate_left; · (intro w hSw; (try dsimp only at hSw); go_simp <;> with_reducible rfl)
      try simp only [Act.put, pA0, pA1, pA2]
      refine tk ?_ 9 (some 4) rfl rfl ?_ ?_; rotate_left; · (intro w hSw; (try dsimp only at hSw); go_simp <;> with_reducible rfl)
      try simp only [Act.put, pA0, pA1, pA2]
      refine tk ?_ 10 (some 5) rfl rfl ?_ ?_; rotate_left; · (intro w hSw; (try dsimp only at hSw); go_simp <;> with_reducible rfl)
      try simp only [Act.put, pA0, pA1, pA2]
      refine wpAnyH_done (by kernel_rfl) ?_ _
      go_wp2
      go_ret2
      exact ⟨by rw [HRP.out, if_pos H0.out, if_neg (by have := HIJ.out; omega), Int.toNat_natCast, Int.toNat_natCast, HCP.out, HTX.out]; rfl, HB2.out⟩
  · have hokf : ok = false := by
     rw [← hok, Bool.and_eq_false_iff, decide_eq_false_iff_not, decide_eq_false_iff_not]
     omega
    subst hokf
    have H0 := hid h0
    clear h0 hok
    go_wp2
    go_ret2
    exact ⟨by rw [HRP.out, if_neg H0.out]; rfl, HB.out⟩
end Go.Proofs.YtnibidmlkbcfkaaGreatDoor
/- Walks of fraction and of Contains. Conditions: the text is a chance's; the library's variables stand. -/
namespace Go.Proofs.YtnibidmlkbcfkaaGreatDoor
open Go.RowKit Go.Maps
theorem index_mid (c : UInt8) (v : List UInt8) : ∀ u : List UInt8, (∀ b ∈ u, b ≠ c) → Lib.index (u ++ c :: v) [c] = u.length
 | [], _ => by
  show Lib.index (c :: v) [c] = 0
  unfold Lib.index
  rw [if_pos (by simp)]
 | b :: u, h => by
  have hb : b ≠ c := h b (by simp)
  have ih := index_mid c v u fun x hx => h x (by simp [hx])
  show Lib.index (b :: (u ++ c :: v)) [c] = _
  unfold Lib.index
  have h0 : ([c] : List UInt8).isPrefixOf (b :: (u ++ c :: v)) = false := by
   show ((c == b) && List.isPrefixOf [] (u ++ c :: v)) = false
   rw [beq_eq_false_iff_ne.2 (Ne.symm hb)]
   rfl
  rw [h0, ih]
  have h1 : (((u.length : Nat) : Int) == -1) = false := by rw [beq_eq_false_iff_ne]; omega
  simp [h1]
theorem cut_mid (c : UInt8) (u v : List UInt8) (h : ∀ b ∈ u, b ≠ c) : Lib.cut (u ++ c :: v) [c] = (u, v, true) := by
 unfold Lib.cut
 rw [index_mid c v u h, if_pos (by omega), Int.toNat_natCast, List.take_left]
 have : (u ++ c :: v).drop (u.length + [c].length) = v := by
  rw [← List.drop_drop, List.drop_left]; rfl
 rw [this]
theorem itoa_all47 : (List.range 1000).all (fun n => (itoaB n).data.toList.all fun c => !decide (c = 47)) = true := by kernel_rfl
theorem itoa_no47 {n : Nat} (h : n < 1000) : ∀ c ∈ (itoaB n).data.toList, c ≠ 47 := fun c hc => by
 have := List.all_eq_true.1 (List.all_eq_true.1 itoa_all47 n (List.mem_range.2 h)) c hc
 simpa using this
theorem itoaB_num2 : (List.range 1000).all (fun n => decide (numOf (itoaB n) = some n)) = true := by kernel_rfl
theorem itoaB_sz : (List.range 1000).all (fun n => decide ((itoaB n).size ≤ 3)) = true := by kernel_rfl
theorem itoa_num2 {n : Nat} (h : n < 1000) : numOf (itoaB n) = some n := of_decide_eq_true (List.all_eq_true.1 itoaB_num2 n (List.mem_range.2 h))
theorem itoa_sz {n : Nat} (h : n < 1000) : (itoaB n).size ≤ 3 := of_decide_eq_true (List.all_eq_true.1 itoaB_sz n (List.mem_range.2 h))
theorem atoi_num {x : ByteArray} {v : Nat} (h : numOf x = some v) : Lib.atoiAll x.data.toList = .ok (v : Int) := by
 unfold numOf at h
 split at h
 · rename_i v' hv
   split at h
   · rename_i hc
     cases h
     rw [hv, show ((v'.toNat : Nat) : Int) = v' by omega]
   · cases h
 · cases h
theorem atoiItoa {n : Nat} (h : n < 1000) (w : World) (he : EnvN w) :
 Calls Tryz.prog 51 #[.string (itoaB n)] w fun e w' => e = .returned (.tuple #[.int .i64 (n : Nat), .nilIface]) ∧ Below w.heap.size w w' := by
 have hs := itoa_sz h
 refine (atoiAny (itoaB n) (by omega) w he).mono ?_
 rintro e w' ⟨v', r, rfl, ⟨rfl, h2⟩ | ⟨N, rfl, h2⟩, hb⟩
 · rw [atoi_num (itoa_num2 h)] at h2
   cases h2
   exact ⟨rfl, hb⟩
 · rw [itoa_num2 h] at h2; cases h2
theorem mid_list (x y : ByteArray) : (x ++ ⟨#[47]⟩ ++ y).data.toList = x.data.toList ++ 47 :: y.data.toList := by
 rw [ByteArray.data_append, ByteArray.data_append, Array.toList_append, Array.toList_append, List.append_assoc]
 rfl
theorem mid_size (x y : ByteArray) : (x ++ ⟨#[47]⟩ ++ y).size = x.size + 1 + y.size := by
 rw [ByteArray.size_append, ByteArray.size_append]
 rfl
set_option maxRecDepth 100000 in
theorem cutMid (x y : ByteArray) (h47 : ∀ c ∈ x.data.toList, c ≠ 47) (hx : x.size ≤ 3) (hy : y.size ≤ 3) (w : World) (he : EnvN w) :
 Calls Tryz.prog 49 #[.string (x ++ ⟨#[47]⟩ ++ y), .string ⟨#[47]⟩] w fun e w' => e = .returned (.tuple #[.string x, .string y, .bool true]) ∧ Below w.heap.size w w' := by
 obtain ⟨m, hm⟩ := he.max
 have hz := mid_size x y
 have hl := mid_list x y
 generalize x ++ ⟨#[47]⟩ ++ y = z at *
 refine (sh_strings_Cut z ⟨#[47]⟩ m w (by omega) hm).mono fun e w' h => ?_
 obtain ⟨h1, n, h2⟩ := h
 rw [hl, show (ByteArray.mk #[47]).data.toList = [47] from rfl, cut_mid 47 _ _ h47] at h1
 rw [h1, h2]
 exact ⟨rfl, below_drewN (Below.refl _ _) n⟩
theorem cutChance {p q : Nat} (hp : p < 1000) (hq : q < 1000) (w : World) (he : EnvN w) :
 Calls Tryz.prog 49 #[.string (itoaB p ++ ⟨#[47]⟩ ++ itoaB q), .string ⟨#[47]⟩] w fun e w' => e = .returned (.tuple #[.string (itoaB p), .string (itoaB q), .bool true]) ∧ Below w.heap.size w w' :=
 cutMid (itoaB p) (itoaB q) (itoa_no47 hp) (itoa_sz hp) (itoa_sz hq) w he
set_option maxRecDepth 100000 in
set_option maxHeartbeats 2000000 in
theorem fractionF (p q : Nat) (hpq : p ≤ q) (hq : q ≤ 720) (w : World) (he : EnvN w) :
 Calls Tryz.prog 23 #[.string (chaT p q)] w fun e w' => e = .returned (.agg #[.int .i64 (p : Nat), .int .i64 (q : Nat)]) ∧ Below w.heap.size w w' := by
 have HTR := hid fun W => trimF (chaT p q) ⟨#[99, 104, 97, 110, 99, 101, 32]⟩ W
 have htx : trimB (chaT p q) ⟨#[99, 104, 97, 110, 99, 101, 32]⟩ = itoaB p ++ ⟨#[47]⟩ ++ itoaB q := by
  have : chaT p q = ⟨#[99, 104, 97, 110, 99, 101, 32]⟩ ++ (itoaB p ++ ⟨#[47]⟩ ++ itoaB q) := by unfold chaT; rw [ByteArray.append_assoc, ByteArray.append_assoc, ByteArray.append_assoc]
  rw [this, trim_app]
 rw [htx] at HTR
 have HCU := hid fun W (h : EnvN W) => cutChance (p := p) (q := q) (by omega) (by omega) W h
 have HA1 := hid fun W (h : EnvN W) => atoiItoa (n := p) (by omega) W h
 have HA2 := hid fun W (h : EnvN W) => atoiItoa (n := q) (by omega) W h
 have HE := hid he
 have g1 : decide ((720 : Int) < (q : Int)) = false := decide_eq_false (by omega)
 have g2 : decide ((p : Int) < 0) = false := decide_eq_false (by omega)
 have g3 : decide ((q : Int) < (p : Int)) = false := decide_eq_false (by omega)
 have g4 : decide (q < p) = false := decide_eq_false (by omega)
 have g5 : decide (720 < q) = false := decide_eq_false (by omega)
 clear he htx
 generalize itoaB p ++ ⟨#[47]⟩ ++ itoaB q = mid at *
 generalize chaT p q = s0 at *
 generalize itoaB p = sp at *
 generalize itoaB q = sq at *
 have HB := hid ((Below.refl w.heap.size w).alloc (Nat.le_refl _) (.cells #[.int .i64 0, .int .i64 0] 31))
 have HK := hid (Blk.new w 31 #[.int .i64 0, .int .i64 0])
 go_enter Tryz.func23, Tryz.ntmps23
 go_wp2_with fail
 refine (HTR.out _).mono ?_; rintro e w2 ⟨rfl, rfl⟩
 generalize w.alloc (.cells #[.int .i64 0, .int .i64 0] 31) = W at *
 have HC2 := hid (HCU.out W (HE.out.keep HB.out))
 go_wp2_with fail
 refine (HC2.out).mono ?_; rintro e w3 ⟨rfl, b3⟩
 have HK3 := hid (HK.out.keep b3)
 have HB3 := hid (below_call HB.out b3 HB.out.size)
 have HC3 := hid (HA1.out w3 (HE.out.keep HB3.out))
 clear b3 HC2 HK HB HCU HTR
 go_wp2_with fail
 refine (HC3.out).mono ?_; rintro e w4 ⟨rfl, b4⟩
 have HK4 := hid (HK3.out.keep b4)
 have HB4 := hid (below_call HB3.out b4 HB3.out.size)
 have HC4 := hid (HA2.out w4 (HE.out.keep HB4.out))
 clear b4 HC3 HK3 HB3
 go_wp2_with fail
 refine (HC4.out).mono ?_; rintro e w5 ⟨rfl, b5⟩
 have HK5 := hid (HK4.out.keep b5)
 have HB5 := hid (below_call HB4.out b5 HB4.out.size)
 clear b5 HC4 HK4 HB4
 have k0 := HK5.out.cell 0
 have k1 := HK5.out.cell 1
 have f0 := HK5.out.free 0
 have f1 := HK5.out.free 1
 simp only [List.getElem?_toArray, List.getElem?_cons_zero, List.getElem?_cons_succ] at k0 k1
 go_wp2
 exact bodyPost_ret (results_row1 rfl _ _ w.heap.size 31 #[.int .i64 (p : Nat), .int .i64 (q : Nat)] (0, 0) _ rfl ((HK5.out.set 0 _).set 1 _) Tryz.underlying31 rfl (by kernel_rfl)) rfl ⟨rfl, (HB5.out.setCell (p := ⟨w.heap.size, 0, none⟩) (Nat.le_refl _) _).setCell (p := ⟨w.heap.size, 1, none⟩) (Nat.le_refl _) _⟩
end Go.Proofs.YtnibidmlkbcfkaaGreatDoor
