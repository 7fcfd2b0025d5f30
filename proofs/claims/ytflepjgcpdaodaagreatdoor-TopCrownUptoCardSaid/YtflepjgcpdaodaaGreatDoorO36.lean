/- Texts of this proof, one behind the other; each says its condition at its head. -/
import Derived.Test.YtflepjgcpdaodaaGreatDoorO31
import Derived.Test.YtflepjgcpdaodaaGreatDoorO35
import Derived.Test.YtflepjgcpdaodaaGreatDoorO33
import Derived.Test.YtflepjgcpdaodaaGreatDoorO34
/- Walks of the questions order and kings. Conditions: what a mint's books keep; the library's variables stand. -/
namespace Go.Proofs.YtflepjgcpdaodaaGreatDoor
open Go.RowKit Go.Maps
attribute [local go_sem ↓] shr_v and_shr
def sOrder : ByteArray := ⟨#[111, 114, 100, 101, 114]⟩
def sKings : ByteArray := ⟨#[107, 105, 110, 103, 115]⟩
/-- The kings, in order. -/
def kingL (n : Nat) (b : Nat → Nat → Bool) : List Nat := (List.range n).filter (kingB n b)
/-- What 'order' and 'kings' reply. -/
def replyOrder (s : Bk) : ByteArray × Nat := if s.players.length = 0 then (ByteArray.empty, 4) else (nmd sOrder s.players (bestL s.beats.length (bitsOf s.beats)), 0)
def replyKings (s : Bk) : ByteArray × Nat := if s.players.length = 0 then (ByteArray.empty, 4) else (nmd sKings s.players (kingL s.beats.length (bitsOf s.beats)), 0)
theorem TourI.bits {l : List Int} (h : TourI l) : l = ordL l.length (bitsOf l) ∧ TourOk l.length (bitsOf l) := by
 obtain ⟨b, h1, h2⟩ := h
 have h3 : ∀ i j, i < l.length → j < l.length → bitsOf l i j = b i j := fun i j hi hj => by
  conv => lhs; rw [h1]
  exact bits_ordL hi hj
 exact ⟨h1.trans (ordL_congr fun i j hi hj => (h3 i j hi hj).symm), h2.congr fun i j hi hj => (h3 i j hi hj).symm⟩
theorem nm_size {l : List ByteArray} (h : ∀ v ∈ l, isNm v = true) : ∀ s ∈ l, s.size ≤ 100 := fun s hs => by
 have h1 := h s hs
 unfold isNm at h1
 simp only [Bool.and_eq_true, decide_eq_true_eq] at h1
 omega
theorem kingL_lt {n : Nat} {b : Nat → Nat → Bool} {i : Nat} (h : i ∈ kingL n b) : i < n := by
 unfold kingL at h
 rw [List.mem_filter] at h
 exact List.mem_range.1 h.1
theorem kingL_len (n : Nat) (b : Nat → Nat → Bool) : (kingL n b).length ≤ n := by
 unfold kingL
 exact Nat.le_trans (List.length_filter_le _ _) (by simp)
set_option maxRecDepth 100000 in
set_option maxHeartbeats 4000000 in
theorem orderedF (s : Bk) (hs : BkT s) : AskC 66 s [] [] (replyOrder s) := by
 intro w G sb A c D d hst hA hD hE hT
 obtain ⟨M, mc, U, uc, Q, pc, T, tc, E, ec, g1, _, _, g4, g5, _, _, _, _, _, _, _⟩ := hst.ex
 have hbl := hs.bk.1.bea
 have hpl := hs.bk.1.pla
 have hnz := nm_size hs.nm.pl
 obtain ⟨ht1, ht2⟩ := hs.tr.bits
 have B1 := (Below.refl w.heap.size w).alloc (Nat.le_refl _) (.cells #[.slice A 0 c, .slice D 0 d] 84)
 have HB1 := hid B1
 have c2 := (g1.keep B1).cell 2
 have c3 := (g1.keep B1).cell 3
 simp only [stV, List.getElem?_toArray, List.getElem?_cons_zero, List.getElem?_cons_succ] at c2 c3
 have HQ := hid (g4.below B1)
 have HT2 := hid (g5.below B1)
 have HTA := hid (hT.below B1)
 have hcp := g4.cap
 have hcpm := g4.capm
 unfold replyOrder
 generalize bitsOf s.beats = b at *
 rw [hbl] at ht1 ht2 c3 HT2 ⊢
 rw [ht1] at HT2
 clear ht1 hs hst hA hD hE hT g1 g4 g5 hbl B1
 have HNZ := hid hnz
 have HTB := hid ht2
 obtain ⟨n, hn⟩ : ∃ n, n = s.players.length := ⟨_, rfl⟩
 have HN := hid hn
 rw [← hn] at c2 c3 HQ HT2 HTB hcp hpl ⊢
 clear ht2 hnz hn
 by_cases h0 : n = 0
 · rw [if_pos h0]
   subst h0
   go_enter Tryz.func66, Tryz.ntmps66
   go_wp2
   go_ret2
   exact ⟨rfl, HB1.out⟩
 · rw [if_neg h0]
   have hz : ((n : Int) == 0) = false := by rw [beq_eq_false_iff_ne]; omega
   have hz2 : (n == 0) = false := by rw [beq_eq_false_iff_ne]; exact h0
   have HO := hid (orderF n b T tc (w.alloc (.cells #[.slice A 0 c, .slice D 0 d] 84)) (by omega) hpl HTB.out HT2.out HTA.out)
   have HBL := hid (best_len HTB.out)
   have HLT := hid fun i (hi : i ∈ bestL n b) => best_lt hi
   obtain ⟨rep, hrep⟩ : ∃ r, r = nmd sOrder s.players (bestL n b) := ⟨_, rfl⟩
   have HREP := hid hrep
   rw [← hrep]
   clear hrep
   go_enter Tryz.func66, Tryz.ntmps66
   go_wp2_with fail
   refine (HO.out).mono ?_; rintro e w2 ⟨O, oc, rfl, ho, b2⟩
   have c22 := cell_keep b2 c2
   have HNM := hid (namedF sOrder Q n pc s.players O (bestL n b).length oc (bestL n b) w2 (HQ.out.below b2) (Sl.of_own ho) HLT.out (by decide) HNZ.out (by rw [HBL.out]; omega))
   have HB2 := hid (below_call HB1.out b2 HB1.out.size)
   clear ho b2 HO c2 c3 hz hz2
   rw [← HREP.out] at HNM
   generalize (bestL n b).length = ln at *
   unfold sOrder at HNM
   go_wp2_with fail
   refine (HNM.out).mono ?_; rintro e w3 ⟨rfl, rfl⟩
   go_wp2
   go_ret2
   exact ⟨rfl, HB2.out⟩
set_option maxRecDepth 100000 in
set_option maxHeartbeats 4000000 in
theorem kingsQ (s : Bk) (hs : BkT s) : AskC 67 s [] [] (replyKings s) := by
 intro w G sb A c D d hst hA hD hE hT
 obtain ⟨M, mc, U, uc, Q, pc, T, tc, E, ec, g1, _, _, g4, g5, _, _, _, _, _, _, _⟩ := hst.ex
 have hbl := hs.bk.1.bea
 have hpl := hs.bk.1.pla
 have hnz := nm_size hs.nm.pl
 obtain ⟨ht1, ht2⟩ := hs.tr.bits
 have B1 := (Below.refl w.heap.size w).alloc (Nat.le_refl _) (.cells #[.slice A 0 c, .slice D 0 d] 84)
 have HB1 := hid B1
 have c2 := (g1.keep B1).cell 2
 have c3 := (g1.keep B1).cell 3
 simp only [stV, List.getElem?_toArray, List.getElem?_cons_zero, List.getElem?_cons_succ] at c2 c3
 have HQ := hid (g4.below B1)
 have HT2 := hid (g5.below B1)
 have HTA := hid (hT.below B1)
 have hcp := g4.cap
 have hcpm := g4.capm
 unfold replyKings
 generalize bitsOf s.beats = b at *
 rw [hbl] at ht1 ht2 c3 HT2 ⊢
 rw [ht1] at HT2
 clear ht1 hs hst hA hD hE hT g1 g4 g5 hbl B1
 have HNZ := hid hnz
 have HTB := hid ht2
 obtain ⟨n, hn⟩ : ∃ n, n = s.players.length := ⟨_, rfl⟩
 have HN := hid hn
 rw [← hn] at c2 c3 HQ HT2 HTB hcp hpl ⊢
 clear ht2 hnz hn
 by_cases h0 : n = 0
 · rw [if_pos h0]
   subst h0
   go_enter Tryz.func67, Tryz.ntmps67
   go_wp2
   go_ret2
   exact ⟨rfl, HB1.out⟩
 · rw [if_neg h0]
   have hz : ((n : Int) == 0) = false := by rw [beq_eq_false_iff_ne]; omega
   have hz2 : (n == 0) = false := by rw [beq_eq_false_iff_ne]; exact h0
   have HK := hid (kingsF n b T tc (w.alloc (.cells #[.slice A 0 c, .slice D 0 d] 84)) (by omega) hpl HTB.out HT2.out HTA.out)
   obtain ⟨rep, hrep⟩ : ∃ r, r = nmd sKings s.players (kingL n b) := ⟨_, rfl⟩
   have HREP := hid hrep
   rw [← hrep]
   clear hrep
   have HBT := hid fun (k : Nat) (hk : k < n) => show bitV (mk n (kingB n b)) k = if kingB n b k then 1 else 0 from by rw [bitV_if, mk_bitB (kingB n b) hk]
   go_enter Tryz.func67, Tryz.ntmps67
   go_wp2_with fail
   refine (HK.out).mono ?_; rintro e w2 ⟨rfl, b2⟩
   have HC2 := hid (cell_keep b2 c2)
   have HQ2 := hid (HQ.out.below b2)
   have HB2 := hid (below_call HB1.out b2 HB1.out.size)
   have c22 := HC2.out
   clear b2 HK c2 c3 hz hz2 HQ HT2 HTA
   generalize mk n (kingB n b) = ks at *
   go_wp2
   go_loopg [8, 32] n (fun gk v i wr => ∃ (k : Nat) (O : Option Addr) (oc : Nat), gk + k = n ∧ i = .int .i64 k ∧ v = .slice O ((List.range k).filter (kingB n b)).length oc ∧ Hid (wr.ownsRow w2.heap.size 3 1 (.slice O ((List.range k).filter (kingB n b)).length oc) ((List.range k).filter (kingB n b)).length (natV ((List.range k).filter (kingB n b)))) ∧ Hid (Below w2.heap.size w2 wr))
   case atStart => exact ⟨0, none, 0, by omega, rfl, rfl, hid (World.ownsRow_nil _ _ _ _), hid (Below.refl _ _)⟩
   case round =>
    obtain ⟨k, O, oc, hk, rfl, rfl, HO, HB⟩ := hrel
    have HKK := hid hk
    by_cases hlt : k < n
    · have HLT := hid hlt
      have hbit := HBT.out k hlt
      have fk : Fits (k : Int) := ⟨by omega, by omega⟩
      have hrs : (List.range (k + 1)).filter (kingB n b) = (List.range k).filter (kingB n b) ++ (if kingB n b k then [k] else []) := by
       rw [List.range_succ, List.filter_append]
       congr 1
       cases hh : kingB n b k <;> simp [hh]
      have HRS := hid hrs
      have hln : ((List.range k).filter (kingB n b)).length ≤ 8 := by
       have := List.length_filter_le (kingB n b) (List.range k)
       rw [List.length_range] at this
       omega
      have HLN := hid hln
      cases hkb : kingB n b k with
      | false =>
       rw [hkb, if_neg Bool.false_ne_true] at hbit
       rw [hkb, if_neg Bool.false_ne_true, List.append_nil] at HRS
       have hb1 : (bitV ks (k : Int) == 1) = false := by rw [hbit]; rfl
       clear hk hrs hbit
       go_wp2
       go_roundg (n - (k + 1))
       case measure => have := HKK.out; have := HLT.out; omega
       case rel => exact ⟨k + 1, O, oc, by have := HKK.out; have := HLT.out; omega, by go_num, by rw [HRS.out], by rw [HRS.out]; exact HO, HB⟩
      | true =>
       rw [hkb, if_pos rfl] at hbit
       rw [hkb, if_pos rfl] at HRS
       have hb1 : (bitV ks (k : Int) == 1) = true := by rw [hbit]; rfl
       generalize hL : (List.range k).filter (kingB n b) = L at *
       clear hk hrs hbit hL
       go_wp2_with (at_builtin; refine push1L TI27 wr #[.int .i64 (k : Nat)] w2.heap.size _ _ _ HO.out _ _ wr.heap.size rfl rfl rfl rfl rfl rfl (by simp [Value.oneCell']) (by omega) (by omega) HB.out.size ?_; intro v1 w8 hown1 hgr hap; obtain ⟨O8, c8, rfl⟩ := own_form hown1; have HO8 := hid (show w8.ownsRow w2.heap.size 3 1 (.slice O8 (L.length + 1) c8) (L.length + 1) (natV (L ++ [k])) from by rw [← natV_push]; exact hown1); have HB8 := hid (HB.out.grown hgr HB.out.size (fun g hg => (HO.out.lt g hg).1)); clear hown1 hgr hap)
       go_roundg (n - (k + 1))
       case measure => have := HKK.out; have := HLT.out; omega
       case rel => exact ⟨k + 1, O8, c8, by have := HKK.out; have := HLT.out; omega, by go_num, by rw [HRS.out, List.length_append, List.length_singleton], by rw [HRS.out, List.length_append, List.length_singleton]; exact HO8, HB8⟩
    · obtain rfl : k = n := by have := HKK.out; omega
      have c23 := cell_keep HB.out HC2.out
      have hln : ((List.range k).filter (kingB k b)).length ≤ 8 := by
       have := List.length_filter_le (kingB k b) (List.range k)
       rw [List.length_range] at this
       omega
      have HNM := hid (namedF sKings Q k pc s.players O _ oc ((List.range k).filter (kingB k b)) wr (HQ2.out.below HB.out) (Sl.of_own HO.out) (fun i hi => List.mem_range.1 (List.mem_filter.1 hi).1) (by decide) HNZ.out (by omega))
      have HB3 := hid (below_call HB2.out HB.out HB2.out.size)
      have hrep2 : nmd sKings s.players ((List.range k).filter (kingB k b)) = rep := by rw [HREP.out]; rfl
      rw [hrep2] at HNM
      clear hk hlt c22 hln HO HB hrep2
      generalize ((List.range k).filter (kingB k b)).length = ln at *
      unfold sKings at HNM
      go_wp2_with fail
      refine (HNM.out).mono ?_; rintro e w3 ⟨rfl, rfl⟩
      go_wp2
      go_ret2
      exact ⟨rfl, HB3.out⟩
set_option maxRecDepth 100000 in
theorem mintOrderQ (R : Nat → Prop) (m : Nat) (d : Value) (L : List (Nat × Nat)) (k : Int) (s : Bk) (J : List ByteArray) (out : Bool) (w : World) (hm : MinM w R m d L k s J out) (hs : BkT s) (he : EnvN w) (hT : Tab w) :
 Calls Tryz.prog 9 #[.pointer (some ⟨m, 0, none⟩), .string sOrder] w (AskR w (replyOrder s)) := by
 refine mintAskF R m d L k s J out sOrder (replyOrder s) w hm fun sb hst => ?_
 exact askYes 0 0 66 (by decide) R sb s sOrder [] [] (replyOrder s) (by decide) w he hT hst (by kernel_rfl) (fun args W => enters Tryz.func66 (by kernel_rfl) rfl args W) (by kernel_rfl) (by kernel_rfl) (orderedF s hs)
set_option maxRecDepth 100000 in
theorem mintKingsQ (R : Nat → Prop) (m : Nat) (d : Value) (L : List (Nat × Nat)) (k : Int) (s : Bk) (J : List ByteArray) (out : Bool) (w : World) (hm : MinM w R m d L k s J out) (hs : BkT s) (he : EnvN w) (hT : Tab w) :
 Calls Tryz.prog 9 #[.pointer (some ⟨m, 0, none⟩), .string sKings] w (AskR w (replyKings s)) := by
 refine mintAskF R m d L k s J out sKings (replyKings s) w hm fun sb hst => ?_
 exact askYes 0 0 67 (by decide) R sb s sKings [] [] (replyKings s) (by decide) w he hT hst (by kernel_rfl) (fun args W => enters Tryz.func67 (by kernel_rfl) rfl args W) (by kernel_rfl) (by kernel_rfl) (kingsQ s hs)
end Go.Proofs.YtflepjgcpdaodaaGreatDoor
/- Plain law of MintOrder: what the journal says of the players, and what the replies to order and kings read as. No condition. -/
namespace Go.Proofs.YtflepjgcpdaodaaGreatDoor
open Go.RowKit Go.Maps
theorem lineL_size {r0 r1 : Nat} {x : ByteArray} {nm : List ByteArray} {nu : List Int} (h : lineL r0 r1 x = some (nm, nu)) : x.size ≤ 60 := by
 unfold lineL at h
 split at h
 · rename_i hc
   rw [Bool.and_eq_true] at hc
   have := hc.2
   unfold isLn at this
   simp only [Bool.and_eq_true, decide_eq_true_eq] at this
   omega
 · cases h
theorem kind_size {s s' : Bk} {x : ByteArray} (h : KindL s x s') : x.size ≤ 60 := by
 cases h with
 | medal v h1 h2 h3 => exact lineL_size h2
 | above v k h1 h2 h3 => exact lineL_size h2
 | player v h1 h2 h3 => exact lineL_size h2
 | beat v k h1 h2 h3 => exact lineL_size h2
 | batch a b c d h1 h2 h3 => exact lineL_size h2
 | pan a b c d h1 h2 h3 => exact lineL_size h2
 | bet v k h1 h2 h3 => exact lineL_size h2
def sPlayer : ByteArray := ⟨#[112, 108, 97, 121, 101, 114]⟩
def sBeat : ByteArray := ⟨#[98, 101, 97, 116]⟩
/-- The law's numbers of results. -/
def btA (s : Bk) (j : Nat) : Int := s.beats.getD j 0
/-- What a line does to players and results, in the law's words. -/
inductive CrownL (s : Bk) (x : ByteArray) (s' : Bk) : Prop
 | player (v : ByteArray) : wordOf x = sPlayer → parts x = [sPlayer, v] → s.players.length < 8 → s'.players = s.players ++ [v] → (∀ j, btA s' j = if j < s.players.length then bits .or .i64 (btA s j) (p2 s.players.length) else btA s j) → CrownL s x s'
 | beat (v k : ByteArray) (a c : Nat) : wordOf x = sBeat → parts x = [sBeat, v, k] → idxZ s.players v = a → idxZ s.players k = c → a < s.players.length → c < s.players.length → a ≠ c → s'.players = s.players → (∀ j, btA s' j = if j = c then bits .andNot .i64 (btA s c) (p2 a) else if j = a then bits .or .i64 (btA s a) (p2 c) else btA s j) → CrownL s x s'
 | other : wordOf x ≠ sPlayer → wordOf x ≠ sBeat → s'.players = s.players → s'.beats = s.beats → CrownL s x s'
theorem word_is {x : ByteArray} {l : List UInt8} {w : ByteArray} (h : (wordOf x).data.toList = l) (e : w.data.toList = l) : wordOf x = w := ByteArray.ext (Array.toList_inj.1 (h.trans e.symm))
theorem word_no {x : ByteArray} {l : List UInt8} {w : ByteArray} (h : (wordOf x).data.toList = l) (e : w.data.toList ≠ l) : wordOf x ≠ w := fun hw => e (by rw [← hw]; exact h)
theorem putI_get (l : List Int) (i : Nat) (f : Int → Int) (j : Nat) (hi : i < l.length) : (putI l i f).getD j 0 = if j = i then f (l.getD i 0) else l.getD j 0 := by
 unfold putI
 rw [List.getD_eq_getElem?_getD, List.getElem?_set]
 by_cases e : i = j
 · subst e
   simp [hi]
 · have e2 : ¬ j = i := fun h => e h.symm
   rw [if_neg e, if_neg e2, ← List.getD_eq_getElem?_getD]
theorem lineL_parts {r0 r1 : Nat} {x : ByteArray} {nm : List ByteArray} {nu : List Int} (h : lineL r0 r1 x = some (nm, nu)) (h0 : r1 = 0) : parts x = wordOf x :: nm := by
 obtain ⟨h1, _, h3, _⟩ := lineL_tail h
 rw [parts_head x]
 subst h0
 rw [h1, List.take_of_length_le (by omega)]
theorem crownL {s s' : Bk} {x : ByteArray} (hb : BkT s) (h : KindL s x s') : CrownL s x s' := by
 cases h with
 | medal v h1 h2 h3 => exact .other (word_no h1 (by decide)) (word_no h1 (by decide)) (by unfold medalL; split <;> rfl) (beats_medal s v)
 | above v k h1 h2 h3 => exact .other (word_no h1 (by decide)) (word_no h1 (by decide)) (by unfold rankL; split <;> first | (split <;> rfl) | rfl) (beats_rank s v k)
 | batch a b c d h1 h2 h3 => exact .other (word_no h1 (by decide)) (word_no h1 (by decide)) (by unfold layL; split <;> rfl) (beats_lay s a b c d)
 | pan a b c d h1 h2 h3 => exact .other (word_no h1 (by decide)) (word_no h1 (by decide)) (by unfold panL; split <;> rfl) (beats_pan s a b c d)
 | bet v k h1 h2 h3 => exact .other (word_no h1 (by decide)) (word_no h1 (by decide)) (by unfold betL; split <;> first | rfl | (split <;> first | rfl | (split <;> rfl))) (beats_bet s v k)
 | player v h1 h2 h3 =>
  have hw : wordOf x = sPlayer := word_is h1 rfl
  have hp := lineL_parts h2 rfl
  rw [hw] at hp
  unfold playerL at h3 ⊢
  have hbl := hb.bk.1.bea
  by_cases he : (enterL s.players v 8).2 = 0
  · rw [if_pos he]
    have h4 := enterL_len he
    have h5 := hb.bk.1.pla
    have h6 : (enterL s.players v 8).1 = s.players ++ [v] := by
     unfold enterL at he ⊢
     by_cases e1 : v ∈ s.players
     · rw [if_pos e1] at he; cases he
     · by_cases e2 : s.players.length = 8
       · rw [if_neg e1, if_pos e2] at he; cases he
       · rw [if_neg e1, if_neg e2]
    refine .player v hw hp (by omega) h6 (fun j => ?_)
    unfold btA
    simp only
    rw [hbl, List.getD_eq_getElem?_getD]
    by_cases hj : j < s.players.length
    · rw [if_pos hj, List.getElem?_append_left (by rw [List.length_map]; omega), List.getElem?_map, List.getD_eq_getElem?_getD, List.getElem?_eq_getElem (by omega)]
      rfl
    · rw [if_neg hj, List.getElem?_append_right (by rw [List.length_map]; omega), List.length_map, List.getD_eq_getElem?_getD, List.getElem?_eq_none (l := s.beats) (by omega)]
      cases hd : j - s.beats.length with
      | zero => rfl
      | succ d => rfl
  · rw [if_neg he] at h3
    exact absurd h3 he
 | beat v k h1 h2 h3 =>
  have hw : wordOf x = sBeat := word_is h1 rfl
  have hp := lineL_parts h2 rfl
  rw [hw] at hp
  have hbl := hb.bk.1.bea
  have b1 := idxZ_bd v s.players
  have b2 := idxZ_bd k s.players
  unfold beatL at h3 ⊢
  by_cases e1 : 0 ≤ idxZ s.players v ∧ 0 ≤ idxZ s.players k
  · rw [if_pos e1] at h3 ⊢
    by_cases e2 : idxZ s.players v = idxZ s.players k ∨ bitV (s.beats.getD (idxZ s.players v).toNat 0) (idxZ s.players k) = 1
    · rw [if_pos e2] at h3; cases h3
    · rw [if_neg e2]
      simp only [not_or] at e2
      obtain ⟨a, ha⟩ := Int.eq_ofNat_of_zero_le e1.1
      obtain ⟨c, hc⟩ := Int.eq_ofNat_of_zero_le e1.2
      have hac : a ≠ c := by omega
      refine .beat v k a c hw hp ha hc (by omega) (by omega) hac rfl (fun j => ?_)
      unfold btA
      simp only
      rw [ha, hc, Int.toNat_natCast, Int.toNat_natCast, putI_get _ _ _ _ (by unfold putI; rw [List.length_set]; omega), putI_get _ _ _ _ (by omega), putI_get _ _ _ _ (by omega)]
      by_cases j1 : j = c
      · rw [if_pos j1, if_pos j1, if_neg (fun e => hac e.symm)]
      · rw [if_neg j1, if_neg j1]
  · rw [if_neg e1] at h3; cases h3
theorem idx_nodup {l : List ByteArray} (hn : l.Nodup) {i : Nat} (hi : i < l.length) : idxZ l (l.getD i ByteArray.empty) = i := by
 have he : l[i]? = some (l.getD i ByteArray.empty) := by rw [List.getD_eq_getElem?_getD, List.getElem?_eq_getElem hi]; rfl
 refine idxZ_at _ l i he (fun j hj h => ?_)
 have h1 : l[j]? = l[i]? := h.trans he.symm
 have := (List.getElem?_inj (by omega) hn).1 h1
 omega
/-- The law's row of results at a player. -/
theorem btA_mk {s : Bk} (hs : BkT s) {i : Nat} (hi : i < s.players.length) : btA s i = mk s.players.length (bitsOf s.beats i) := by
 have h1 := hs.tr.bits.1
 have h2 := hs.bk.1.bea
 unfold btA
 rw [h2] at h1
 conv => lhs; rw [h1]
 exact ordL_get _ hi
theorem all_but {n : Nat} (hn : n ≤ 60) {i : Nat} (hi : i < n) : bits .andNot .i64 (p2 n - 1) (p2 i) = mk n (fun k => decide (k ≠ i)) := by
 rw [← mk_all, mk_del hn hi]
 apply mk_congr
 intro k _
 by_cases e : k = i <;> simp [e]
/-- Who beats all others is the list of kings. -/
theorem kingL_one {n : Nat} {b : Nat → Nat → Bool} (hb : TourOk n b) {i : Nat} (hi : i < n) (hall : ∀ j, j < n → j ≠ i → b i j = true) : kingL n b = [i] := by
 have hk : kingB n b i = true := kingB_iff.2 fun j hj => by
  by_cases e : j = i
  · exact .inl e
  · exact .inr (.inl (hall j hj e))
 unfold kingL
 exact sorted_eq _ _ ((range_rise n).filter _) (by simp) fun x => by
  rw [List.mem_filter, List.mem_range, List.mem_singleton]
  exact ⟨fun h => king_alone hb hi hall h.1 h.2, fun h => by subst h; exact ⟨hi, hk⟩⟩
theorem kingL_ne {n : Nat} {b : Nat → Nat → Bool} (hb : TourOk n b) (hn : 0 < n) : kingL n b ≠ [] := fun h => by
 obtain ⟨i, hi, hk⟩ := king_some hb hn
 have : i ∈ kingL n b := by
  unfold kingL
  rw [List.mem_filter, List.mem_range]
  exact ⟨hi, hk⟩
 rw [h] at this
 simp at this
theorem nmd_size (names : List ByteArray) (h : ∀ s ∈ names, s.size ≤ 100) : ∀ (l : List Nat) (v : ByteArray), (nmd v names l).size ≤ v.size + 101 * l.length
 | [], v => by simp [nmd]
 | i :: l, v => by
  have h1 : nmd v names (i :: l) = nmd (v ++ (⟨#[32]⟩ ++ names.getD i ByteArray.empty)) names l := rfl
  have h2 := nmd_size names h l (v ++ (⟨#[32]⟩ ++ names.getD i ByteArray.empty))
  have h3 : (names.getD i ByteArray.empty).size ≤ 100 := by
   rw [List.getD_eq_getElem?_getD]
   cases he : names[i]? with
   | none => exact Nat.zero_le _
   | some x => exact h x (List.mem_of_getElem? he)
  have h4 : (v ++ ((⟨#[32]⟩ : ByteArray) ++ names.getD i ByteArray.empty)).size = v.size + (1 + (names.getD i ByteArray.empty).size) := by rw [ByteArray.size_append, ByteArray.size_append]; rfl
  rw [h1, List.length_cons]
  omega
/-- Who was met among the first q. -/
def metB (l : List Nat) (q m : Nat) : Bool := decide (m ∈ l.take q)
theorem met_step {n : Nat} (hn : n ≤ 8) {l : List Nat} {q y : Nat} (hy : l[q]? = some y) (hyn : y < n) : bits .or .i64 (mk n (metB l q)) (p2 y) = mk n (metB l (q + 1)) := by
 rw [up_mk8 hn _ hyn]
 apply mk_congr
 intro m _
 unfold metB
 rw [List.take_add_one, hy, Option.toList_some]
 simp
theorem met_no {l : List Nat} (hl : l.Nodup) {q y : Nat} (hy : l[q]? = some y) : metB l q y = false := by
 unfold metB
 rw [decide_eq_false_iff_not]
 intro hm
 obtain ⟨j, hj⟩ := List.getElem?_of_mem hm
 have h1 : j < (l.take q).length := (List.getElem?_eq_some_iff.1 hj).1
 rw [List.length_take] at h1
 rw [List.getElem?_take_of_lt (by omega)] at hj
 have := (List.getElem?_inj (by omega) hl).1 (hj.trans hy.symm)
 omega
end Go.Proofs.YtflepjgcpdaodaaGreatDoor
/- Walk of lines' closure at one element. Condition: the library's table of 64 numbers stands in its variable. -/
namespace Go.Proofs.YtflepjgcpdaodaaGreatDoor
open Go.RowKit Go.Shelf
attribute [local go_sem] Oper.semAt_some
theorem elems_one : Elems 1 [0] := ⟨by decide, by decide, by decide, by show (1 &&& (1 - 1) : Nat) = 0; decide⟩
theorem OwnFrom.ite {B : Nat} {I J : World → Prop} (h : OwnFrom B (fun (_ : Unit) W => I W)) (k : OwnFrom B (fun (_ : Unit) W => J W)) : OwnFrom B (fun (i : Nat) W => if i = 0 then I W else J W) := fun s X Y row hs hg hr => by
 by_cases e : s = 0
 · simp only [if_pos e] at hs ⊢
   exact h () X Y row hs hg hr
 · simp only [if_neg e] at hs ⊢
   exact k () X Y row hs hg hr
theorem LnS.ownFrom {β : Type} (B bo bx bl bg : Nat) (x l : Value) : OwnFrom B (fun (_ : β) W => LnS W bo bx bl bg x l) := fun s X Y row hs hg hr =>
 ⟨ownFrom_blk B _ _ _ s X Y row hs.ord hg hr, ownFrom_blk B _ _ _ s X Y row hs.out hg hr, ownFrom_blk B _ _ _ s X Y row hs.line hg hr, ownFrom_blk B _ _ _ s X Y row hs.grow hg hr⟩
theorem LnS.far {W : World} {bo bx bl bg : Nat} {x l : Value} (h : LnS W bo bx bl bg x l) {p : Addr} (hp : W.heap.size ≤ p.block ∨ (bo ≠ p.block ∧ bx ≠ p.block ∧ bl ≠ p.block ∧ bg ≠ p.block)) (u : Value) : LnS (W.setCell p u) bo bx bl bg x l := by
 have := h.ord.lt; have := h.out.lt; have := h.line.lt; have := h.grow.lt
 exact ⟨h.ord.far (by omega) u, h.out.far (by omega) u, h.line.far (by omega) u, h.grow.far (by omega) u⟩
/-- What came out: one line of one element. -/
def OutS (W : World) (B bx : Nat) : Prop := ∃ O oc R rc, Blk W bx 136 #[.slice O 1 oc] ∧ W.ownsRow B 27 1 (.slice O 1 oc) 1 [.slice R 1 rc] ∧ W.ownsRow B 3 1 (.slice R 1 rc) 1 [.int .i64 0]
theorem OutS.ownFrom {β : Type} (C B bx : Nat) : OwnFrom C (fun (_ : β) W => OutS W B bx) := fun s X Y row hs hg hr => by
 obtain ⟨O, oc, R, rc, h1, h2, h3⟩ := hs
 exact ⟨O, oc, R, rc, ownFrom_blk C _ _ _ s X Y row h1 hg hr, ownFrom_own C _ _ _ _ _ _ s X Y row h2 hg hr, ownFrom_own C _ _ _ _ _ _ s X Y row h3 hg hr⟩
theorem OutS.more {W : World} {B B' bx : Nat} (h : OutS W B bx) (hb : B' ≤ B) : OutS W B' bx := by
 obtain ⟨O, oc, R, rc, h1, h2, h3⟩ := h
 exact ⟨O, oc, R, rc, h1, own_more h2 hb, own_more h3 hb⟩
theorem OutS.far {W : World} {B bx : Nat} (h : OutS W B bx) {p : Addr} (h1 : bx ≠ p.block) (h2 : p.block < B) (u : Value) : OutS (W.setCell p u) B bx := by
 obtain ⟨O, oc, R, rc, k1, k2, k3⟩ := h
 refine ⟨O, oc, R, rc, k1.far h1 u, k2.kept (setGrown W p u) ?_, k3.kept (setGrown W p u) ?_⟩
 · cases hv : (Value.slice O 1 oc).ownBlock with
   | none => exact .inl rfl
   | some g => exact .inr fun e => by cases e; have := (k2.lt _ hv).1; omega
 · cases hv : (Value.slice R 1 rc).ownBlock with
   | none => exact .inl rfl
   | some g => exact .inr fun e => by cases e; have := (k3.lt _ hv).1; omega
set_option maxRecDepth 100000 in
set_option maxHeartbeats 4000000 in
theorem growOne (bo bx bl bg : Nat) (w : World) (h : LnS w bo bx bl bg (.slice none 0 0) (.slice none 0 0)) (hT : Tab w) (HBX : ¬ bx = 2 ∧ ¬ bl = 2) :
 Calls Tryz.prog 172 #[.int .i64 1, .pointer (some ⟨bx, 0, none⟩), .pointer (some ⟨bl, 0, none⟩), .pointer (some ⟨bo, 0, none⟩), .pointer (some ⟨bg, 0, none⟩)] w fun e w' => e = .returned (.tuple #[]) ∧
  OutS w' w.heap.size bx ∧ Chs (fun i => i = bx ∨ i = bl) w w' := by
 refine (callsIn_wide (n := 19)).1 ?_
 refine callsIn_of_wp_marks Tryz.func172 rfl trivial ?_ rfl
 simp only [Tryz.ntmps172, List.size_toArray, List.length_cons, List.length_nil, Nat.reduceAdd, Nat.reduceSub, Array.replicate_succ, Array.replicate_zero, List.push_toArray, List.append_toArray, List.nil_append, List.cons_append]
 have HT := hid hT
 have HL := hid h
 have k0 := (Blk.new w 3 #[.int .i64 1]).cell 0
 simp only [List.getElem?_toArray, List.getElem?_cons_zero] at k0
 clear h hT
 gi_wp2
 refine ⟨trivial, (callsIn_wide.2 (elementsF 1 _)).mono ?_⟩
 rintro e w' ⟨rfl, rfl⟩
 have hb : Below w.heap.size w ((w.alloc (.cells #[.int .i64 1] 3)).alloc (.cells #[.int .i64 1] 3)) := ((Below.refl _ w).alloc (Nat.le_refl _) _).alloc (by simp) _
 have HB := hid hb
 have GL := hid (HL.out.keep hb)
 have GT := hid (HT.out.below hb)
 have G5 := hid ((Blk.new w 3 #[.int .i64 1]).alloc (.cells #[.int .i64 1] 3))
 have GC := hid (Blk.new_at (w.alloc (.cells #[.int .i64 1] 3)) 3 #[.int .i64 1] (n := w.heap.size + 1) (by simp))
 have HSZ := hid (show ((w.alloc (.cells #[.int .i64 1] 3)).alloc (.cells #[.int .i64 1] 3)).heap.size = w.heap.size + 2 from by simp)
 have HP := hid HT.out.pos
 clear hb k0
 gi_wp2
 generalize ((w.alloc (.cells #[.int .i64 1] 3)).alloc (.cells #[.int .i64 1] 3)) = G at *
 refine wp_range (n := 19) (gf := 217) (c := w.heap.size + 1) (t := 3) (xs := [0]) rfl (fun args w => enters Tryz.func217 (by kernel_rfl) rfl args w) GC.out (elems_iter 18 _ 1 [0] G elems_one GC.out) rfl
  (fun k W => ((if k = 0 then LnS W bo bx bl bg (.slice none 0 0) (.slice none 0 0) else OutS W (w.heap.size + 2) bx) ∧ Chs (fun i => i = bx ∨ i = bl) w W) ∧ Blk W w.heap.size 3 #[.int .i64 1] ∧ Tab W)
  (fun _ _ => False) ?_ (fun _ _ _ _ _ hs _ _ => hs) ?_ (fun _ _ h => h.2.2) ⟨⟨by simpa using GL.out, Chs.of_below HB.out⟩, G5.out, GT.out⟩ ?_ ?_ (fun _ _ _ _ h _ => h.elim)
 · have := HSZ.out
   have := HP.out
   exact OwnFrom.and (OwnFrom.and (OwnFrom.ite (LnS.ownFrom _ _ _ _ _ _ _) (OutS.ownFrom _ _ _)) (ownFrom_chs (by omega))) (OwnFrom.and (ownFrom_blk _ _ _ _) (ownFrom_tab (by omega)))
 · rintro k W v ⟨⟨h1, h2⟩, h3, h4⟩
   have := HP.out
   have g1 := HL.out.ord.lt
   have g2 := HL.out.out.lt
   have g3 := HL.out.line.lt
   have g4 := HL.out.grow.lt
   refine ⟨⟨?_, h2.trans2 (p := ⟨w.heap.size + 1, 0, none⟩) (by simp) v⟩, h3.far (p := ⟨w.heap.size + 1, 0, none⟩) (by simp) v, h4.grown (setGrown W ⟨w.heap.size + 1, 0, none⟩ v) (by simp; omega)⟩
   by_cases e : k = 0
   · simp only [if_pos e] at h1 ⊢
     exact h1.far (p := ⟨w.heap.size + 1, 0, none⟩) (Or.inr (by simp; omega)) v
   · simp only [if_neg e] at h1 ⊢
     exact h1.far (p := ⟨w.heap.size + 1, 0, none⟩) (by simp; omega) (by simp) v
 · intro l k x W W2 hl hr hI hx hv
   have hk : k = 0 := by
    have := (List.getElem?_eq_some_iff.1 hx).1
    simp at this
    exact this
   subst hk
   have hx0 : x = 0 := by simpa using hx.symm
   subst hx0
   simp only [if_true] at hI
   obtain ⟨⟨hL, hC⟩, h5, hT2⟩ := hI
   gi_wp2
   refine ⟨trivial, ?_⟩
   gi_wp2
   have o0 := hL.ord.cell 0
   have o1 := hL.ord.cell 1
   have o2 := hL.ord.cell 2
   have o3 := hL.ord.cell 3
   have o4 := hL.ord.cell 4
   have o5 := hL.ord.cell 5
   have o6 := hL.ord.cell 6
   have k5 := h5.cell 0
   simp only [ord1, List.getElem?_toArray, List.getElem?_cons_zero, List.getElem?_cons_succ] at o0 o1 o2 o3 o4 o5 o6 k5
   have HLL := hid hL
   have HC := hid hC
   have H5 := hid h5
   have HT2 := hid hT2
   have HMX : Tryz.prog.follows .mixedOrders = true := by kernel_rfl
   clear hL hC h5 hT2 hx hv
   have hand0 : bits .and .i64 0 1 = 0 := by kernel_rfl
   refine wpIn_mono (Q := fun e a wx => e = .normal ∧ a = ({ tmps := #[.int .i64 1, .pointer (some ⟨bx, 0, none⟩), .pointer (some ⟨bl, 0, none⟩), .pointer (some ⟨bo, 0, none⟩), .pointer (some ⟨bg, 0, none⟩), .pointer (some ⟨w.heap.size, 0, none⟩), .int .i64 0, .int .i64 1, .bool false, undef, undef, undef, undef, undef, .int .i64 1, .func (.func 217) #[] #[.pointer (some ⟨w.heap.size + 1, 0, none⟩)], .int .i64 0, .agg #[.int .i64 1, .int .i64 0, .int .i64 0, .int .i64 0, .int .i64 0, .int .i64 0, .int .i64 0], .int .i64 0, .int .i64 0, .int .i64 1, .int .i64 0, .bool true, undef, undef, undef, undef, undef, undef, undef, undef, undef, undef, undef, undef, undef, undef, undef], defers := [] } : Act) ∧ Below W2.heap.size W2 wx) ?first5 ?rest5
   case first5 =>
    gi_region_with_o (first | (refine ⟨trivial, ?_⟩; gi_at_call 173; refine (CallsIn.inRound l (callsIn_wide.2 (belowOne _))).mono ?_; rintro e w7 ⟨rfl, b7⟩; have B7 := hid b7; have k7 : w7.cell? ⟨w.heap.size, 0, none⟩ = some (.int .i64 1) := cell_keep b7 k5; clear b7) | (gi_at_call 173; refine (CallsIn.inRound l (callsIn_wide.2 (belowOne _))).mono ?_; rintro e w7 ⟨rfl, b7⟩; have B7 := hid b7; have k7 : w7.cell? ⟨w.heap.size, 0, none⟩ = some (.int .i64 1) := cell_keep b7 k5; clear b7))
    all_goals exact ⟨rfl, rfl, (Below.refl _ W2).drew.trans B7.out⟩
   case rest5 =>
    rintro e a wx ⟨rfl, rfl, hb7⟩
    have J7 := hid (HLL.out.keep hb7)
    have K5 := hid (H5.out.keep hb7)
    have T7 := hid (HT2.out.below hb7)
    have C7 := hid (show Chs (fun i => i = bx ∨ i = bl) w wx from HC.out.trans (Chs.of_below hb7))
    have CW7 := hid (show Chs (fun i => i = bx ∨ i = bl) W2 wx from Chs.of_below hb7)
    have z2 := J7.out.line.cell 0
    simp only [List.getElem?_toArray, List.getElem?_cons_zero] at z2
    clear o0 o1 o2 o3 o4 o5 o6 k5 HLL hb7
    obtain ⟨i0, hi0, hz0, hz1, hzz⟩ := info_parts TI27.inf
    dsimp only
    gi_wp2_with (gi_at_builtin; refine wpListIn_append_own _ rfl _ _ 27 rfl w.heap.size 3 i0 (.int .i64 0) 1 8 TI27.und hi0 hz0 hz1 hzz TI27.zc TI27.sz (.slice none 0 0) 0 [] rfl (World.ownsRow_nil _ _ _ _) ⟨wx.heap.size, 0, none⟩ 1 1 [.int .i64 0] rfl rfl (cell_one_new _ _ _) (by simp [Value.oneCell']) (by unfold maxLen; omega) (by omega) (by have := C7.out.size; simp; omega) ?_; intro v1 w8 hown1 hgr _; obtain ⟨L, lc, rfl⟩ := own_form hown1; have b8 := ((Below.refl wx.heap.size wx).alloc (Nat.le_refl _) (.cells #[.int .i64 0] 3)).grown hgr (by simp) (fun k hk => by simp [Value.ownBlock] at hk); have B8 := hid b8; have J8 := hid (J7.out.keep b8); have L8 := hid hown1; have y2 := J8.out.line.cell 0; have f2 := J8.out.line.free 0; simp only [List.getElem?_toArray, List.getElem?_cons_zero] at y2; clear hown1 hgr b8)
    have hbl := HL.out.line.lt
    have J9 := hid (show LnS (w8.setCell ⟨bl, 0, none⟩ (.slice L 1 lc)) bo bx bl bg (.slice none 0 0) (.slice L 1 lc) from
     ⟨J8.out.ord.far (p := ⟨bl, 0, none⟩) (blk_neM J8.out.ord J8.out.line (by decide)) _, J8.out.out.far (p := ⟨bl, 0, none⟩) (blk_neM J8.out.out J8.out.line (by decide)) _, J8.out.line.set 0 _, J8.out.grow.far (p := ⟨bl, 0, none⟩) (blk_neM J8.out.grow J8.out.line (by decide)) _⟩)
    have L9 := hid (own_grown L8.out J8.out.line (by decide) (setGrown w8 ⟨bl, 0, none⟩ (.slice L 1 lc)))
    have CW9 := hid (CW7.out.trans ((Chs.of_below B8.out).trans (Chs.setCell (S := fun i => i = bx ∨ i = bl) (a := ⟨bl, 0, none⟩) (Or.inr rfl) (.slice L 1 lc))))
    have C9 := hid (HC.out.trans CW9.out)
    have K9 := hid ((K5.out.keep B8.out).far (p := ⟨bl, 0, none⟩) (by simp; omega) (.slice L 1 lc))
    have T9 := hid (HT2.out.chs CW9.out (fun e => by rcases e with e | e <;> first | exact HBX.1 e.symm | exact HBX.2 e.symm))
    clear y2 f2 z2 CW7 C7 K5 T7 J7 J8 L8 B8
    generalize w8.setCell ⟨bl, 0, none⟩ (.slice L 1 lc) = V at *
    have HGZ := hid (growZero (w.heap.size + 2) bo bx bl bg L lc V.drew ⟨J9.out.ord.drew, J9.out.out.drew, J9.out.line.drew, J9.out.grow.drew⟩ (Sl.of_own L9.out).drew (T9.out.below (Below.refl _ V).drew) (by obtain ⟨r, hr⟩ := hr; have h1 := (Array.getElem?_eq_some_iff.1 hr).1; have h2 := HSZ.out; have h3 := CW9.out.size; show w.heap.size + 2 ≤ V.heap.size; omega) HBX.1)
    have v0 := J9.out.grow.cell 0
    have v1 := K9.out.cell 0
    simp only [List.getElem?_toArray, List.getElem?_cons_zero] at v0 v1
    have hshl : bits .andNot .i64 1 1 = 0 := by kernel_rfl
    refine wpIn_mono (Q := fun e a wy => e = .normal ∧ a = ({ tmps := #[.int .i64 1, .pointer (some ⟨bx, 0, none⟩), .pointer (some ⟨bl, 0, none⟩), .pointer (some ⟨bo, 0, none⟩), .pointer (some ⟨bg, 0, none⟩), .pointer (some ⟨w.heap.size, 0, none⟩), .int .i64 0, .int .i64 1, .bool false, undef, undef, undef, undef, undef, .int .i64 1, .func (.func 217) #[] #[.pointer (some ⟨w.heap.size + 1, 0, none⟩)], .int .i64 0, .agg #[.int .i64 1, .int .i64 0, .int .i64 0, .int .i64 0, .int .i64 0, .int .i64 0, .int .i64 0], .int .i64 0, .int .i64 0, .int .i64 1, .int .i64 0, .bool true, .slice none 0 0, .int .i64 0, .slice (some ⟨wx.heap.size, 0, none⟩) 1 1, .slice L 1 lc, .func (.func 172) #[] #[.pointer (some ⟨bx, 0, none⟩), .pointer (some ⟨bl, 0, none⟩), .pointer (some ⟨bo, 0, none⟩), .pointer (some ⟨bg, 0, none⟩)], .int .i64 1, .int .i64 0, .int .i64 1, .int .i64 0, .tuple #[], undef, undef, undef, undef, undef], defers := [] } : Act) ∧ OutS wy (w.heap.size + 2) bx ∧ Chs (· = bx) V wy) ?first7 ?rest7
    case first7 =>
     gi_region_with_o (first | (refine ⟨trivial, ?_⟩; gi_at_call 172; refine (CallsIn.inRound l (callsIn_wide.2 HGZ.out)).mono ?_; rintro e w9 ⟨rfl, O, oc, R, rc, q1, q2, q3, q4⟩; have Q1 := hid q1; have Q2 := hid q2; have Q3 := hid q3; have Q4 := hid q4; clear q1 q2 q3 q4) | (gi_at_call 172; refine (CallsIn.inRound l (callsIn_wide.2 HGZ.out)).mono ?_; rintro e w9 ⟨rfl, O, oc, R, rc, q1, q2, q3, q4⟩; have Q1 := hid q1; have Q2 := hid q2; have Q3 := hid q3; have Q4 := hid q4; clear q1 q2 q3 q4))
     all_goals exact ⟨rfl, rfl, ⟨O, oc, R, rc, Q1.out, Q2.out, Q3.out⟩, (Chs.of_below (Below.refl _ V).drew).trans Q4.out⟩
    case rest7 =>
     rintro e a wy ⟨rfl, rfl, hO, hCy⟩
     have hne : ¬ bl = bx := blk_neM J9.out.line J9.out.out (by decide)
     have Y2 := hid (hCy.blk J9.out.line hne)
     have HOO := hid hO
     have CY := hid (CW9.out.trans (hCy.mono fun i e => Or.inl e))
     have KY := hid (hCy.blk K9.out (blk_neM K9.out J9.out.out (by decide)))
     have TY := hid (T9.out.chs hCy (fun e => HBX.1 e.symm))
     have y2 := Y2.out.cell 0
     have f2 := Y2.out.free 0
     simp only [List.getElem?_toArray, List.getElem?_cons_zero] at y2
     have hlc := (Sl.of_own L9.out).cap
     clear hO hCy hshl v0 v1 HGZ hand0
     have hbx := HL.out.out.lt
     have CF := hid (CY.out.trans (Chs.setCell (S := fun i => i = bx ∨ i = bl) (a := ⟨bl, 0, none⟩) (Or.inr rfl) (.slice L 0 lc)))
     have KF := hid (KY.out.far (p := ⟨bl, 0, none⟩) (by simp; omega) (.slice L 0 lc))
     have OF := hid (HOO.out.far (p := ⟨bl, 0, none⟩) (fun e => hne e.symm) (by simp; omega) (.slice L 0 lc))
     have TF := hid (TY.out.grown (setGrown wy ⟨bl, 0, none⟩ (.slice L 0 lc)) (by simp; exact HBX.2))
     dsimp only
     gi_wp2
     have := HSZ.out
     obtain ⟨r, hr⟩ := hr
     have hlw := (Array.getElem?_eq_some_iff.1 hr).1
     exact ⟨⟨CF.out.size, fun k o hk ho _ => (CF.out.block k (lt_of_block ho) (by omega)).trans ho⟩, CF.out.block (w.heap.size + 1) (by omega) (by omega), ⟨OF.out, HC.out.trans CF.out⟩, KF.out, TF.out⟩
 · rintro D W hD ⟨⟨h1, h2⟩, h3, h4⟩ hK
   have h1 : OutS W (w.heap.size + 2) bx := h1
   have G0 := hid h1
   have GA := hid h2
   have GK := hid hK
   clear h1 h2 h3 h4 hK
   gi_wp2
   have := HSZ.out
   refine ⟨by simp, .inl ⟨_, _, rfl, run_takeDeferred GK.out, ?_⟩⟩
   have q1 := OutS.ownFrom (β := Unit) G.heap.size _ _ () _ _ (some D) G0.out (grownBy_putObj' W D (.deferred none)) (fun r e => by cases e; exact ⟨hD, _, GK.out, rfl⟩)
   have q2 := ownFrom_chs (β := Unit) (B := G.heap.size) (by omega) () _ _ (some D) GA.out (grownBy_putObj' W D (.deferred none)) (fun r e => by cases e; exact ⟨hD, _, GK.out, rfl⟩)
   exact ⟨_, results_none rfl _ _ _, rfl, q1.more (by omega), q2⟩
end Go.Proofs.YtflepjgcpdaodaaGreatDoor
