/- Texts of this proof, one behind the other; each says its condition at its head. -/
import Derived.Test.YtnibidmlkbcfkaaGreatDoorT38
import Derived.Test.YtnibidmlkbcfkaaGreatDoorT32
import Derived.Test.YtnibidmlkbcfkaaGreatDoorT35
import Derived.Test.YtnibidmlkbcfkaaGreatDoorT31
import Derived.Test.YtnibidmlkbcfkaaGreatDoorT30
namespace Go.Proofs.YtnibidmlkbcfkaaGreatDoor
/- Walk of pairsOf, and slices of pairs of texts. Condition: short texts. -/
section
open Go.RowKit Go.Maps
def prV (P : List (ByteArray × ByteArray)) : List Value := P.flatMap fun p => [.string p.1, .string p.2]
theorem prV_len (P : List (ByteArray × ByteArray)) : (prV P).length = P.length * 2 := by
 induction P with
 | nil => rfl
 | cons u xs ih =>
  have : prV (u :: xs) = .string u.1 :: .string u.2 :: prV xs := rfl
  rw [this, List.length_cons, List.length_cons, ih, List.length_cons]; omega
theorem prV_get : ∀ (xs : List (ByteArray × ByteArray)) (j : Nat) (u : ByteArray × ByteArray), xs[j]? = some u → (prV xs)[j * 2]? = some (.string u.1) ∧ (prV xs)[j * 2 + 1]? = some (.string u.2) := by
 intro xs
 induction xs with
 | nil => intro j u h; simp at h
 | cons v xs ih =>
  intro j u h
  have e : prV (v :: xs) = .string v.1 :: .string v.2 :: prV xs := rfl
  rw [e]
  cases j with
  | zero => simp at h; subst h; exact ⟨rfl, rfl⟩
  | succ j =>
   have := ih j u (by simpa using h)
   have e2 : (j + 1) * 2 = j * 2 + 2 := by omega
   rw [e2]
   exact ⟨by simpa using this.1, by simpa using this.2⟩
/-- A slice of pairs of texts that reads as xs. -/
structure SlP (w : World) (A : Option Addr) (n c : Nat) (xs : List (ByteArray × ByteArray)) : Prop where
 len : xs.length = n
 cap : n ≤ c
 capm : c ≤ maxLen
 pos : 0 < n → ∃ b o, A = some ⟨b, o, none⟩ ∧ b < w.heap.size ∧ ∀ j u, xs[j]? = some u → w.cell? ⟨b, o + j * 2, none⟩ = some (.string u.1) ∧ w.cell? ⟨b, o + j * 2 + 1, none⟩ = some (.string u.2)
theorem SlP.of_own {w : World} {base : Nat} {e : TypeId} {A : Option Addr} {n c : Nat} {xs : List (ByteArray × ByteArray)} (h : w.ownsRow base e 2 (.slice A n c) n (prV xs)) : SlP w A n c xs := by
 have hl := h.1
 rw [prV_len] at hl
 have hn : xs.length = n := by omega
 rcases h.2 with ⟨hv, h0⟩ | ⟨g, cap, cur, hv, hb, hg, hc, hm, hs, ht⟩
 · cases hv
   exact ⟨hn, Nat.le_refl _, Nat.zero_le _, fun h => absurd h (by omega)⟩
 · cases hv
   refine ⟨hn, hc, hm, fun _ => ⟨g, 0, rfl, lt_of_block hg, fun j u hu => ?_⟩⟩
   obtain ⟨e1, e2⟩ := prV_get xs j u hu
   have k1 := h.cells (g := g) rfl _ _ e1
   have k2 := h.cells (g := g) rfl _ _ e2
   have ha : ∀ q, (⟨g, 0, none⟩ : Addr).add q = ⟨g, q, none⟩ := fun q => by unfold Addr.add; split <;> simp_all
   rw [ha] at k1 k2
   rw [Nat.zero_add]
   exact ⟨k1, k2⟩
theorem SlP.below {w w' : World} {A : Option Addr} {n c : Nat} {xs : List (ByteArray × ByteArray)} (h : SlP w A n c xs) (hb : Below w.heap.size w w') : SlP w' A n c xs :=
 ⟨h.len, h.cap, h.capm, fun hn => by
  obtain ⟨b, o, e, hlt, hc⟩ := h.pos hn
  exact ⟨b, o, e, Nat.lt_of_lt_of_le hlt hb.size, fun j u hu => ⟨(hb.cell (p := ⟨b, _, none⟩) hlt).trans (hc j u hu).1, (hb.cell (p := ⟨b, _, none⟩) hlt).trans (hc j u hu).2⟩⟩⟩
theorem catS2 (u v : ByteArray) (hu : u.size ≤ 1000000) (hv : v.size ≤ 1000000) (W : World) : (Op.stringOp .add u v).run Tryz.prog W = .ok (.string (u ++ v)) W := run_string_add_sum W _ _ (by omega)
end
/- The question chance, asked of a mint with any two names; and where names stand in the roll. Conditions: what a mint's books keep; the library's variables stand. -/
section
open Go.RowKit Go.Maps
def sCha : ByteArray := ⟨#[99, 104, 97, 110, 99, 101]⟩
/-- The text of the question. -/
def chaX (a b : ByteArray) : ByteArray := (⟨#[99, 104, 97, 110, 99, 101, 32]⟩ ++ a) ++ ⟨#[32]⟩ ++ b
theorem chaX_eq (a b : ByteArray) : chaX a b = nmd sCha [a, b] [0, 1] := by
 show _ = (sCha ++ ((⟨#[32]⟩ : ByteArray) ++ a)) ++ ((⟨#[32]⟩ : ByteArray) ++ b)
 rw [← ByteArray.append_assoc (a := sCha), ← ByteArray.append_assoc]
 rfl
theorem low_ok (b : UInt8) (h : notLow b = false) : odd8 b = false := by
 unfold notLow at h
 unfold odd8
 rw [Bool.or_eq_false_iff, decide_eq_false_iff_not, decide_eq_false_iff_not] at h ⊢
 omega
theorem nm_ok {x : ByteArray} (h : isNm x = true) : (∀ b ∈ x.data.toList, odd8 b = false) ∧ 0 < x.size ∧ x.size ≤ 8 := by
 unfold isNm at h
 simp only [Bool.and_eq_true, decide_eq_true_eq, List.all_eq_true, Bool.not_eq_true'] at h
 exact ⟨fun b hb => low_ok b (h.1 b hb), h.2.1, h.2.2⟩
theorem c7_ok : ∀ x ∈ (ByteArray.mk #[99, 104, 97, 110, 99, 101, 32]).data.toList, odd8 x = false := by decide
theorem sp_ok : ∀ x ∈ (ByteArray.mk #[32]).data.toList, odd8 x = false := by decide
theorem chaX_line {a b : ByteArray} (ha : isNm a = true) (hb : isNm b = true) : parts (chaX a b) = [sCha, a, b] ∧ wordOf (chaX a b) = sCha ∧ isLn (chaX a b) = true ∧ (chaX a b).size ≤ 60 := by
 have hn : ∀ v ∈ [a, b], isNm v = true := fun v hv => by
  rcases List.mem_cons.1 hv with e | e
  · rw [e]; exact ha
  · rw [List.mem_singleton] at e; rw [e]; exact hb
 have hp : parts (chaX a b) = [sCha, a, b] := by
  rw [chaX_eq, parts_nmd sCha (by decide) [a, b] hn [0, 1] (by
   intro i hi
   simp only [List.mem_cons, List.not_mem_nil, or_false] at hi
   rcases hi with rfl | rfl <;> simp)]
  rfl
 obtain ⟨a1, a2, a3⟩ := nm_ok ha
 obtain ⟨b1, b2, b3⟩ := nm_ok hb
 have hz : (chaX a b).size ≤ 60 := by
  unfold chaX
  rw [ByteArray.size_append, ByteArray.size_append, ByteArray.size_append]
  have h1 : (ByteArray.mk #[99, 104, 97, 110, 99, 101, 32]).size = 7 := rfl
  have h2 : (ByteArray.mk #[32]).size = 1 := rfl
  omega
 have hh := parts_head (chaX a b)
 rw [hp] at hh
 refine ⟨hp, (List.cons.inj hh).1.symm, ?_, hz⟩
 unfold isLn
 rw [hp, decide_eq_true hz, Bool.true_and, Bool.and_eq_true, List.all_eq_true, List.all_eq_true]
 constructor
 · intro x hx
   simp only [List.mem_cons, List.not_mem_nil, or_false] at hx
   rcases hx with rfl | rfl | rfl
   · decide
   · rw [decide_eq_true_eq]; intro e; rw [e] at a2; exact absurd a2 (by decide)
   · rw [decide_eq_true_eq]; intro e; rw [e] at b2; exact absurd b2 (by decide)
 · intro x hx
   unfold chaX at hx
   rw [ByteArray.data_append, ByteArray.data_append, ByteArray.data_append, Array.toList_append, Array.toList_append, Array.toList_append] at hx
   rw [Bool.not_eq_true']
   rcases List.mem_append.1 hx with hx | hx
   · rcases List.mem_append.1 hx with hx | hx
     · rcases List.mem_append.1 hx with hx | hx
       · exact c7_ok x hx
       · exact a1 x hx
     · exact sp_ok x hx
   · exact b1 x hx
set_option maxRecDepth 100000 in
theorem mintChaQ (a b : ByteArray) (ha : isNm a = true) (hb : isNm b = true) (R : Nat → Prop) (m : Nat) (d : Value) (L : List (Nat × Nat)) (k : Int) (s : Bk) (J : List ByteArray) (out : Bool) (w : World) (hm : MinM w R m d L k s J out) (hs : BkT s) (he : EnvN w) (hT : Tab w) :
 Calls Tryz.prog 11 #[.pointer (some ⟨m, 0, none⟩), .string (chaX a b)] w (AskR w (replyChance s a b)) := by
 obtain ⟨h1, h2, h3, h4⟩ := chaX_line ha hb
 refine mintAskF R m d L k s J out (chaX a b) (replyChance s a b) w hm fun sb hst => ?_
 refine askYes 2 0 97 (by decide) R sb s (chaX a b) [a, b] [] (replyChance s a b) (by omega) w he hT hst ?_ (fun args W => enters Tryz.func97 (by kernel_rfl) rfl args W) ?_ h3 (chanceQ s hs a b)
 · rw [h2]; kernel_rfl
 · rw [h1]
   unfold readP
   rw [if_pos ⟨rfl, by
    show (isNm a && (isNm b && true)) = true
    rw [ha, hb]; rfl, rfl⟩]
   rfl
end
/- Plain law of both rolls' walks: places of names, replies of chance, an index by a remainder. No condition. -/
section
open Go.RowKit Go.Maps
theorem med_ord {s : Bk} (hs : BkT s) : s.medals.length ≤ 6 ∧ OrdOk s.medals.length (bitsOf s.above) := by
 have hal := hs.bk.1.abv
 obtain ⟨ht1, ht2⟩ := hs.bk.2.bits
 rw [hal] at ht2
 exact ⟨hs.bk.1.med, ht2⟩
theorem cha_rep {s : Bk} (hs : BkT s) {i j : Nat} (hi : i < s.medals.length) (hj : j < s.medals.length) : replyChance s (s.medals.getD i ByteArray.empty) (s.medals.getD j ByteArray.empty) = if i = j then (ByteArray.empty, 2) else (chaT (chaN s.medals.length (bitsOf s.above) i j).1 (chaN s.medals.length (bitsOf s.above) i j).2, 0) := by
 unfold replyChance
 rw [idx_nodup hs.nm.mn hi, idx_nodup hs.nm.mn hj, if_pos ⟨by omega, by omega⟩]
 by_cases e : i = j
 · rw [if_pos (by omega), if_pos e]
 · rw [if_neg (by omega), if_neg e, Int.toNat_natCast, Int.toNat_natCast]
theorem mod_ix {n : Nat} (h0 : 0 < n) (h6 : n ≤ 6) (av : Int) : ∃ i0 : Nat, i0 < n ∧ wrap64 ((IntKind.u64.wrap av).tmod (n : Int)) = (i0 : Int) ∧ IntKind.i64.wrap ((IntKind.u64.wrap av).tmod (n : Int)) = (i0 : Int) := by
 have h0' : 0 ≤ IntKind.u64.wrap av := by rw [IntKind.wrap_u64]; omega
 have h1 : 0 ≤ IntKind.u64.wrap av % (n : Int) := Int.emod_nonneg _ (by omega)
 have h2 : IntKind.u64.wrap av % (n : Int) < n := Int.emod_lt_of_pos _ (by omega)
 rw [Int.tmod_eq_emod_of_nonneg h0']
 refine ⟨(IntKind.u64.wrap av % (n : Int)).toNat, by omega, ?_, ?_⟩
 · generalize IntKind.u64.wrap av % (n : Int) = z at *
   simp only [wrap64]
   omega
 · generalize IntKind.u64.wrap av % (n : Int) = z at *
   rw [Go.IntWalk.i64_in _ (by omega)]
   omega
end
/- Walk of planchettop's opened: a mint on three new copies that did some lines. Conditions: the lines are short of the shelf's bound; the library's variables stand. -/
section
open Go.RowKit Go.Maps
set_option maxRecDepth 100000 in
set_option maxHeartbeats 4000000 in
theorem openedT (w : World) (U : Option Addr) (n c0 : Nat) (l : List ByteArray) (he : EnvN w) (hT : Tab w) (hs : Sl w U n c0 (strV l)) (hl : ∀ x ∈ l, x.size ≤ 100000000) :
 Calls Tryz.prog 7 #[.slice U n c0] w fun x w' => ∃ K m A c L, x = .returned (.tuple #[.pointer (some ⟨m, 0, none⟩), .slice A 3 c, .bool true]) ∧ OpdS w w' K m A c L 1 (runD bk0 [] (l.take 60)).1 (runD bk0 [] (l.take 60)).2 (likeC 1 (runD bk0 [] (l.take 60)).2) false := by
 have HC := hid fun W => newCopyF W
 have HS := hid hs
 have HEN := hid he
 have HT := hid hT
 have HL := hid hl
 have hcap := hs.cap
 have hcapm := hs.capm
 have HLEN := hid (show l.length = n from by have := hs.len; simpa [strV] using this)
 clear hs he hT hl
 go_enter Tryz.func7, Tryz.ntmps7
 go_wp2_with fail
 refine (HC.out w).mono ?_; rintro e wa ⟨ca, ma, rfl, ka, ba, pa, qa⟩
 have N1 := (NewC.nil wa w.heap.size).snoc ka (Nat.le_refl _) pa qa (fun p h => by simp at h)
 have NA := hid N1
 have BA := hid ba
 have LA := hid ka.lt
 clear ka ba N1 pa qa
 go_wp2_with fail
 refine (HC.out wa).mono ?_; rintro e wb ⟨cb, mb, rfl, kb, bb, pb, qb⟩
 have N2 := (NA.out.keep bb).snoc kb BA.out.size pb qb (fun p h => by simp at h; subst h; exact LA.out)
 have NB := hid N2
 have BB := hid (below_call BA.out bb BA.out.size)
 have LB := hid (And.intro kb.lt (And.intro (Nat.lt_of_lt_of_le LA.out.1 bb.size) (Nat.lt_of_lt_of_le LA.out.2 bb.size)))
 clear kb bb N2 pb qb NA BA LA
 go_wp2_with fail
 refine (HC.out wb).mono ?_; rintro e wc ⟨cc, mc, rfl, kc, bc, pc, qc⟩
 have N3 := (NB.out.keep bc).snoc kc BB.out.size pc qc (fun p h => by
  simp at h
  rcases h with h | h
  · subst h; exact ⟨LB.out.2.1, LB.out.2.2⟩
  · subst h; exact LB.out.1)
 have NC := hid N3
 have BC := hid (below_call BB.out bc BB.out.size)
 clear kc bc N3 pc qc NB BB LB HC
 obtain ⟨L, hL⟩ : ∃ L, L = ([] ++ [(ca, ma)] ++ [(cb, mb)] ++ [(cc, mc)] : List (Nat × Nat)) := ⟨_, rfl⟩
 have hl3 : L.length = 3 := by rw [hL]; rfl
 have hpt : ptrs (L.map (·.1)) = [.pointer (some ⟨ca, 0, none⟩), .pointer (some ⟨cb, 0, none⟩), .pointer (some ⟨cc, 0, none⟩)] := by rw [hL]; rfl
 rw [← hL] at NC
 have HPT := hid hpt
 have HL3 := hid hl3
 clear hL hpt hl3
 go_wp2_with fail
 have hbw := (Below.refl wc.heap.size wc).alloc (Nat.le_refl _) (.cells #[.pointer (some ⟨ca, 0, none⟩), .pointer (some ⟨cb, 0, none⟩), .pointer (some ⟨cc, 0, none⟩)] 67)
 have HOW := hid (show (wc.alloc (.cells #[.pointer (some ⟨ca, 0, none⟩), .pointer (some ⟨cb, 0, none⟩), .pointer (some ⟨cc, 0, none⟩)] 67)).ownsRow w.heap.size 67 1 (.slice (some ⟨wc.heap.size, 0, none⟩) 3 3) 3 (ptrs (L.map (·.1))) from by
  rw [HPT.out]
  exact blk_own (Blk.new wc 67 #[.pointer (some ⟨ca, 0, none⟩), .pointer (some ⟨cb, 0, none⟩), .pointer (some ⟨cc, 0, none⟩)]) BC.out.size rfl (by omega))
 have HB1 := hid (below_call BC.out hbw BC.out.size)
 have HNC := hid (NC.out.keep hbw)
 have HCL := hid (cloneC (some ⟨wc.heap.size, 0, none⟩) 3 3 _ (ptrs_one _) (by omega) _ (Sl.of_own HOW.out))
 clear hbw NC BC HPT
 generalize wc.alloc (.cells #[.pointer (some ⟨ca, 0, none⟩), .pointer (some ⟨cb, 0, none⟩), .pointer (some ⟨cc, 0, none⟩)] 67) = w1 at *
 obtain ⟨hb, hhb⟩ : ∃ x, x = wc.heap.size := ⟨_, rfl⟩
 rw [← hhb] at HOW HCL ⊢
 clear hhb
 refine (HCL.out).mono ?_; rintro e w2 ⟨A2, c2, rfl, ho2, b2⟩
 have HO2 := hid ho2
 have HB2 := hid (below_call HB1.out b2 HB1.out.size)
 have HOW2 := hid (own_below HOW.out b2)
 have HNC2 := hid (HNC.out.keep b2)
 have HLB := hid (show ∀ i, inL L i → w.heap.size ≤ i ∧ i < w2.heap.size from fun i hi => by
  rcases hi with hi | hi
  · obtain ⟨p, hp, rfl⟩ := List.mem_map.1 hi
    exact ⟨(HNC2.out.cpm p hp).2.1, (HNC2.out.cpm p hp).1.lt.1⟩
  · obtain ⟨p, hp, rfl⟩ := List.mem_map.1 hi
    exact ⟨(HNC2.out.cpm p hp).2.2, (HNC2.out.cpm p hp).1.lt.2⟩)
 have hcps := cps_new HNC2.out HL3.out
 have hr0 : runL stepL bk0 [] = some bk0 := rfl
 have htop : topM (likeC 0 []) = 0 := top_like 0 [] (by omega)
 have hrd : readM (likeC 0 []) = (bk0, []) := read_like 0 [] bk0 (by omega) (by simp) hr0
 have hop : openM (likeC 0 []) = likeC 1 [] := open_like 0 [] bk0 (by omega) (by simp) hr0
 have HOP := hid (openG3 w w2 A2 c2 L (likeC 0 []) HB2.out HEN.out HT.out (Sl.of_own HO2.out) hcps (fun i hi => (HLB.out i hi).1) (by rw [htop]; omega) (fun i y hy => by rw [best_like, ent_nil] at hy; cases hy))
 unfold OpenR at HOP
 rw [htop, hrd, hop, like_reach] at HOP
 clear ho2 b2 hcps hr0 htop hrd hop HCL
 go_wp2_with fail
 refine (HOP.out).mono ?_; rintro e w3 hor
 rcases hor with ⟨hno, _, _⟩ | ⟨_, m, d, R, rfl, hmm, hcc, hch, hft⟩
 · omega
 have HOD := hid (show OpdS w w3 w2.heap.size m (some ⟨hb, 0, none⟩) 3 L 1 bk0 [] (likeC 1 []) false from
  ⟨⟨R, d, hmm, hft⟩, hcc, own_chsM HOW2.out hch (own_notL HOW2.out (cps_new HNC2.out HL3.out)), HLB.out, fun g hg => (HOW2.out.lt g hg).2, hch.below HB2.out HB2.out.size (fun i hi => (HLB.out i hi).1), HB2.out.size, hch.size⟩)
 obtain ⟨K, hK⟩ : ∃ K, K = w2.heap.size := ⟨_, rfl⟩
 rw [← hK] at HOD
 clear hmm hcc hch hft HOP hK HLB
 obtain ⟨lim, hlim⟩ : ∃ lim, lim = min n 60 := ⟨_, rfl⟩
 have hmin : min (n : Int) 60 = (lim : Int) := by omega
 have hlimn : lim ≤ n := by omega
 have hlim60 : lim ≤ 60 := by omega
 have HLN := hid (show lim = min n 60 from hlim)
 clear hlim
 go_wp2
 go_loopg [30] lim (fun gk i wr => ∃ dd : Nat, gk + dd = lim ∧ i = .int .i64 dd ∧ Hid (OpdS w wr K m (some ⟨hb, 0, none⟩) 3 L 1 (runD bk0 [] (l.take dd)).1 (runD bk0 [] (l.take dd)).2 (likeC 1 (runD bk0 [] (l.take dd)).2) false))
 case atStart => exact ⟨0, by omega, rfl, HOD⟩
 case round =>
  clear HOD
  obtain ⟨dd, hdd, rfl, HP⟩ := hrel
  have HDD := hid hdd
  by_cases hlt : dd < lim
  · have HLT := hid hlt
    obtain ⟨ub, uo, u, rfl, lb, e1, ca⟩ := (HS.out.below HP.out.low).at (k := dd) (by omega)
    obtain ⟨x, hx, rfl⟩ := strV_at e1
    have hjl : (runD bk0 [] (l.take dd)).2.length < 200 := by
     have := runD_len (l.take dd) bk0 []
     rw [List.length_take, List.length_nil] at this
     omega
    have HDG := hid (OpdS.doG x HP.out HEN.out HT.out (by omega) (runD_keep _ _ _ BkI.begin) (HL.out x (List.mem_of_getElem? hx)))
    obtain ⟨en, hen⟩ := doM_run hx hjl
    rw [hen] at HDG
    clear hdd hlt e1 lb hx hjl hen
    go_wp2_with fail
    refine (HDG.out).mono ?_; rintro e w5 ⟨⟨word, rfl⟩, hod⟩
    have HN := hid hod
    clear hod HDG ca
    go_wp2
    go_roundg (gk - 1)
    case measure => have := HDD.out; have := HLT.out; omega
    case rel => exact ⟨dd + 1, by have := HDD.out; have := HLT.out; omega, by go_num, HN⟩
  · obtain rfl : dd = lim := by have := HDD.out; omega
    have htk : l.take dd = l.take 60 := by
     have h1 := HLN.out
     have h2 := HLEN.out
     by_cases h6 : n ≤ 60
     · rw [List.take_of_length_le (by omega), List.take_of_length_le (by omega)]
     · rw [show dd = 60 by omega]
    rw [htk] at HP
    clear hdd hlt htk
    go_wp2
    go_ret3
    exact ⟨K, m, some ⟨hb, 0, none⟩, 3, L, rfl, HP.out⟩
end
/- Walk of awake, over the question roll at any medals. Condition: the library's variables stand. -/
section
open Go.RowKit Go.Maps
def sMGold : ByteArray := ⟨#[109, 101, 100, 97, 108, 32, 103, 111, 108, 100]⟩
def sRoll2 : ByteArray := ⟨#[114, 111, 108, 108]⟩
abbrev sGd : ByteArray := ⟨#[103, 111, 108, 100]⟩
/-- The books behind one medal. -/
def sG : Bk := ⟨[sGd], [0], [], [], 0, 0, 0, 1, []⟩
theorem bkt_gold : BkT sG := (run_at [sMGold] bk0 sG BkT.begin (by kernel_rfl)).1
theorem rollG : AskC 95 sG [] [] (⟨#[114, 111, 108, 108, 32, 103, 111, 108, 100]⟩, 0) := by
 have h := rollQ sG bkt_gold
 rwa [show replyRoll sG = ((⟨#[114, 111, 108, 108, 32, 103, 111, 108, 100]⟩ : ByteArray), 0) from by kernel_rfl] at h
theorem doL_gold : doL bk0 sMGold = (sG, 0) := by kernel_rfl
/-- A mint with one medal is asked for the roll. -/
theorem mintRollQ (R : Nat → Prop) (m : Nat) (d : Value) (L : List (Nat × Nat)) (k : Int) (J : List ByteArray) (out : Bool) (w : World) (hm : MinM w R m d L k sG J out) (he : EnvN w) (hT : Tab w) :
 Calls Tryz.prog 11 #[.pointer (some ⟨m, 0, none⟩), .string sRoll2] w (AskR w (⟨#[114, 111, 108, 108, 32, 103, 111, 108, 100]⟩, 0)) := by
 refine mintAskF R m d L k sG J out sRoll2 _ w hm fun sb hst => ?_
 exact askYes 0 0 95 (by decide) R sb sG sRoll2 [] [] _ (by decide) w he hT hst (by kernel_rfl) (fun args W => enters Tryz.func95 (by kernel_rfl) rfl args W) (by kernel_rfl) (by kernel_rfl) rollG
end
/- Walk of planchettop's takes. Condition: the library's variables stand. -/
section
open Go.RowKit Go.Maps
theorem run_gold : runD bk0 [] ([sMGold].take 60) = (sG, [sMGold]) := by
 show (if (doL bk0 sMGold).2 ≠ 0 then runD bk0 [] [] else runD (doL bk0 sMGold).1 ([] ++ [sMGold]) []) = (sG, [sMGold])
 rw [doL_gold]
 rfl
set_option maxRecDepth 100000 in
set_option maxHeartbeats 4000000 in
theorem takesF (w : World) (he : EnvN w) (hT : Tab w) :
 Calls Tryz.prog 12 #[] w fun e w' => e = .returned (.bool true) ∧ Below w.heap.size w w' := by
 have hb := (Below.refl w.heap.size w).alloc (Nat.le_refl _) (.cells #[.string sMGold] 9)
 have HB0 := hid hb
 have HT := hid hT
 have HE := hid he
 have hs : Sl (w.alloc (.cells #[.string sMGold] 9)) (some ⟨w.heap.size, 0, none⟩) 1 1 (strV [sMGold]) := Sl.of_own (blk_own (base := 0) (Blk.new w 9 #[.string sMGold]) (Nat.zero_le _) rfl (by omega))
 have hof := openedT (w.alloc (.cells #[.string sMGold] 9)) (some ⟨w.heap.size, 0, none⟩) 1 1 [sMGold] (he.keep hb) (hT.below hb) hs (fun x hx => by simp at hx; subst hx; decide)
 rw [run_gold] at hof
 have HOF := hid hof
 unfold sMGold at HOF
 clear hof hs hb he hT
 go_enter Tryz.func12, Tryz.ntmps12
 go_wp2_with fail
 refine (HOF.out).mono ?_; rintro e w1 ⟨K, m, A, c, L, rfl, hop⟩
 obtain ⟨R, d, hmm, hft⟩ := hop.mm
 have hlow := below_call HB0.out hop.low HB0.out.size
 have HB1 := hid hlow
 have hrq := mintRollQ R m d L 1 _ false w1 hmm (HE.out.keep hlow) (HT.out.below hlow)
 unfold AskR sRoll2 at hrq
 have HA := hid hrq
 clear hop hmm hft hlow hrq HOF
 go_wp2_with fail
 refine (HA.out).mono ?_; rintro e w4 ⟨rfl, b4⟩
 have HB4 := hid (below_call HB1.out b4 HB1.out.size)
 clear b4 HA
 go_wp2
 go_ret
 exact ⟨rfl, HB4.out⟩
end
end Go.Proofs.YtnibidmlkbcfkaaGreatDoor
