/- Texts of this proof, one behind the other; each says its condition at its head. -/
import Derived.Test.YtapeledneokgpaaGreatDoorP32
import Derived.Test.YtapeledneokgpaaGreatDoorP33
import Derived.Test.YtapeledneokgpaaGreatDoorP30
/- Walk of the question price. Conditions: what a mint's books keep; the bets are sound; the library's variables stand. -/
namespace Go.Proofs.YtapeledneokgpaaGreatDoor
open Go.RowKit Go.Maps
def sPrice : ByteArray := ⟨#[112, 114, 105, 99, 101]⟩
/-- What 'price' replies. -/
def replyPrice (s : Bk) (e : Nat) : ByteArray × Nat := if e < 8 then (numd sPrice (priceL (allB s.bets) e), 0) else (ByteArray.empty, 2)
theorem price_lt {l : List (Int × Int)} {e : Int} {c : Nat} (h : c ∈ priceL l e) : c < 13 := (price_mem.1 h).1
theorem price_len (l : List (Int × Int)) (e : Int) : (priceL l e).length ≤ 13 := by
 unfold priceL
 exact Nat.le_trans (List.length_filter_le _ _) (by simp)
theorem toldPrice (l : List (Int × Int)) (e : Int) (O : Option Addr) (oc : Nat) (W : World) (h : Sl W O (priceL l e).length oc (nV (priceL l e))) (he : EnvN W) :
 Calls Tryz.prog 168 #[.int .i64 0, .string sPrice, .slice O (priceL l e).length oc] W fun x w' => x = .returned (.tuple #[.string (numd sPrice (priceL l e)), .int .i64 0]) ∧ Below W.heap.size W w' :=
 toldF sPrice O _ oc (priceL l e) W h (fun _ hi => Nat.lt_trans (price_lt hi) (by decide)) (by decide) (Nat.le_trans (price_len l e) (by decide)) he
set_option maxRecDepth 100000 in
set_option maxHeartbeats 4000000 in
theorem priceQ (s : Bk) (hs : BkT s) (hn : SndI s) (e : Nat) (he : e ≤ 1000) : AskC 125 s [] [(e : Int)] (replyPrice s e) := by
 intro w G sb A c D d hst hA hD hE hT
 obtain ⟨M, mc, U, uc, Q, pc, T, tc, E, ec, g1, _, _, _, _, g6, _, _, _, _, _, _⟩ := hst.ex
 have hok := allB_ok hs.bk.1.bet
 unfold SndI at hn
 have B1 := (Below.refl w.heap.size w).alloc (Nat.le_refl _) (.cells #[.slice A 0 c, .slice D 1 d] 139)
 have HB1 := hid B1
 have c5 := (g1.keep B1).cell 9
 have H3 := hid (Blk.new w 139 #[.slice A 0 c, .slice D 1 d])
 have l1 := H3.out.cell 1
 simp only [stV, List.getElem?_toArray, List.getElem?_cons_zero, List.getElem?_cons_succ] at c5 l1
 have HE2 := hid (g6.below B1)
 have HEN := hid (hE.keep B1)
 obtain ⟨db, dd, u, rfl, lb, e1, hd0⟩ := hD.at (k := 0) (by simp)
 obtain rfl : u = .int .i64 (e : Nat) := by simpa [intV] using e1.symm
 have d0 := cell_keep B1 hd0
 rw [Nat.add_zero] at d0
 have hfull := price_len (allB s.bets) e
 unfold replyPrice
 have hal : allB s.bets = if s.bets.length = 0 then [(0, 0)] else s.bets := rfl
 clear hs hst hA hD hE hT g1 B1 e1 hd0 lb H3
 generalize hnl : s.bets.length = n at *
 obtain ⟨W, hW⟩ : ∃ W, W = w.alloc (.cells #[.slice A 0 c, .slice (some ⟨db, dd, none⟩) 1 d] 139) := ⟨_, rfl⟩
 rw [← hW] at HB1 c5 l1 HE2 HEN d0
 by_cases h0 : n = 0
 · rw [if_pos h0] at hal
   rw [hal] at hok hn hfull ⊢
   subst h0
   have bA := (Below.refl W.heap.size W).alloc (Nat.le_refl _) (.cells #[.int .i64 0, .int .i64 0] 65)
   have hsl : Sl2 (W.alloc (.cells #[.int .i64 0, .int .i64 0] 65)) (some ⟨W.heap.size, 0, none⟩) 1 1 [(0, 0)] := ⟨rfl, Nat.le_refl _, by unfold maxLen; omega, fun _ => ⟨W.heap.size, 0, rfl, by simp, fun j u hu => by
    match j, hu with
    | 0, hu =>
     cases hu
     exact ⟨(Blk.new W 65 #[.int .i64 0, .int .i64 0]).cell 0, (Blk.new W 65 #[.int .i64 0, .int .i64 0]).cell 1⟩⟩⟩
   have HAB := hid (below_call HB1.out bA HB1.out.size)
   have HAEN := hid (HEN.out.keep bA)
   have hsz : W.heap.size = w.heap.size + 1 := by rw [hW]; simp
   have d0 := cell_keep bA d0
   have l1 := cell_keep bA l1
   by_cases h8 : e < 8
   · rw [if_pos h8]
     have HP := hid (priceF _ _ _ _ e h8 _ hsl hok hn)
     have HTL := hid fun O oc W2 hsl2 hen => toldPrice [(0, 0)] e O oc W2 hsl2 hen
     clear hsl bA hok hn hfull hal h8
     rw [hsz] at HP
     generalize numd sPrice (priceL [(0, 0)] e) = rep at *
     generalize (priceL [(0, 0)] e).length = pl at *
     generalize priceL [(0, 0)] e = pv at *
     unfold sPrice at HTL
     subst hW
     go_enter Tryz.func125, Tryz.ntmps125
     go_wp2_with fail
     refine (HP.out).mono ?_; rintro r w2 ⟨O, oc, rfl, ho, b2⟩
     have HT2 := hid (HTL.out O oc w2 ho (HAEN.out.keep b2))
     have HB2 := hid (below_call HAB.out b2 HAB.out.size)
     clear HTL HP ho b2
     go_wp2_with fail
     refine (HT2.out).mono ?_; rintro r w3 ⟨rfl, b3⟩
     have HB3 := hid (below_call HB2.out b3 HB2.out.size)
     clear b3 HT2
     go_wp2
     go_ret2
     exact ⟨rfl, HB3.out⟩
   · rw [if_neg h8]
     have HP := hid (priceNo _ _ _ _ e he h8 _ hsl hok)
     rw [hsz] at HP
     have HTL := hid fun W2 => toldErr 2 (by decide) sPrice none 0 0 W2
     clear hsl bA hok hn hfull hal h8
     unfold sPrice at HTL
     subst hW
     go_enter Tryz.func125, Tryz.ntmps125
     go_wp2_with fail
     refine (HP.out).mono ?_; rintro r w2 ⟨rfl, b2⟩
     have HB2 := hid (below_call HAB.out b2 HAB.out.size)
     clear HP b2
     go_wp2_with fail
     refine (HTL.out _).mono ?_; rintro r w3 ⟨rfl, rfl⟩
     go_wp2
     go_ret2
     exact ⟨rfl, HB2.out⟩
 · rw [if_neg h0] at hal
   rw [hal] at hok hn hfull ⊢
   have hz : ((n : Int) == 0) = false := by rw [beq_eq_false_iff_ne]; omega
   have hz2 : (n == 0) = false := by rw [beq_eq_false_iff_ne]; exact h0
   have HAB := HB1
   have HAEN := HEN
   have hsl := HE2.out
   clear h0
   by_cases h8 : e < 8
   · rw [if_pos h8]
     have HP := hid (priceF _ _ _ _ e h8 _ hsl hok hn)
     have HTL := hid fun O oc W2 hsl2 hen => toldPrice s.bets e O oc W2 hsl2 hen
     clear hsl hok hn hfull hal h8
     skip
     generalize numd sPrice (priceL s.bets e) = rep at *
     generalize (priceL s.bets e).length = pl at *
     generalize priceL s.bets e = pv at *
     unfold sPrice at HTL
     subst hW
     go_enter Tryz.func125, Tryz.ntmps125
     go_wp2_with fail
     refine (HP.out).mono ?_; rintro r w2 ⟨O, oc, rfl, ho, b2⟩
     have HT2 := hid (HTL.out O oc w2 ho (HAEN.out.keep b2))
     have HB2 := hid (below_call HAB.out b2 HAB.out.size)
     clear HTL HP ho b2
     go_wp2_with fail
     refine (HT2.out).mono ?_; rintro r w3 ⟨rfl, b3⟩
     have HB3 := hid (below_call HB2.out b3 HB2.out.size)
     clear b3 HT2
     go_wp2
     go_ret2
     exact ⟨rfl, HB3.out⟩
   · rw [if_neg h8]
     have HP := hid (priceNo _ _ _ _ e he h8 _ hsl hok)
     skip
     have HTL := hid fun W2 => toldErr 2 (by decide) sPrice none 0 0 W2
     clear hsl hok hn hfull hal h8
     unfold sPrice at HTL
     subst hW
     go_enter Tryz.func125, Tryz.ntmps125
     go_wp2_with fail
     refine (HP.out).mono ?_; rintro r w2 ⟨rfl, b2⟩
     have HB2 := hid (below_call HAB.out b2 HAB.out.size)
     clear HP b2
     go_wp2_with fail
     refine (HTL.out _).mono ?_; rintro r w3 ⟨rfl, rfl⟩
     go_wp2
     go_ret2
     exact ⟨rfl, HB2.out⟩
end Go.Proofs.YtapeledneokgpaaGreatDoor
/- The question price at closed texts. Conditions: what a mint's books keep; the bets are sound; the library's variables stand. -/
namespace Go.Proofs.YtapeledneokgpaaGreatDoor
open Go.RowKit Go.Maps
/-- What is asked of a text that asks for the price of an event. -/
def PrT (x : ByteArray) (e : Nat) : Prop := x.size ≤ 100000000 ∧ asS questionsL (.string (wordOf x)) = some (.agg #[.int .i64 (0 : Nat), .int .i64 (1 : Nat), .nilFunc, .func (.func 125) #[] #[]]) ∧ readP 0 1 (parts x).tail = some ([], [(e : Int)]) ∧ isLn x = true
def prX (c : UInt8) : ByteArray := ⟨#[112, 114, 105, 99, 101, 32, c]⟩
set_option maxRecDepth 100000 in
theorem prT0 : PrT (prX 48) 0 := by
 refine ⟨?_, ?_, ?_, ?_⟩
 · exact Nat.le_of_ble_eq_true rfl
 · kernel_rfl
 · kernel_rfl
 · kernel_rfl
theorem prN0 : numd sPrice [0] = prX 48 := by kernel_rfl
set_option maxRecDepth 100000 in
theorem prT1 : PrT (prX 49) 1 := by
 refine ⟨?_, ?_, ?_, ?_⟩
 · exact Nat.le_of_ble_eq_true rfl
 · kernel_rfl
 · kernel_rfl
 · kernel_rfl
theorem prN1 : numd sPrice [1] = prX 49 := by kernel_rfl
set_option maxRecDepth 100000 in
theorem prT2 : PrT (prX 50) 2 := by
 refine ⟨?_, ?_, ?_, ?_⟩
 · exact Nat.le_of_ble_eq_true rfl
 · kernel_rfl
 · kernel_rfl
 · kernel_rfl
theorem prN2 : numd sPrice [2] = prX 50 := by kernel_rfl
set_option maxRecDepth 100000 in
theorem prT3 : PrT (prX 51) 3 := by
 refine ⟨?_, ?_, ?_, ?_⟩
 · exact Nat.le_of_ble_eq_true rfl
 · kernel_rfl
 · kernel_rfl
 · kernel_rfl
theorem prN3 : numd sPrice [3] = prX 51 := by kernel_rfl
set_option maxRecDepth 100000 in
theorem prT4 : PrT (prX 52) 4 := by
 refine ⟨?_, ?_, ?_, ?_⟩
 · exact Nat.le_of_ble_eq_true rfl
 · kernel_rfl
 · kernel_rfl
 · kernel_rfl
theorem prN4 : numd sPrice [4] = prX 52 := by kernel_rfl
set_option maxRecDepth 100000 in
theorem prT5 : PrT (prX 53) 5 := by
 refine ⟨?_, ?_, ?_, ?_⟩
 · exact Nat.le_of_ble_eq_true rfl
 · kernel_rfl
 · kernel_rfl
 · kernel_rfl
theorem prN5 : numd sPrice [5] = prX 53 := by kernel_rfl
set_option maxRecDepth 100000 in
theorem prT6 : PrT (prX 54) 6 := by
 refine ⟨?_, ?_, ?_, ?_⟩
 · exact Nat.le_of_ble_eq_true rfl
 · kernel_rfl
 · kernel_rfl
 · kernel_rfl
theorem prN6 : numd sPrice [6] = prX 54 := by kernel_rfl
set_option maxRecDepth 100000 in
theorem prT7 : PrT (prX 55) 7 := by
 refine ⟨?_, ?_, ?_, ?_⟩
 · exact Nat.le_of_ble_eq_true rfl
 · kernel_rfl
 · kernel_rfl
 · kernel_rfl
theorem prN7 : numd sPrice [7] = prX 55 := by kernel_rfl
set_option maxRecDepth 100000 in
theorem prT8 : PrT (prX 56) 8 := by
 refine ⟨?_, ?_, ?_, ?_⟩
 · exact Nat.le_of_ble_eq_true rfl
 · kernel_rfl
 · kernel_rfl
 · kernel_rfl
theorem prN8 : numd sPrice [8] = prX 56 := by kernel_rfl
theorem prT_all (e : Nat) (he : e < 9) : PrT (numd sPrice [e]) e := by
 rcases (show e = 0 ∨ e = 1 ∨ e = 2 ∨ e = 3 ∨ e = 4 ∨ e = 5 ∨ e = 6 ∨ e = 7 ∨ e = 8 by omega) with rfl | rfl | rfl | rfl | rfl | rfl | rfl | rfl | rfl
 · rw [prN0]; exact prT0
 · rw [prN1]; exact prT1
 · rw [prN2]; exact prT2
 · rw [prN3]; exact prT3
 · rw [prN4]; exact prT4
 · rw [prN5]; exact prT5
 · rw [prN6]; exact prT6
 · rw [prN7]; exact prT7
 · rw [prN8]; exact prT8
theorem mintPriceQ (e : Nat) (he : e < 9) (R : Nat → Prop) (m : Nat) (d : Value) (L : List (Nat × Nat)) (k : Int) (s : Bk) (J : List ByteArray) (out : Bool) (w : World) (hm : MinM w R m d L k s J out) (hs : BkT s) (hn : SndI s) (hE : EnvN w) (hT : Tab w) :
 Calls Tryz.prog 12 #[.pointer (some ⟨m, 0, none⟩), .string (numd sPrice [e])] w (AskR w (replyPrice s e)) := by
 obtain ⟨h1, h2, h3, h4⟩ := prT_all e he
 exact mintAskF R m d L k s J out _ (replyPrice s e) w hm fun sb hst => askYes 0 1 125 (by decide) R sb s _ [] [(e : Int)] (replyPrice s e) h1 w hE hT hst h2 (fun args W => enters Tryz.func125 (by kernel_rfl) rfl args W) h3 h4 (priceQ s hs hn e (by omega))
end Go.Proofs.YtapeledneokgpaaGreatDoor
/- Walk of planchettop's opened: a mint on three new copies that did some lines. Conditions: the lines are short of the shelf's bound; the library's variables stand. -/
namespace Go.Proofs.YtapeledneokgpaaGreatDoor
open Go.RowKit Go.Maps
set_option maxRecDepth 100000 in
set_option maxHeartbeats 4000000 in
theorem openedT (w : World) (U : Option Addr) (n c0 : Nat) (l : List ByteArray) (he : EnvN w) (hT : Tab w) (hs : Sl w U n c0 (strV l)) (hl : ∀ x ∈ l, x.size ≤ 100000000) :
 Calls Tryz.prog 8 #[.slice U n c0] w fun x w' => ∃ K m A c L, x = .returned (.tuple #[.pointer (some ⟨m, 0, none⟩), .slice A 3 c, .bool true]) ∧ OpdS w w' K m A c L 1 (runD bk0 [] (l.take 60)).1 (runD bk0 [] (l.take 60)).2 (likeC 1 (runD bk0 [] (l.take 60)).2) false := by
 have HC := hid fun W => newCopyF W
 have HS := hid hs
 have HEN := hid he
 have HT := hid hT
 have HL := hid hl
 have hcap := hs.cap
 have hcapm := hs.capm
 have HLEN := hid (show l.length = n from by have := hs.len; simpa [strV] using this)
 clear hs he hT hl
 go_enter Tryz.func8, Tryz.ntmps8
 go_wp2_with fail
 refine (HC.out w).mono ?_; rintro e wa ⟨ca, ma, rfl, ka, ba, pa, qa⟩
 have N1 := (NewC.nil wa w.heap.size).snoc ka (Nat.le_refl _) pa qa (fun p h => by simp at h)
 have NA := hid N1
 have BA := hid ba
 have LA := hid ka.lt
 clear ka ba N1 pa qa
 go_wp2_with fail
 refine (HC.out wa).mono ?_; rintro e wb ⟨cb, mb, rfl, kb, bb, pb, qb⟩
 have N2 := (NA.out.keep bb).snoc kb BA.out.size pb qb (fun p h => by simp at h; subst h; exact LA.out)
 have NB := hid N2
 have BB := hid (below_call BA.out bb BA.out.size)
 have LB := hid (And.intro kb.lt (And.intro (Nat.lt_of_lt_of_le LA.out.1 bb.size) (Nat.lt_of_lt_of_le LA.out.2 bb.size)))
 clear kb bb N2 pb qb NA BA LA
 go_wp2_with fail
 refine (HC.out wb).mono ?_; rintro e wc ⟨cc, mc, rfl, kc, bc, pc, qc⟩
 have N3 := (NB.out.keep bc).snoc kc BB.out.size pc qc (fun p h => by
  simp at h
  rcases h with h | h
  · subst h; exact ⟨LB.out.2.1, LB.out.2.2⟩
  · subst h; exact LB.out.1)
 have NC := hid N3
 have BC := hid (below_call BB.out bc BB.out.size)
 clear kc bc N3 pc qc NB BB LB HC
 obtain ⟨L, hL⟩ : ∃ L, L = ([] ++ [(ca, ma)] ++ [(cb, mb)] ++ [(cc, mc)] : List (Nat × Nat)) := ⟨_, rfl⟩
 have hl3 : L.length = 3 := by rw [hL]; rfl
 have hpt : ptrs (L.map (·.1)) = [.pointer (some ⟨ca, 0, none⟩), .pointer (some ⟨cb, 0, none⟩), .pointer (some ⟨cc, 0, none⟩)] := by rw [hL]; rfl
 rw [← hL] at NC
 have HPT := hid hpt
 have HL3 := hid hl3
 clear hL hpt hl3
 go_wp2_with fail
 have hbw := (Below.refl wc.heap.size wc).alloc (Nat.le_refl _) (.cells #[.pointer (some ⟨ca, 0, none⟩), .pointer (some ⟨cb, 0, none⟩), .pointer (some ⟨cc, 0, none⟩)] 74)
 have HOW := hid (show (wc.alloc (.cells #[.pointer (some ⟨ca, 0, none⟩), .pointer (some ⟨cb, 0, none⟩), .pointer (some ⟨cc, 0, none⟩)] 74)).ownsRow w.heap.size 74 1 (.slice (some ⟨wc.heap.size, 0, none⟩) 3 3) 3 (ptrs (L.map (·.1))) from by
  rw [HPT.out]
  exact blk_own (Blk.new wc 74 #[.pointer (some ⟨ca, 0, none⟩), .pointer (some ⟨cb, 0, none⟩), .pointer (some ⟨cc, 0, none⟩)]) BC.out.size rfl (by omega))
 have HB1 := hid (below_call BC.out hbw BC.out.size)
 have HNC := hid (NC.out.keep hbw)
 have HCL := hid (cloneC (some ⟨wc.heap.size, 0, none⟩) 3 3 _ (ptrs_one _) (by omega) _ (Sl.of_own HOW.out))
 clear hbw NC BC HPT
 generalize wc.alloc (.cells #[.pointer (some ⟨ca, 0, none⟩), .pointer (some ⟨cb, 0, none⟩), .pointer (some ⟨cc, 0, none⟩)] 74) = w1 at *
 obtain ⟨hb, hhb⟩ : ∃ x, x = wc.heap.size := ⟨_, rfl⟩
 rw [← hhb] at HOW HCL ⊢
 clear hhb
 refine (HCL.out).mono ?_; rintro e w2 ⟨A2, c2, rfl, ho2, b2⟩
 have HO2 := hid ho2
 have HB2 := hid (below_call HB1.out b2 HB1.out.size)
 have HOW2 := hid (own_below HOW.out b2)
 have HNC2 := hid (HNC.out.keep b2)
 have HLB := hid (show ∀ i, inL L i → w.heap.size ≤ i ∧ i < w2.heap.size from fun i hi => by
  rcases hi with hi | hi
  · obtain ⟨p, hp, rfl⟩ := List.mem_map.1 hi
    exact ⟨(HNC2.out.cpm p hp).2.1, (HNC2.out.cpm p hp).1.lt.1⟩
  · obtain ⟨p, hp, rfl⟩ := List.mem_map.1 hi
    exact ⟨(HNC2.out.cpm p hp).2.2, (HNC2.out.cpm p hp).1.lt.2⟩)
 have hcps := cps_new HNC2.out HL3.out
 have hr0 : runL stepL bk0 [] = some bk0 := rfl
 have htop : topM (likeC 0 []) = 0 := top_like 0 [] (by omega)
 have hrd : readM (likeC 0 []) = (bk0, []) := read_like 0 [] bk0 (by omega) (by simp) hr0
 have hop : openM (likeC 0 []) = likeC 1 [] := open_like 0 [] bk0 (by omega) (by simp) hr0
 have HOP := hid (openG3 w w2 A2 c2 L (likeC 0 []) HB2.out HEN.out HT.out (Sl.of_own HO2.out) hcps (fun i hi => (HLB.out i hi).1) (by rw [htop]; omega) (fun i y hy => by rw [best_like, ent_nil] at hy; cases hy))
 unfold OpenR at HOP
 rw [htop, hrd, hop, like_reach] at HOP
 clear ho2 b2 hcps hr0 htop hrd hop HCL
 go_wp2_with fail
 refine (HOP.out).mono ?_; rintro e w3 hor
 rcases hor with ⟨hno, _, _⟩ | ⟨_, m, d, R, rfl, hmm, hcc, hch, hft⟩
 · omega
 have HOD := hid (show OpdS w w3 w2.heap.size m (some ⟨hb, 0, none⟩) 3 L 1 bk0 [] (likeC 1 []) false from
  ⟨⟨R, d, hmm, hft⟩, hcc, own_chsM HOW2.out hch (own_notL HOW2.out (cps_new HNC2.out HL3.out)), HLB.out, fun g hg => (HOW2.out.lt g hg).2, hch.below HB2.out HB2.out.size (fun i hi => (HLB.out i hi).1), HB2.out.size, hch.size⟩)
 obtain ⟨K, hK⟩ : ∃ K, K = w2.heap.size := ⟨_, rfl⟩
 rw [← hK] at HOD
 clear hmm hcc hch hft HOP hK HLB
 obtain ⟨lim, hlim⟩ : ∃ lim, lim = min n 60 := ⟨_, rfl⟩
 have hmin : min (n : Int) 60 = (lim : Int) := by omega
 have hlimn : lim ≤ n := by omega
 have hlim60 : lim ≤ 60 := by omega
 have HLN := hid (show lim = min n 60 from hlim)
 clear hlim
 go_wp2
 go_loopg [30] lim (fun gk i wr => ∃ dd : Nat, gk + dd = lim ∧ i = .int .i64 dd ∧ Hid (OpdS w wr K m (some ⟨hb, 0, none⟩) 3 L 1 (runD bk0 [] (l.take dd)).1 (runD bk0 [] (l.take dd)).2 (likeC 1 (runD bk0 [] (l.take dd)).2) false))
 case atStart => exact ⟨0, by omega, rfl, HOD⟩
 case round =>
  clear HOD
  obtain ⟨dd, hdd, rfl, HP⟩ := hrel
  have HDD := hid hdd
  by_cases hlt : dd < lim
  · have HLT := hid hlt
    obtain ⟨ub, uo, u, rfl, lb, e1, ca⟩ := (HS.out.below HP.out.low).at (k := dd) (by omega)
    obtain ⟨x, hx, rfl⟩ := strV_at e1
    have hjl : (runD bk0 [] (l.take dd)).2.length < 200 := by
     have := runD_len (l.take dd) bk0 []
     rw [List.length_take, List.length_nil] at this
     omega
    have HDG := hid (OpdS.doG x HP.out HEN.out HT.out (by omega) (runD_keep _ _ _ BkI.begin) (HL.out x (List.mem_of_getElem? hx)))
    obtain ⟨en, hen⟩ := doM_run hx hjl
    rw [hen] at HDG
    clear hdd hlt e1 lb hx hjl hen
    go_wp2_with fail
    refine (HDG.out).mono ?_; rintro e w5 ⟨⟨word, rfl⟩, hod⟩
    have HN := hid hod
    clear hod HDG ca
    go_wp2
    go_roundg (gk - 1)
    case measure => have := HDD.out; have := HLT.out; omega
    case rel => exact ⟨dd + 1, by have := HDD.out; have := HLT.out; omega, by go_num, HN⟩
  · obtain rfl : dd = lim := by have := HDD.out; omega
    have htk : l.take dd = l.take 60 := by
     have h1 := HLN.out
     have h2 := HLEN.out
     by_cases h6 : n ≤ 60
     · rw [List.take_of_length_le (by omega), List.take_of_length_le (by omega)]
     · rw [show dd = 60 by omega]
    rw [htk] at HP
    clear hdd hlt htk
    go_wp2
    go_ret3
    exact ⟨K, m, some ⟨hb, 0, none⟩, 3, L, rfl, HP.out⟩
end Go.Proofs.YtapeledneokgpaaGreatDoor
