/- Walk of planchettop's opened: a mint on three new copies that did some lines. Conditions: the lines are short of the shelf's bound; the library's variables stand. -/
import Derived.Test.YtflepjgcpdaodaaGreatDoorO30
namespace Go.Proofs.YtflepjgcpdaodaaGreatDoor
open Go.RowKit Go.Maps
set_option maxRecDepth 100000 in
set_option maxHeartbeats 4000000 in
theorem openedT (w : World) (U : Option Addr) (n c0 : Nat) (l : List ByteArray) (he : EnvN w) (hT : Tab w) (hs : Sl w U n c0 (strV l)) (hl : ∀ x ∈ l, x.size ≤ 100000000) :
 Calls Tryz.prog 5 #[.slice U n c0] w fun x w' => ∃ K m A c L, x = .returned (.tuple #[.pointer (some ⟨m, 0, none⟩), .slice A 3 c, .bool true]) ∧ OpdS w w' K m A c L 1 (runD bk0 [] (l.take 60)).1 (runD bk0 [] (l.take 60)).2 (likeC 1 (runD bk0 [] (l.take 60)).2) false := by
 have HC := hid fun W => newCopyF W
 have HS := hid hs
 have HEN := hid he
 have HT := hid hT
 have HL := hid hl
 have hcap := hs.cap
 have hcapm := hs.capm
 have HLEN := hid (show l.length = n from by have := hs.len; simpa [strV] using this)
 clear hs he hT hl
 go_enter Tryz.func5, Tryz.ntmps5
 go_wp2_with fail
 refine (HC.out w).mono ?_; rintro e wa ⟨ca, ma, rfl, ka, ba, pa, qa⟩
 have N1 := (NewC.nil wa w.heap.size).snoc ka (Nat.le_refl _) pa qa (fun p h => by simp at h)
 have NA := hid N1
 have BA := hid ba
 have LA := hid ka.lt
 clear ka ba N1 pa qa
 go_wp2_with fail
 refine (HC.out wa).mono ?_; rintro e wb ⟨cb, mb, rfl, kb, bb, pb, qb⟩
 have N2 := (NA.out.keep bb).snoc kb BA.out.size pb qb (fun p h => by simp at h; subst h; exact LA.out)
 have NB := hid N2
 have BB := hid (below_call BA.out bb BA.out.size)
 have LB := hid (And.intro kb.lt (And.intro (Nat.lt_of_lt_of_le LA.out.1 bb.size) (Nat.lt_of_lt_of_le LA.out.2 bb.size)))
 clear kb bb N2 pb qb NA BA LA
 go_wp2_with fail
 refine (HC.out wb).mono ?_; rintro e wc ⟨cc, mc, rfl, kc, bc, pc, qc⟩
 have N3 := (NB.out.keep bc).snoc kc BB.out.size pc qc (fun p h => by
  simp at h
  rcases h with h | h
  · subst h; exact ⟨LB.out.2.1, LB.out.2.2⟩
  · subst h; exact LB.out.1)
 have NC := hid N3
 have BC := hid (below_call BB.out bc BB.out.size)
 clear kc bc N3 pc qc NB BB LB HC
 obtain ⟨L, hL⟩ : ∃ L, L = ([] ++ [(ca, ma)] ++ [(cb, mb)] ++ [(cc, mc)] : List (Nat × Nat)) := ⟨_, rfl⟩
 have hl3 : L.length = 3 := by rw [hL]; rfl
 have hpt : ptrs (L.map (·.1)) = [.pointer (some ⟨ca, 0, none⟩), .pointer (some ⟨cb, 0, none⟩), .pointer (some ⟨cc, 0, none⟩)] := by rw [hL]; rfl
 rw [← hL] at NC
 have HPT := hid hpt
 have HL3 := hid hl3
 clear hL hpt hl3
 go_wp2_with fail
 have hbw := (Below.refl wc.heap.size wc).alloc (Nat.le_refl _) (.cells #[.pointer (some ⟨ca, 0, none⟩), .pointer (some ⟨cb, 0, none⟩), .pointer (some ⟨cc, 0, none⟩)] 41)
 have HOW := hid (show (wc.alloc (.cells #[.pointer (some ⟨ca, 0, none⟩), .pointer (some ⟨cb, 0, none⟩), .pointer (some ⟨cc, 0, none⟩)] 41)).ownsRow w.heap.size 41 1 (.slice (some ⟨wc.heap.size, 0, none⟩) 3 3) 3 (ptrs (L.map (·.1))) from by
  rw [HPT.out]
  exact blk_own (Blk.new wc 41 #[.pointer (some ⟨ca, 0, none⟩), .pointer (some ⟨cb, 0, none⟩), .pointer (some ⟨cc, 0, none⟩)]) BC.out.size rfl (by omega))
 have HB1 := hid (below_call BC.out hbw BC.out.size)
 have HNC := hid (NC.out.keep hbw)
 have HCL := hid (cloneC (some ⟨wc.heap.size, 0, none⟩) 3 3 _ (ptrs_one _) (by omega) _ (Sl.of_own HOW.out))
 clear hbw NC BC HPT
 generalize wc.alloc (.cells #[.pointer (some ⟨ca, 0, none⟩), .pointer (some ⟨cb, 0, none⟩), .pointer (some ⟨cc, 0, none⟩)] 41) = w1 at *
 obtain ⟨hb, hhb⟩ : ∃ x, x = wc.heap.size := ⟨_, rfl⟩
 rw [← hhb] at HOW HCL ⊢
 clear hhb
 refine (HCL.out).mono ?_; rintro e w2 ⟨A2, c2, rfl, ho2, b2⟩
 have HO2 := hid ho2
 have HB2 := hid (below_call HB1.out b2 HB1.out.size)
 have HOW2 := hid (own_below HOW.out b2)
 have HNC2 := hid (HNC.out.keep b2)
 have HLB := hid (show ∀ i, inL L i → w.heap.size ≤ i ∧ i < w2.heap.size from fun i hi => by
  rcases hi with hi | hi
  · obtain ⟨p, hp, rfl⟩ := List.mem_map.1 hi
    exact ⟨(HNC2.out.cpm p hp).2.1, (HNC2.out.cpm p hp).1.lt.1⟩
  · obtain ⟨p, hp, rfl⟩ := List.mem_map.1 hi
    exact ⟨(HNC2.out.cpm p hp).2.2, (HNC2.out.cpm p hp).1.lt.2⟩)
 have hcps := cps_new HNC2.out HL3.out
 have hr0 : runL stepL bk0 [] = some bk0 := rfl
 have htop : topM (likeC 0 []) = 0 := top_like 0 [] (by omega)
 have hrd : readM (likeC 0 []) = (bk0, []) := read_like 0 [] bk0 (by omega) (by simp) hr0
 have hop : openM (likeC 0 []) = likeC 1 [] := open_like 0 [] bk0 (by omega) (by simp) hr0
 have HOP := hid (openG3 w w2 A2 c2 L (likeC 0 []) HB2.out HEN.out HT.out (Sl.of_own HO2.out) hcps (fun i hi => (HLB.out i hi).1) (by rw [htop]; omega) (fun i y hy => by rw [best_like, ent_nil] at hy; cases hy))
 unfold OpenR at HOP
 rw [htop, hrd, hop, like_reach] at HOP
 clear ho2 b2 hcps hr0 htop hrd hop HCL
 go_wp2_with fail
 refine (HOP.out).mono ?_; rintro e w3 hor
 rcases hor with ⟨hno, _, _⟩ | ⟨_, m, d, R, rfl, hmm, hcc, hch, hft⟩
 · omega
 have HOD := hid (show OpdS w w3 w2.heap.size m (some ⟨hb, 0, none⟩) 3 L 1 bk0 [] (likeC 1 []) false from
  ⟨⟨R, d, hmm, hft⟩, hcc, own_chsM HOW2.out hch (own_notL HOW2.out (cps_new HNC2.out HL3.out)), HLB.out, fun g hg => (HOW2.out.lt g hg).2, hch.below HB2.out HB2.out.size (fun i hi => (HLB.out i hi).1), HB2.out.size, hch.size⟩)
 obtain ⟨K, hK⟩ : ∃ K, K = w2.heap.size := ⟨_, rfl⟩
 rw [← hK] at HOD
 clear hmm hcc hch hft HOP hK HLB
 obtain ⟨lim, hlim⟩ : ∃ lim, lim = min n 60 := ⟨_, rfl⟩
 have hmin : min (n : Int) 60 = (lim : Int) := by omega
 have hlimn : lim ≤ n := by omega
 have hlim60 : lim ≤ 60 := by omega
 have HLN := hid (show lim = min n 60 from hlim)
 clear hlim
 go_wp2
 go_loopg [30] lim (fun gk i wr => ∃ dd : Nat, gk + dd = lim ∧ i = .int .i64 dd ∧ Hid (OpdS w wr K m (some ⟨hb, 0, none⟩) 3 L 1 (runD bk0 [] (l.take dd)).1 (runD bk0 [] (l.take dd)).2 (likeC 1 (runD bk0 [] (l.take dd)).2) false))
 case atStart => exact ⟨0, by omega, rfl, HOD⟩
 case round =>
  clear HOD
  obtain ⟨dd, hdd, rfl, HP⟩ := hrel
  have HDD := hid hdd
  by_cases hlt : dd < lim
  · have HLT := hid hlt
    obtain ⟨ub, uo, u, rfl, lb, e1, ca⟩ := (HS.out.below HP.out.low).at (k := dd) (by omega)
    obtain ⟨x, hx, rfl⟩ := strV_at e1
    have hjl : (runD bk0 [] (l.take dd)).2.length < 200 := by
     have := runD_len (l.take dd) bk0 []
     rw [List.length_take, List.length_nil] at this
     omega
    have HDG := hid (OpdS.doG x HP.out HEN.out HT.out (by omega) (runD_keep _ _ _ BkI.begin) (HL.out x (List.mem_of_getElem? hx)))
    obtain ⟨en, hen⟩ := doM_run hx hjl
    rw [hen] at HDG
    clear hdd hlt e1 lb hx hjl hen
    go_wp2_with fail
    refine (HDG.out).mono ?_; rintro e w5 ⟨⟨word, rfl⟩, hod⟩
    have HN := hid hod
    clear hod HDG ca
    go_wp2
    go_roundg (gk - 1)
    case measure => have := HDD.out; have := HLT.out; omega
    case rel => exact ⟨dd + 1, by have := HDD.out; have := HLT.out; omega, by go_num, HN⟩
  · obtain rfl : dd = lim := by have := HDD.out; omega
    have htk : l.take dd = l.take 60 := by
     have h1 := HLN.out
     have h2 := HLEN.out
     by_cases h6 : n ≤ 60
     · rw [List.take_of_length_le (by omega), List.take_of_length_le (by omega)]
     · rw [show dd = 60 by omega]
    rw [htk] at HP
    clear hdd hlt htk
    go_wp2
    go_ret3
    exact ⟨K, m, some ⟨hb, 0, none⟩, 3, L, rfl, HP.out⟩
end Go.Proofs.YtflepjgcpdaodaaGreatDoor
