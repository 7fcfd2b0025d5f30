/- Walk of TopPrice. Conditions: the lines are short of the shelf's bound; the library's variables stand. -/
import Derived.Test.YtapeledneokgpaaGreatDoorP36
import Derived.Test.YtapeledneokgpaaGreatDoorP37
import Derived.Test.YtapeledneokgpaaGreatDoorP34
namespace Go.Proofs.YtapeledneokgpaaGreatDoor
open Go.RowKit Go.Maps
/-- What stands while the journal is read: the bets so far. -/
structure TbS (B W : World) (O : Option Addr) (oc : Nat) (bs : List (Int × Int)) : Prop where
 low : Below B.heap.size B W
 row : W.ownsRow B.heap.size 65 2 (.slice O bs.length oc) bs.length (flat bs)
theorem TbS.below {B W W' : World} {O : Option Addr} {oc : Nat} {bs : List (Int × Int)} (h : TbS B W O oc bs) (hb : Below W.heap.size W W') : TbS B W' O oc bs := ⟨below_call h.low hb h.low.size, own_below h.row hb⟩
theorem flat_push (bs : List (Int × Int)) (v k : Int) : flat (bs ++ [(v, k)]) = flat bs ++ [.int .i64 v, .int .i64 k] := by unfold flat; simp
theorem sl2_one (W : World) (t : TypeId) (b : Nat) (v k : Int) (h : Blk W b t #[.int .i64 v, .int .i64 k]) : Sl2 W (some ⟨b, 0, none⟩) 1 1 [(v, k)] := ⟨rfl, Nat.le_refl _, by unfold maxLen; omega, fun _ => ⟨b, 0, rfl, h.lt, fun j u hu => by
 match j, hu with
 | 0, hu =>
  cases hu
  exact ⟨h.cell 0, h.cell 1⟩⟩⟩
theorem snd_sound {l : List (Int × Int)} (hl : BetOk l) (hc : cornersL l ≠ []) (A : Option Addr) (n c : Nat) (w : World) (hs : Sl2 w A n c l) :
 Calls Tryz.prog 30 #[.int .i64 3, .slice A n c] w fun e w' => (∃ g b, e = .returned (.tuple #[.slice (some ⟨g, 0, none⟩) 3 3, .int .i64 0]) ∧ Sl2 w' (some ⟨g, 0, none⟩) 3 3 (b.map tw) ∧ Agr l b) ∧ Below w.heap.size w w' := by
 refine (soundS A n c l w hs hl).mono ?_
 rintro e w' ⟨h1, hb⟩
 refine ⟨?_, hb⟩
 cases hcc : cornersL l with
 | nil => exact absurd hcc hc
 | cons b bs =>
  rw [hcc] at h1
  obtain ⟨g, rfl, hg, h3⟩ := h1
  exact ⟨g, b, rfl, sl2_blk hg h3, corners_agr hl (by rw [hcc]; simp)⟩
theorem cell_grown {w w' : World} {row : Option Nat} {a : Addr} {v : Value} (h : w.cell? a = some v) (hg : w.grownBy w' row) (hne : some a.block ≠ row) : w'.cell? a = some v := (World.cell?_of_block (hg.block a.block (World.block_lt_of_cell? w a h) hne)).trans h
theorem num_size {x : ByteArray} {v : Nat} (h : numOf x = some v) : x.size ≤ 3 := by
 unfold numOf at h
 split at h
 · split at h
   · rename_i hc
     exact hc.2.1
   · cases h
 · cases h
set_option maxRecDepth 100000 in
set_option maxHeartbeats 40000000 in
theorem topPrice_walk (w : World) (U : Option Addr) (n c0 : Nat) (l : List ByteArray) (an : Int) (he : EnvN w) (hT : Tab w) (hs : Sl w U n c0 (strV l)) (hl : ∀ x ∈ l, x.size ≤ 100000000) :
 Calls Tryz.prog 7 #[.slice U n c0, .int .i64 an] w fun e w' => e = .returned (.bool true) ∧ Below w.heap.size w w' := by
 have HOF := hid (openedT w U n c0 l he hT hs hl)
 have HEN := hid he
 have HT := hid hT
 have hjl : (runD bk0 [] (l.take 60)).2.length ≤ 60 := by
  have := runD_len (l.take 60) bk0 []
  rw [List.length_take, List.length_nil] at this
  omega
 have HJL := hid hjl
 have hrun := runD_runs (l.take 60) bk0 [] rfl
 generalize (runD bk0 [] (l.take 60)).1 = s at *
 generalize (runD bk0 [] (l.take 60)).2 = J at *
 obtain ⟨hbt, f, f0, fl, hf⟩ := run_at J bk0 s BkT.begin hrun
 have HSND := hid (snd_all f0 hf J.length (Nat.le_refl _))
 have HBT := hid hbt
 have HF := hid hf
 have HFL := hid fl
 have HF0 := hid f0
 clear he hT hs hl hjl hrun hbt hf fl f0
 go_enter Tryz.func7, Tryz.ntmps7
 go_wp2_with fail
 refine (HOF.out).mono ?_; rintro e w1 ⟨K, m, A, c, L, rfl, hop⟩
 have HOP := hid hop
 obtain ⟨R, d, hmm, hft⟩ := hop.mm
 obtain ⟨D0, dc0, rfl⟩ := own_form hmm.own
 obtain ⟨sb, A1, ca1, m1, m2, m3, m4⟩ := hmm.ex
 have HJO := hid (mintJournal m _ 1 sb D0 J.length dc0 J false w1 (by have := HJL.out; omega) m1 (Sl.of_own hmm.own))
 have HMM := hid hmm
 clear hop hft m1 m2 m3 m4 HOF hmm
 go_wp2_with fail
 refine (HJO.out).mono ?_; rintro e w3 ⟨D, dc, rfl, ho, b3⟩
 have HDO := hid ho
 have HMM3 := hid (HMM.out.below b3)
 have HBW := hid (below_call HOP.out.low b3 HOP.out.low.size)
 have HSD := hid fun (W : World) (h : Below w3.heap.size w3 W) => (Sl.of_own HDO.out).below h
 have HBE := hid fun (W : World) (h : Below w3.heap.size w3 W) => below_call HBW.out h HBW.out.size
 have HMW := hid fun (W : World) (h : Below w3.heap.size w3 W) => HMM3.out.below h
 have HF0B := hid (show (f 0).bets.length = 0 from by rw [HF0.out]; rfl)
 have CR0 := hid (show TbS w3 w3 none 0 (f 0).bets from ⟨Below.refl _ _, by
  have h : (f 0).bets = [] := List.eq_nil_of_length_eq_zero HF0B.out
  rw [h]
  exact World.ownsRow_nil _ _ _ _⟩)
 have hcap := (Sl.of_own HDO.out).cap
 have hcapm := (Sl.of_own HDO.out).capm
 clear ho b3 HJO HMM HMM3
 have hj60 := HJL.out
 go_wp2
 go_loopg [8, 30] J.length (fun gk v i wr => ∃ (k : Nat) (O : Option Addr) (oc : Nat), gk + k = J.length ∧ i = .int .i64 k ∧ v = .slice O (f k).bets.length oc ∧ Hid (TbS w3 wr O oc (f k).bets))
 case atStart => exact ⟨0, none, 0, by omega, rfl, by rw [HF0B.out], CR0⟩
 case round =>
  clear CR0
  obtain ⟨k, O, oc, hk, rfl, rfl, HC⟩ := hrel
  have HK := hid hk
  by_cases hlt : k < J.length
  · have HLT := hid hlt
    obtain ⟨db, dof, u, rfl, lbd, ed, cad⟩ := (HSD.out wr HC.out.low).at hlt
    obtain ⟨x, hx, rfl⟩ := strV_at ed
    obtain ⟨hbk, hkd⟩ := HF.out k x hx
    have hsz := kind_size hkd
    have HCR := hid (prcL hkd)
    have HBK := hid hbk
    have hpart := parts_parts (s := x) (by omega) wr (HEN.out.keep (HBE.out wr HC.out.low)).max
    have HP := hid hpart
    have HXS := hid hsz
    clear hk ed hx hbk hkd hsz lbd hpart
    go_wp2_with fail
    refine (HP.out).mono ?_; rintro e wp ⟨rfl, rfl⟩
    have HCV := hid (HC.out.below ((Below.refl _ wr).alloc (Nat.le_refl _) (.cells (strV (parts x)).toArray 9)))
    have HPB := hid (Blk.new wr 9 (strV (parts x)).toArray)
    obtain ⟨pb, hpb⟩ : ∃ b, b = wr.heap.size := ⟨_, rfl⟩
    rw [← hpb] at HPB ⊢
    clear HC HP hpb cad
    have hHC := HCR.out
    clear HCR
    generalize wr.alloc (.cells (strV (parts x)).toArray 9) = V at *
    cases hHC with
    | other hw1 hbe =>
     rw [parts_head x] at HPB ⊢
     have c0 := HPB.out.cell 0
     simp only [strV, List.map_cons, List.getElem?_toArray, List.getElem?_cons_zero] at c0
     generalize wordOf x = wd at *
     have q1 : ¬ wd.toList = [98, 101, 116] := fun e => hw1 (toList_inj (e.trans (by unfold sBet; simp)))
     have q3 : (wd.toList == [98, 101, 116]) = false := by rw [beq_eq_false_iff_ne]; exact q1
     have HCW := hid (show TbS w3 V O oc (f (k + 1)).bets from by
      rw [hbe]
      exact HCV.out)
     have hbe2 : (f k).bets.length = (f (k + 1)).bets.length := by rw [hbe]
     clear hw1 hbe
     go_wp2
     go_roundg (J.length - (k + 1))
     case measure => have := HK.out; have := HLT.out; omega
     case rel => exact ⟨k + 1, O, oc, by have := HK.out; have := HLT.out; omega, by have := HLT.out; have := HJL.out; go_num, by first | rfl | rw [hbe2], HCW⟩
    | bet a c v kk hw hp ha hc hb hbe hcn =>
     have hxa : ∀ y ∈ [a, c], y.size ≤ 1000 := fun y hy => by
      simp only [List.mem_cons, List.not_mem_nil, or_false] at hy
      rcases hy with rfl | rfl
      · have := num_size ha; omega
      · have := num_size hc; omega
     rw [hp] at HPB ⊢
     unfold sBet at HPB
     have c0 := HPB.out.cell 0
     have hsl : Sl V (some ⟨pb, 0 + 1, none⟩) 2 2 (strV [a, c]) := ⟨rfl, Nat.le_refl _, by unfold maxLen; omega, fun _ => ⟨pb, 1, rfl, HPB.out.lt, fun j u hu => by
      match j, hu with
      | 0, hu => cases hu; exact HPB.out.cell 1
      | 1, hu => cases hu; exact HPB.out.cell 2⟩⟩
     have HNB := hid (numbersF (some ⟨pb, 0 + 1, none⟩) 2 2 [a, c] [v, kk] V hsl (by simp [ha, hc]) hxa (by omega) (HEN.out.keep (HBE.out V HCV.out.low)))
     simp only [strV, List.map_cons, List.map_nil, List.getElem?_toArray, List.getElem?_cons_zero] at c0
     have q1 : ((⟨#[98, 101, 116]⟩ : ByteArray).toList == (⟨#[98, 101, 116]⟩ : ByteArray).toList) = true := by simp
     have HBE2 := hid hbe
     have HBL := hid (show (f k).bets.length ≤ 6 from HBK.out.bk.1.bet.len)
     generalize (f k).bets = bs at *
     clear hw hp ha hc hb hbe hcn hxa hsl
     go_wp2_with fail
     refine (HNB.out).mono ?_; rintro e w5 ⟨NO, noc, rfl, hno, b5⟩
     have HC5 := hid (HCV.out.below b5)
     obtain ⟨ng, rfl⟩ := own_some hno (by decide)
     have HN0 := hid (own_at hno (i := 0) (u := .int .i64 (v : Nat)) rfl)
     have HN1 := hid (own_at hno (i := 1) (u := .int .i64 (kk : Nat)) rfl)
     have HNG := hid fun g (hg : (Value.slice O bs.length oc).ownBlock = some g) => show g ≠ ng from by have h1 := (HCV.out.row.lt g hg).2; have h2 := (own_blkIv hno _ rfl).1; simp only at h2; omega
     clear HNB hno b5 HCV HPB c0 q1
     obtain ⟨i0, hi0, hz0, hz1, hzz⟩ := info_parts TB.inf
     have hbl6 := HBL.out
     have hsz5 := HC5.out.low.size
     go_wp2_with fail
     refine wp_region_held_drew (S := (fun w' => w'.cell? ⟨ng, 0, none⟩ = some (.int .i64 (v : Nat)) ∧ w'.cell? ⟨ng, 1, none⟩ = some (.int .i64 (kk : Nat)))) (by kernel_rfl) (by (try dsimp only); (first | exact ⟨HN0.out, HN1.out⟩ | exact HKP.out)) (fun hHeld => ?_)
     have HC5 := hid (HC5.out.below (Below.refl _ w5).drew); have HN0 := hid (cell_keep (Below.refl _ w5).drew HN0.out); have HN1 := hid (cell_keep (Below.refl _ w5).drew HN1.out)
     generalize w5.drew = X1 at *
     obtain ⟨X, rfl⟩ : ∃ Y, Y = X1 := ⟨X1, rfl⟩
     refine tk ?_ 0 (some 48) rfl rfl ?_ ?_; rotate_left; · (intro w hSw; (try dsimp only at hSw); go_simp <;> with_reducible rfl)
     try simp only [Act.put, pA0, pA1, pA2]
     refine tk ?_ 1 (some 49) rfl rfl ?_ ?_; rotate_left; · (intro w hSw; (try dsimp only at hSw); go_simp <;> with_reducible rfl)
     try simp only [Act.put, pA0, pA1, pA2]
     refine tk ?_ 2 (some 50) rfl rfl ?_ ?_; rotate_left; · (intro w hSw; (try dsimp only at hSw); go_simp <;> with_reducible rfl)
     try simp only [Act.put, pA0, pA1, pA2]
     refine tk ?_ 3 (some 51) rfl rfl ?_ ?_; rotate_left; · (intro w hSw; (try dsimp only at hSw); go_simp <;> with_reducible rfl)
     try simp only [Act.put, pA0, pA1, pA2]
     refine tk ?_ 4 (some 52) rfl rfl ?_ ?_; rotate_left; · (intro w hSw; (try dsimp only at hSw); go_simp <;> with_reducible rfl)
     try simp only [Act.put, pA0, pA1, pA2]
     refine tk ?_ 5 (some 53) rfl rfl ?_ ?_; rotate_left; · (intro w hSw; (try dsimp only at hSw); go_simp <;> with_reducible rfl)
     try simp only [Act.put, pA0, pA1, pA2]
     refine tk ?_ 6 (some 54) rfl rfl ?_ ?_; rotate_left; · (intro w hSw; (try dsimp only at hSw); go_simp <;> with_reducible rfl)
     try simp only [Act.put, pA0, pA1, pA2]
     refine tk ?_ 7 (some 55) rfl rfl ?_ ?_; rotate_left; · (intro w hSw; (try dsimp only at hSw); go_simp <;> with_reducible rfl)
     try simp only [Act.put, pA0, pA1, pA2]
     refine wpAnyH_ready (rs := [8]) (by kernel_rfl) (by simp) ?_
     refine AllReadyH.cons rfl (fun K hK => ?_) AllReadyH.nil
     go_simp
     have bb := (Below.refl X.heap.size X).alloc (Nat.le_refl _) (.cells #[.int .i64 (v : Nat), .int .i64 (kk : Nat)] 65)
     have HTB := hid (Blk.new X 65 #[.int .i64 (v : Nat), .int .i64 (kk : Nat)])
     have HC5 := hid (HC5.out.below bb); have HN0 := hid (cell_keep bb HN0.out); have HN1 := hid (cell_keep bb HN1.out)
     clear bb hHeld
     obtain ⟨tb, htb⟩ : ∃ tb, tb = X.heap.size := ⟨_, rfl⟩
     rw [← htb] at HTB ⊢
     clear htb
     generalize X.alloc (.cells #[.int .i64 (v : Nat), .int .i64 (kk : Nat)] 65) = X1 at *
     obtain ⟨X, rfl⟩ : ∃ Y, Y = X1 := ⟨X1, rfl⟩
     refine hK.out _ _ ?_ (fun hHeld => ?_); · ((try dsimp only); (first | exact ⟨HN0.out, HN1.out⟩ | exact HKP.out))
     clear hK K
     try simp only [Act.put, pA0, pA1, pA2]
     refine wpAnyH_ready (rs := [9]) (by kernel_rfl) (by simp) ?_
     refine AllReadyH.cons rfl (fun K hK => ?_) AllReadyH.nil
     refine step_append_lies _ rfl (.tmp 48) (.tmp 56) 62 rfl w3.heap.size 65 i0 (.agg #[.int .i64 0, .int .i64 0]) 2 16 TB.und hi0 hz0 hz1 hzz TB.zc TB.sz _ bs.length (flat bs) rfl HC5.out.row ⟨tb, 0, none⟩ 1 1 (#[.int .i64 (v : Nat), .int .i64 (kk : Nat)] : Array Value).toList rfl rfl (World.news_of_block HTB.out) (by simp [Value.oneCell']) (by decide) (by unfold maxLen; omega) (by omega) HC5.out.low.size _ rfl ?_
     intro g gc X1 how hgr _ _
     show K (Act.put _ (some 57) _) X1
     have HKP := hid (show X1.cell? ⟨ng, 0, none⟩ = some (.int .i64 (v : Nat)) ∧ X1.cell? ⟨ng, 1, none⟩ = some (.int .i64 (kk : Nat)) from ⟨cell_grown HN0.out hgr (fun e => HNG.out ng e.symm rfl), cell_grown HN1.out hgr (fun e => HNG.out ng e.symm rfl)⟩)
     have HC6 := hid (show TbS w3 X1 (some ⟨g, 0, none⟩) gc (bs ++ [((v : Int), (kk : Int))]) from ⟨HC5.out.low.grown hgr HC5.out.low.size (fun g hg => (HC5.out.row.lt g hg).1), by rw [flat_push, List.length_append, List.length_singleton]; exact how⟩)
     clear how hgr hHeld HC5 HTB
     obtain ⟨X, rfl⟩ : ∃ Y, Y = X1 := ⟨X1, rfl⟩
     refine hK.out _ _ ?_ (fun hHeld => ?_); · ((try dsimp only); (first | exact ⟨HN0.out, HN1.out⟩ | exact HKP.out))
     clear hK K
     try simp only [Act.put, List.setIfInBounds_toArray]
     refine tk ?_ 10 (some 8) rfl rfl ?_ ?_; rotate_left; · (intro w hSw; (try dsimp only at hSw); go_simp <;> with_reducible rfl)
     try simp only [Act.put]
     refine wpAnyH_done (by kernel_rfl) ?_ _
     go_wp2
     go_roundg (J.length - (k + 1))
     case measure => have := HK.out; have := HLT.out; omega
     case rel => exact ⟨k + 1, some ⟨g, 0, none⟩, gc, by have := HK.out; have := HLT.out; omega, by have := HLT.out; have := HJL.out; go_num, by rw [HBE2.out, List.length_append, List.length_singleton], by rw [HBE2.out]; exact HC6⟩
  · have hkj : k = J.length := by have := HK.out; omega
    subst hkj
    rw [HFL.out] at HC ⊢
    have HSN := hid (show SndI s from by have h := HSND.out; rw [HFL.out] at h; exact h)
    have HOK := hid (allB_ok HBT.out.bk.1.bet)
    have HCN := hid (show cornersL (allB s.bets) ≠ [] from HSN.out)
    have HRQ := hid fun (q : Nat) => show replyPrice s q = if q < 8 then (numd sPrice (priceL (allB s.bets) q), 0) else (ByteArray.empty, 2) from rfl
    have hlen := HBT.out.bk.1.bet.len
    have HROW := hid (Sl2.of_own HC.out.row)
    have HLO := hid HC.out.low
    clear hk hlt HK HC HDO HSND HF HF0 HF0B HSD HOP hcap hcapm
    by_cases h0 : s.bets.length = 0
    · have hal : allB s.bets = [(0, 0)] := by unfold allB; rw [if_pos h0]
      rw [h0]
      have bA := (Below.refl wr.heap.size wr).alloc (Nat.le_refl _) (.cells #[.int .i64 0, .int .i64 0] 65)
      have HSL := hid (show Sl2 (wr.alloc (.cells #[.int .i64 0, .int .i64 0] 65)) (some ⟨wr.heap.size, 0, none⟩) 1 1 (allB s.bets) from by rw [hal]; exact sl2_one _ 65 wr.heap.size 0 0 (Blk.new wr 65 #[.int .i64 0, .int .i64 0]))
      have HLO := hid (below_call HLO.out bA HLO.out.size)
      clear bA h0 hal HROW hlen
      generalize hbs : allB s.bets = bs at HSL HOK HCN HRQ
      clear hbs
      have HN6 := hid (show (1 : Nat) ≤ 1000000 by decide)
      have HCL := hid fun W (h : Sl2 W (some ⟨wr.heap.size, 0, none⟩) 1 1 bs) => cloneB (some ⟨wr.heap.size, 0, none⟩) 1 1 bs HN6.out W h
      go_wp2_with fail
      refine (HCL.out _ HSL.out).mono ?_; rintro e w5 ⟨A5, c5, rfl, ho5, b5⟩
      have HS5 := hid (Sl2.of_own ho5); have HSL := hid (HSL.out.below b5); have HLO := hid (below_call HLO.out b5 HLO.out.size)
      have HSO := hid (snd_sound HOK.out HCN.out A5 1 c5 w5 HS5.out)
      clear ho5 b5 HS5
      go_wp2_with fail
      refine (HSO.out).mono ?_; rintro e w6 ⟨⟨g6, b, rfl, hs6, hag⟩, b6⟩
      have HB6 := hid hs6; have HAGR := hid hag; have HSL := hid (HSL.out.below b6); have HLO := hid (below_call HLO.out b6 HLO.out.size)
      clear HSO hs6 hag b6
      go_wp2_with fail
      refine (HCL.out _ HSL.out).mono ?_; rintro e w7 ⟨A7, c7, rfl, ho7, b7⟩
      have HAG := hid (AgreesT b bs HOK.out HAGR.out (some ⟨g6, 0, none⟩) A7 3 1 c7 w7 (HB6.out.below b7) (Sl2.of_own ho7))
      have HSL := hid (HSL.out.below b7); have HLO := hid (below_call HLO.out b7 HLO.out.size)
      clear ho7 b7 HCL HB6
      go_wp2_with fail
      refine (HAG.out).mono ?_; rintro e w8 ⟨rfl, b8⟩
      have HSL := hid (HSL.out.below b8); have HLO := hid (below_call HLO.out b8 HLO.out.size)
      clear HAG b8
      obtain ⟨q, hq9, hqe⟩ : ∃ q : Nat, q < 9 ∧ wrap64 ((IntKind.u64.wrap an).tmod 9) = (q : Int) := by
       have h0 : 0 ≤ IntKind.u64.wrap an := by rw [IntKind.wrap_u64]; omega
       have h1 : 0 ≤ IntKind.u64.wrap an % 9 := Int.emod_nonneg _ (by omega)
       have h2 : IntKind.u64.wrap an % 9 < 9 := Int.emod_lt_of_pos _ (by omega)
       rw [Int.tmod_eq_emod_of_nonneg h0]
       refine ⟨(IntKind.u64.wrap an % 9).toNat, by omega, ?_⟩
       generalize IntKind.u64.wrap an % 9 = z at *
       simp only [wrap64]
       omega
      have hqe2 : IntKind.i64.wrap ((IntKind.u64.wrap an).tmod 9) = (q : Int) := by rw [← hqe]; first | rfl | (simp only [wrap64, IntKind.wrap_i64]; done)
      have HQ9 := hid hq9
      clear hq9
      by_cases h8 : q < 8
      · have HPR := hid (priceF (some ⟨wr.heap.size, 0, none⟩) 1 1 bs q h8 w8 HSL.out HOK.out HCN.out)
        have HRP := hid (show replyPrice s q = (numd sPrice (priceL bs q), 0) from by rw [HRQ.out q, if_pos h8])
        go_wp2_with fail
        refine (HPR.out).mono ?_; rintro e w9 ⟨PO, poc, rfl, hpo, b9⟩
        have HPO := hid hpo; have HLO := hid (below_call HLO.out b9 HLO.out.size)
        have bA := (Below.refl w9.heap.size w9).alloc (Nat.le_refl _) (.cells #[.int .i64 (q : Nat)] 3)
        have HW1 := hid (wordsF (some ⟨w9.heap.size, 0, none⟩) 1 1 [q] (w9.alloc (.cells #[.int .i64 (q : Nat)] 3)) (Sl.of_own (blk_own (base := 0) (Blk.new w9 3 #[.int .i64 (q : Nat)]) (Nat.zero_le _) rfl (by omega))) (fun i hi => by rw [List.mem_singleton] at hi; subst hi; exact Nat.lt_trans HQ9.out (by decide)) (by decide) (HEN.out.keep (below_call (HBE.out _ HLO.out) bA (HBE.out _ HLO.out).size)))
        have HLO := hid (below_call HLO.out bA HLO.out.size); have HPO := hid (HPO.out.below bA)
        clear HPR hpo b9 bA
        go_wp2_with fail
        refine (HW1.out).mono ?_; rintro e w10 ⟨rfl, b10⟩
        have HLO := hid (below_call HLO.out b10 HLO.out.size); have HPO := hid (HPO.out.below b10)
        have HASK := hid (mintPriceQ q HQ9.out R m _ L 1 s J false w10 (HMW.out _ HLO.out) HBT.out HSN.out (HEN.out.keep (HBE.out _ HLO.out)) (HT.out.below (HBE.out _ HLO.out)))
        have hnu : numd sPrice [q] = sPrice ++ numd ByteArray.empty [q] := by rw [numd_append, ByteArray.append_empty]
        rw [hnu, HRP.out] at HASK
        unfold AskR at HASK
        have hws := numd_size (l := [q]) (fun i hi => by rw [List.mem_singleton] at hi; subst hi; exact Nat.lt_trans HQ9.out (by decide)) ByteArray.empty
        have hws : (numd ByteArray.empty [q]).size ≤ 4 := hws
        clear HW1 b10 hnu HRP
        generalize numd ByteArray.empty [q] = ws at *
        unfold sPrice at HASK
        have cat : ∀ W : World, (Op.stringOp .add ⟨#[112, 114, 105, 99, 101]⟩ ws).run Tryz.prog W = .ok (.string (⟨#[112, 114, 105, 99, 101]⟩ ++ ws)) W := fun W => run_string_add_sum W _ _ (by have : (ByteArray.mk #[112, 114, 105, 99, 101]).size = 5 := rfl; omega)
        go_wp2_with fail
        refine (HASK.out).mono ?_; rintro e w11 ⟨rfl, b11⟩
        have HLO := hid (below_call HLO.out b11 HLO.out.size); have HPO := hid (HPO.out.below b11)
        have HW2 := hid (wordsF PO _ poc (priceL bs q) w11 HPO.out (fun i hi => Nat.lt_trans (price_lt hi) (by decide)) (Nat.le_trans (price_len bs q) (by decide)) (HEN.out.keep (HBE.out _ HLO.out)))
        have hnu : numd (⟨#[112, 114, 105, 99, 101]⟩ : ByteArray) (priceL bs q) = ⟨#[112, 114, 105, 99, 101]⟩ ++ numd ByteArray.empty (priceL bs q) := by rw [numd_append, ByteArray.append_empty]
        have hwp : (numd ByteArray.empty (priceL bs q)).size ≤ 60 := by
         have h1 := numd_size (l := priceL bs q) (fun i hi => Nat.lt_trans (price_lt hi) (by decide)) ByteArray.empty
         have h2 := price_len bs q
         have h3 : ByteArray.empty.size = 0 := rfl
         rw [h3] at h1
         exact Nat.le_trans h1 (by generalize (priceL bs q).length = z at *; omega)
        rw [hnu]
        clear HASK b11 hnu cat hws HPO
        generalize numd ByteArray.empty (priceL bs q) = wp at *
        generalize (priceL bs q).length = pl at *
        have cat2 : ∀ W : World, (Op.stringOp .add ⟨#[112, 114, 105, 99, 101]⟩ wp).run Tryz.prog W = .ok (.string (⟨#[112, 114, 105, 99, 101]⟩ ++ wp)) W := fun W => run_string_add_sum W _ _ (by have : (ByteArray.mk #[112, 114, 105, 99, 101]).size = 5 := rfl; omega)
        have x1 : (((⟨#[112, 114, 105, 99, 101]⟩ : ByteArray) ++ wp).toList == ((⟨#[112, 114, 105, 99, 101]⟩ : ByteArray) ++ wp).toList) = true := by simp
        go_wp2_with fail
        refine (HW2.out).mono ?_; rintro e w12 ⟨rfl, b12⟩
        have HLO := hid (below_call HLO.out b12 HLO.out.size)
        have HAW := hid (takesF w12 (HEN.out.keep (HBE.out _ HLO.out)) (HT.out.below (HBE.out _ HLO.out)))
        clear HW2 b12
        go_wp2_with fail
        refine (HAW.out).mono ?_; rintro e w13 ⟨rfl, b13⟩
        have HB6 := hid (below_call (HBE.out _ HLO.out) b13 (HBE.out _ HLO.out).size)
        clear b13
        go_wp2
        go_ret
        exact ⟨rfl, HB6.out⟩
      · have HPR := hid (priceNo (some ⟨wr.heap.size, 0, none⟩) 1 1 bs q (Nat.le_trans (Nat.le_of_lt HQ9.out) (by decide)) h8 w8 HSL.out HOK.out)
        have HRP := hid (show replyPrice s q = (ByteArray.empty, 2) from by rw [HRQ.out q, if_neg h8])
        go_wp2_with fail
        refine (HPR.out).mono ?_; rintro e w9 ⟨rfl, b9⟩
        have HLO := hid (below_call HLO.out b9 HLO.out.size)
        have bA := (Below.refl w9.heap.size w9).alloc (Nat.le_refl _) (.cells #[.int .i64 (q : Nat)] 3)
        have HW1 := hid (wordsF (some ⟨w9.heap.size, 0, none⟩) 1 1 [q] (w9.alloc (.cells #[.int .i64 (q : Nat)] 3)) (Sl.of_own (blk_own (base := 0) (Blk.new w9 3 #[.int .i64 (q : Nat)]) (Nat.zero_le _) rfl (by omega))) (fun i hi => by rw [List.mem_singleton] at hi; subst hi; exact Nat.lt_trans HQ9.out (by decide)) (by decide) (HEN.out.keep (below_call (HBE.out _ HLO.out) bA (HBE.out _ HLO.out).size)))
        have HLO := hid (below_call HLO.out bA HLO.out.size)
        clear HPR b9 bA
        go_wp2_with fail
        refine (HW1.out).mono ?_; rintro e w10 ⟨rfl, b10⟩
        have HLO := hid (below_call HLO.out b10 HLO.out.size)
        have HASK := hid (mintPriceQ q HQ9.out R m _ L 1 s J false w10 (HMW.out _ HLO.out) HBT.out HSN.out (HEN.out.keep (HBE.out _ HLO.out)) (HT.out.below (HBE.out _ HLO.out)))
        have hnu : numd sPrice [q] = sPrice ++ numd ByteArray.empty [q] := by rw [numd_append, ByteArray.append_empty]
        rw [hnu, HRP.out] at HASK
        unfold AskR at HASK
        have hws := numd_size (l := [q]) (fun i hi => by rw [List.mem_singleton] at hi; subst hi; exact Nat.lt_trans HQ9.out (by decide)) ByteArray.empty
        have hws : (numd ByteArray.empty [q]).size ≤ 4 := hws
        clear HW1 b10 hnu HRP
        generalize numd ByteArray.empty [q] = ws at *
        unfold sPrice at HASK
        have cat : ∀ W : World, (Op.stringOp .add ⟨#[112, 114, 105, 99, 101]⟩ ws).run Tryz.prog W = .ok (.string (⟨#[112, 114, 105, 99, 101]⟩ ++ ws)) W := fun W => run_string_add_sum W _ _ (by have : (ByteArray.mk #[112, 114, 105, 99, 101]).size = 5 := rfl; omega)
        go_wp2_with fail
        refine (HASK.out).mono ?_; rintro e w11 ⟨rfl, b11⟩
        have HLO := hid (below_call HLO.out b11 HLO.out.size)
        have HAW := hid (takesF w11 (HEN.out.keep (HBE.out _ HLO.out)) (HT.out.below (HBE.out _ HLO.out)))
        clear HASK b11
        go_wp2_with fail
        refine (HAW.out).mono ?_; rintro e w13 ⟨rfl, b13⟩
        have HB6 := hid (below_call (HBE.out _ HLO.out) b13 (HBE.out _ HLO.out).size)
        clear b13
        go_wp2
        go_ret
        exact ⟨rfl, HB6.out⟩
    · have hal : allB s.bets = s.bets := by unfold allB; rw [if_neg h0]
      have HSL := hid (show Sl2 wr O s.bets.length oc (allB s.bets) from by rw [hal]; exact HROW.out)
      have e1 : ((s.bets.length : Int) == 0) = false := by rw [beq_eq_false_iff_ne]; omega
      have e2 : (s.bets.length == 0) = false := by rw [beq_eq_false_iff_ne]; exact h0
      clear HROW hal h0
      generalize hbs : allB s.bets = bs at HSL HOK HCN HRQ
      clear hbs
      generalize hnn : s.bets.length = n at *
      have HN6 := hid (show n ≤ 1000000 by omega)
      clear hlen hnn
      have HCL := hid fun W (h : Sl2 W O n oc bs) => cloneB O n oc bs HN6.out W h
      go_wp2_with fail
      refine (HCL.out _ HSL.out).mono ?_; rintro e w5 ⟨A5, c5, rfl, ho5, b5⟩
      have HS5 := hid (Sl2.of_own ho5); have HSL := hid (HSL.out.below b5); have HLO := hid (below_call HLO.out b5 HLO.out.size)
      have HSO := hid (snd_sound HOK.out HCN.out A5 n c5 w5 HS5.out)
      clear ho5 b5 HS5
      go_wp2_with fail
      refine (HSO.out).mono ?_; rintro e w6 ⟨⟨g6, b, rfl, hs6, hag⟩, b6⟩
      have HB6 := hid hs6; have HAGR := hid hag; have HSL := hid (HSL.out.below b6); have HLO := hid (below_call HLO.out b6 HLO.out.size)
      clear HSO hs6 hag b6
      go_wp2_with fail
      refine (HCL.out _ HSL.out).mono ?_; rintro e w7 ⟨A7, c7, rfl, ho7, b7⟩
      have HAG := hid (AgreesT b bs HOK.out HAGR.out (some ⟨g6, 0, none⟩) A7 3 n c7 w7 (HB6.out.below b7) (Sl2.of_own ho7))
      have HSL := hid (HSL.out.below b7); have HLO := hid (below_call HLO.out b7 HLO.out.size)
      clear ho7 b7 HCL HB6
      go_wp2_with fail
      refine (HAG.out).mono ?_; rintro e w8 ⟨rfl, b8⟩
      have HSL := hid (HSL.out.below b8); have HLO := hid (below_call HLO.out b8 HLO.out.size)
      clear HAG b8
      obtain ⟨q, hq9, hqe⟩ : ∃ q : Nat, q < 9 ∧ wrap64 ((IntKind.u64.wrap an).tmod 9) = (q : Int) := by
       have h0 : 0 ≤ IntKind.u64.wrap an := by rw [IntKind.wrap_u64]; omega
       have h1 : 0 ≤ IntKind.u64.wrap an % 9 := Int.emod_nonneg _ (by omega)
       have h2 : IntKind.u64.wrap an % 9 < 9 := Int.emod_lt_of_pos _ (by omega)
       rw [Int.tmod_eq_emod_of_nonneg h0]
       refine ⟨(IntKind.u64.wrap an % 9).toNat, by omega, ?_⟩
       generalize IntKind.u64.wrap an % 9 = z at *
       simp only [wrap64]
       omega
      have hqe2 : IntKind.i64.wrap ((IntKind.u64.wrap an).tmod 9) = (q : Int) := by rw [← hqe]; first | rfl | (simp only [wrap64, IntKind.wrap_i64]; done)
      have HQ9 := hid hq9
      clear hq9
      by_cases h8 : q < 8
      · have HPR := hid (priceF O n oc bs q h8 w8 HSL.out HOK.out HCN.out)
        have HRP := hid (show replyPrice s q = (numd sPrice (priceL bs q), 0) from by rw [HRQ.out q, if_pos h8])
        go_wp2_with fail
        refine (HPR.out).mono ?_; rintro e w9 ⟨PO, poc, rfl, hpo, b9⟩
        have HPO := hid hpo; have HLO := hid (below_call HLO.out b9 HLO.out.size)
        have bA := (Below.refl w9.heap.size w9).alloc (Nat.le_refl _) (.cells #[.int .i64 (q : Nat)] 3)
        have HW1 := hid (wordsF (some ⟨w9.heap.size, 0, none⟩) 1 1 [q] (w9.alloc (.cells #[.int .i64 (q : Nat)] 3)) (Sl.of_own (blk_own (base := 0) (Blk.new w9 3 #[.int .i64 (q : Nat)]) (Nat.zero_le _) rfl (by omega))) (fun i hi => by rw [List.mem_singleton] at hi; subst hi; exact Nat.lt_trans HQ9.out (by decide)) (by decide) (HEN.out.keep (below_call (HBE.out _ HLO.out) bA (HBE.out _ HLO.out).size)))
        have HLO := hid (below_call HLO.out bA HLO.out.size); have HPO := hid (HPO.out.below bA)
        clear HPR hpo b9 bA
        go_wp2_with fail
        refine (HW1.out).mono ?_; rintro e w10 ⟨rfl, b10⟩
        have HLO := hid (below_call HLO.out b10 HLO.out.size); have HPO := hid (HPO.out.below b10)
        have HASK := hid (mintPriceQ q HQ9.out R m _ L 1 s J false w10 (HMW.out _ HLO.out) HBT.out HSN.out (HEN.out.keep (HBE.out _ HLO.out)) (HT.out.below (HBE.out _ HLO.out)))
        have hnu : numd sPrice [q] = sPrice ++ numd ByteArray.empty [q] := by rw [numd_append, ByteArray.append_empty]
        rw [hnu, HRP.out] at HASK
        unfold AskR at HASK
        have hws := numd_size (l := [q]) (fun i hi => by rw [List.mem_singleton] at hi; subst hi; exact Nat.lt_trans HQ9.out (by decide)) ByteArray.empty
        have hws : (numd ByteArray.empty [q]).size ≤ 4 := hws
        clear HW1 b10 hnu HRP
        generalize numd ByteArray.empty [q] = ws at *
        unfold sPrice at HASK
        have cat : ∀ W : World, (Op.stringOp .add ⟨#[112, 114, 105, 99, 101]⟩ ws).run Tryz.prog W = .ok (.string (⟨#[112, 114, 105, 99, 101]⟩ ++ ws)) W := fun W => run_string_add_sum W _ _ (by have : (ByteArray.mk #[112, 114, 105, 99, 101]).size = 5 := rfl; omega)
        go_wp2_with fail
        refine (HASK.out).mono ?_; rintro e w11 ⟨rfl, b11⟩
        have HLO := hid (below_call HLO.out b11 HLO.out.size); have HPO := hid (HPO.out.below b11)
        have HW2 := hid (wordsF PO _ poc (priceL bs q) w11 HPO.out (fun i hi => Nat.lt_trans (price_lt hi) (by decide)) (Nat.le_trans (price_len bs q) (by decide)) (HEN.out.keep (HBE.out _ HLO.out)))
        have hnu : numd (⟨#[112, 114, 105, 99, 101]⟩ : ByteArray) (priceL bs q) = ⟨#[112, 114, 105, 99, 101]⟩ ++ numd ByteArray.empty (priceL bs q) := by rw [numd_append, ByteArray.append_empty]
        have hwp : (numd ByteArray.empty (priceL bs q)).size ≤ 60 := by
         have h1 := numd_size (l := priceL bs q) (fun i hi => Nat.lt_trans (price_lt hi) (by decide)) ByteArray.empty
         have h2 := price_len bs q
         have h3 : ByteArray.empty.size = 0 := rfl
         rw [h3] at h1
         exact Nat.le_trans h1 (by generalize (priceL bs q).length = z at *; omega)
        rw [hnu]
        clear HASK b11 hnu cat hws HPO
        generalize numd ByteArray.empty (priceL bs q) = wp at *
        generalize (priceL bs q).length = pl at *
        have cat2 : ∀ W : World, (Op.stringOp .add ⟨#[112, 114, 105, 99, 101]⟩ wp).run Tryz.prog W = .ok (.string (⟨#[112, 114, 105, 99, 101]⟩ ++ wp)) W := fun W => run_string_add_sum W _ _ (by have : (ByteArray.mk #[112, 114, 105, 99, 101]).size = 5 := rfl; omega)
        have x1 : (((⟨#[112, 114, 105, 99, 101]⟩ : ByteArray) ++ wp).toList == ((⟨#[112, 114, 105, 99, 101]⟩ : ByteArray) ++ wp).toList) = true := by simp
        go_wp2_with fail
        refine (HW2.out).mono ?_; rintro e w12 ⟨rfl, b12⟩
        have HLO := hid (below_call HLO.out b12 HLO.out.size)
        have HAW := hid (takesF w12 (HEN.out.keep (HBE.out _ HLO.out)) (HT.out.below (HBE.out _ HLO.out)))
        clear HW2 b12
        go_wp2_with fail
        refine (HAW.out).mono ?_; rintro e w13 ⟨rfl, b13⟩
        have HB6 := hid (below_call (HBE.out _ HLO.out) b13 (HBE.out _ HLO.out).size)
        clear b13
        go_wp2
        go_ret
        exact ⟨rfl, HB6.out⟩
      · have HPR := hid (priceNo O n oc bs q (Nat.le_trans (Nat.le_of_lt HQ9.out) (by decide)) h8 w8 HSL.out HOK.out)
        have HRP := hid (show replyPrice s q = (ByteArray.empty, 2) from by rw [HRQ.out q, if_neg h8])
        go_wp2_with fail
        refine (HPR.out).mono ?_; rintro e w9 ⟨rfl, b9⟩
        have HLO := hid (below_call HLO.out b9 HLO.out.size)
        have bA := (Below.refl w9.heap.size w9).alloc (Nat.le_refl _) (.cells #[.int .i64 (q : Nat)] 3)
        have HW1 := hid (wordsF (some ⟨w9.heap.size, 0, none⟩) 1 1 [q] (w9.alloc (.cells #[.int .i64 (q : Nat)] 3)) (Sl.of_own (blk_own (base := 0) (Blk.new w9 3 #[.int .i64 (q : Nat)]) (Nat.zero_le _) rfl (by omega))) (fun i hi => by rw [List.mem_singleton] at hi; subst hi; exact Nat.lt_trans HQ9.out (by decide)) (by decide) (HEN.out.keep (below_call (HBE.out _ HLO.out) bA (HBE.out _ HLO.out).size)))
        have HLO := hid (below_call HLO.out bA HLO.out.size)
        clear HPR b9 bA
        go_wp2_with fail
        refine (HW1.out).mono ?_; rintro e w10 ⟨rfl, b10⟩
        have HLO := hid (below_call HLO.out b10 HLO.out.size)
        have HASK := hid (mintPriceQ q HQ9.out R m _ L 1 s J false w10 (HMW.out _ HLO.out) HBT.out HSN.out (HEN.out.keep (HBE.out _ HLO.out)) (HT.out.below (HBE.out _ HLO.out)))
        have hnu : numd sPrice [q] = sPrice ++ numd ByteArray.empty [q] := by rw [numd_append, ByteArray.append_empty]
        rw [hnu, HRP.out] at HASK
        unfold AskR at HASK
        have hws := numd_size (l := [q]) (fun i hi => by rw [List.mem_singleton] at hi; subst hi; exact Nat.lt_trans HQ9.out (by decide)) ByteArray.empty
        have hws : (numd ByteArray.empty [q]).size ≤ 4 := hws
        clear HW1 b10 hnu HRP
        generalize numd ByteArray.empty [q] = ws at *
        unfold sPrice at HASK
        have cat : ∀ W : World, (Op.stringOp .add ⟨#[112, 114, 105, 99, 101]⟩ ws).run Tryz.prog W = .ok (.string (⟨#[112, 114, 105, 99, 101]⟩ ++ ws)) W := fun W => run_string_add_sum W _ _ (by have : (ByteArray.mk #[112, 114, 105, 99, 101]).size = 5 := rfl; omega)
        go_wp2_with fail
        refine (HASK.out).mono ?_; rintro e w11 ⟨rfl, b11⟩
        have HLO := hid (below_call HLO.out b11 HLO.out.size)
        have HAW := hid (takesF w11 (HEN.out.keep (HBE.out _ HLO.out)) (HT.out.below (HBE.out _ HLO.out)))
        clear HASK b11
        go_wp2_with fail
        refine (HAW.out).mono ?_; rintro e w13 ⟨rfl, b13⟩
        have HB6 := hid (below_call (HBE.out _ HLO.out) b13 (HBE.out _ HLO.out).size)
        clear b13
        go_wp2
        go_ret
        exact ⟨rfl, HB6.out⟩
end Go.Proofs.YtapeledneokgpaaGreatDoor
