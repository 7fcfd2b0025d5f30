/- Walk of TopCrown. Conditions: the lines are short of the shelf's bound; the library's variables stand. -/
import Derived.Test.YtflepjgcpdaodaaGreatDoorT3
namespace Go.Proofs.YtflepjgcpdaodaaGreatDoor
open Go.RowKit Go.Maps
attribute [local go_sem ↓] shl_p2 shr_v and_shr
set_option maxRecDepth 100000 in
set_option maxHeartbeats 40000000 in
theorem topCrown_walk (w : World) (U : Option Addr) (n c0 : Nat) (l : List ByteArray) (he : EnvN w) (hT : Tab w) (hs : Sl w U n c0 (strV l)) (hl : ∀ x ∈ l, x.size ≤ 100000000) :
 Calls Tryz.prog 3 #[.slice U n c0] w fun e w' => e = .returned (.bool true) ∧ Below w.heap.size w w' := by
 have HOF := hid (openedT w U n c0 l he hT hs hl)
 have HEN := hid he
 have HT := hid hT
 have hjl : (runD bk0 [] (l.take 60)).2.length ≤ 60 := by
  have := runD_len (l.take 60) bk0 []
  rw [List.length_take, List.length_nil] at this
  omega
 have HJL := hid hjl
 have hrun := runD_runs (l.take 60) bk0 [] rfl
 generalize (runD bk0 [] (l.take 60)).1 = s at *
 generalize (runD bk0 [] (l.take 60)).2 = J at *
 obtain ⟨hbt, f, f0, fl, hf⟩ := run_at J bk0 s BkT.begin hrun
 have HBT := hid hbt
 have HF := hid hf
 have HFL := hid fl
 have HF0 := hid f0
 clear he hT hs hl hjl hrun hbt hf fl f0
 go_enter Tryz.func3, Tryz.ntmps3
 go_wp2_with fail
 refine (HOF.out).mono ?_; rintro e w1 ⟨K, m, A, c, L, rfl, hop⟩
 have HOP := hid hop
 obtain ⟨R, d, hmm, hft⟩ := hop.mm
 have hmmk := hmm
 obtain ⟨D0, dc0, rfl⟩ := own_form hmm.own
 obtain ⟨sb, A1, ca1, m1, m2, m3, m4⟩ := hmm.ex
 have m1lt := m1.lt
 have HJO := hid (mintJournal m _ 1 sb D0 J.length dc0 J false w1 (by have := HJL.out; omega) m1 (Sl.of_own hmm.own))
 have HMM := hid hmm
 have HFT := hid hft
 have HMO := hid hmm.own
 clear hop hft m1 m2 m3 m4 HOF hmm hmmk
 go_wp2_with fail
 refine (HJO.out).mono ?_; rintro e w3 ⟨D, dc, rfl, ho, b3⟩
 have HDO := hid ho
 have HMM3 := hid (HMM.out.below b3)
 have HBW := hid (below_call HOP.out.low b3 HOP.out.low.size)
 have HSD := hid fun (W : World) (h : Below w3.heap.size w3 W) => (Sl.of_own HDO.out).below h
 have HBE := hid fun (W : World) (h : Below w3.heap.size w3 W) => below_call HBW.out h HBW.out.size
 have HMW := hid fun (W : World) (h : Below w3.heap.size w3 W) => HMM3.out.below h
 have CR0 := hid (show TcS w3 w3 none 0 (f 0).players none 0 0 (f 0).beats from by
  rw [HF0.out]
  exact ⟨Below.refl _ _, World.ownsRow_nil _ _ _ _, World.ownsRow_nil _ _ _ _⟩)
 have hf0 : (f 0).players.length = 0 := by rw [HF0.out]; rfl
 have hcap := (Sl.of_own HDO.out).cap
 have hcapm := (Sl.of_own HDO.out).capm
 clear ho b3 HJO HMM HMM3 HMO HFT m1lt
 have HF0L := hid hf0
 have HF0B := hid (show (f 0).beats.length = 0 from by rw [HF0.out]; rfl)
 have hj60 := HJL.out
 clear hf0
 go_wp2
 go_loopg [6, 7, 39] J.length (fun gk nv tv i wr => ∃ (k : Nat) (N : Option Addr) (nc : Nat) (T : Option Addr) (tc : Nat), gk + k = J.length ∧ i = .int .i64 k ∧ nv = .slice N (f k).players.length nc ∧ tv = .slice T (f k).beats.length tc ∧ Hid (TcS w3 wr N nc (f k).players T tc (f k).beats.length (f k).beats))
 case atStart => exact ⟨0, none, 0, none, 0, by omega, rfl, by rw [HF0L.out], by rw [HF0B.out], by rw [HF0B.out]; exact CR0⟩
 case round =>
  clear CR0
  obtain ⟨k, N, nc, T, tc, hk, rfl, rfl, rfl, HC⟩ := hrel
  have HK := hid hk
  by_cases hlt : k < J.length
  · have HLT := hid hlt
    obtain ⟨db, dof, u, rfl, lbd, ed, cad⟩ := (HSD.out wr HC.out.low).at hlt
    obtain ⟨x, hx, rfl⟩ := strV_at ed
    obtain ⟨hbk, hkd⟩ := HF.out k x hx
    have hsz := kind_size hkd
    have HCR := hid (topL hbk hkd)
    have HBK := hid hbk
    have hpart := parts_parts (s := x) (by omega) wr (HEN.out.keep (HBE.out wr HC.out.low)).max
    have HP := hid hpart
    clear hk ed hx hbk hkd hsz lbd hpart
    go_wp2_with fail
    refine (HP.out).mono ?_; rintro e wp ⟨rfl, rfl⟩
    have HCV := hid (HC.out.below ((Below.refl _ wr).alloc (Nat.le_refl _) (.cells (strV (parts x)).toArray 9)))
    have HPB := hid (Blk.new wr 9 (strV (parts x)).toArray)
    obtain ⟨pb, hpb⟩ : ∃ b, b = wr.heap.size := ⟨_, rfl⟩
    rw [← hpb] at HPB ⊢
    have HGP := hid fun g (hg : (Value.slice N (f k).players.length nc).ownBlock = some g) => show g < pb from by have := (HC.out.nm.lt g hg).2; omega
    clear HC HP hpb cad
    have hbk := HBK.out
    have hpl8 := hbk.bk.1.pla
    have hbl0 := hbk.bk.1.bea
    have hHC := HCR.out
    clear HCR
    generalize wr.alloc (.cells (strV (parts x)).toArray 9) = V at *
    cases hHC with
    | other hw1 hw2 hpl hbe =>
     rw [parts_head x] at HPB ⊢
     have c0 := HPB.out.cell 0
     simp only [strV, List.map_cons, List.getElem?_toArray, List.getElem?_cons_zero] at c0
     generalize wordOf x = wd at *
     have q1 : ¬ wd.toList = [112, 108, 97, 121, 101, 114] := fun e => hw1 (toList_inj (e.trans (by unfold sPlayer; simp)))
     have q2 : ¬ wd.toList = [98, 101, 97, 116] := fun e => hw2 (toList_inj (e.trans (by unfold sBeat; simp)))
     have q3 : (wd.toList == [112, 108, 97, 121, 101, 114]) = false := by rw [beq_eq_false_iff_ne]; exact q1
     have q4 : (wd.toList == [98, 101, 97, 116]) = false := by rw [beq_eq_false_iff_ne]; exact q2
     have HCW := hid (show TcS w3 V N nc (f (k + 1)).players T tc (f (k + 1)).beats.length (f (k + 1)).beats from by
      rw [hpl, hbe]
      exact HCV.out)
     have hpl2 : (f k).players.length = (f (k + 1)).players.length := by rw [hpl]
     have hbe2 : (f k).beats.length = (f (k + 1)).beats.length := by rw [hbe]
     clear hw1 hw2 hpl hbe hbl0
     go_wp2
     go_roundg (J.length - (k + 1))
     case measure => have := HK.out; have := HLT.out; omega
     case rel => exact ⟨k + 1, N, nc, T, tc, by have := HK.out; have := HLT.out; omega, by have := HLT.out; have := HJL.out; go_num, by first | rfl | rw [hpl2], by first | rfl | rw [hbe2], HCW⟩
    | player v hw hp hn8 hpl hbt =>
     rw [hp] at HPB ⊢
     unfold sPlayer at HPB
     have c0 := HPB.out.cell 0
     have c1 := HPB.out.cell 1
     simp only [strV, List.map_cons, List.map_nil, List.getElem?_toArray, List.getElem?_cons_zero, List.getElem?_cons_succ] at c0 c1
     have q1 : ((⟨#[112, 108, 97, 121, 101, 114]⟩ : ByteArray).toList == (⟨#[112, 108, 97, 121, 101, 114]⟩ : ByteArray).toList) = true := by simp
     have q2 : ((⟨#[112, 108, 97, 121, 101, 114]⟩ : ByteArray).toList == (⟨#[98, 101, 97, 116]⟩ : ByteArray).toList) = false := by rw [beq_eq_false_iff_ne]; exact fun e => absurd (toList_inj e) (by decide)
     have HPL := hid hpl
     have HBTN := hid hbt
     obtain ⟨names, hnm⟩ : ∃ l, l = (f k).players := ⟨_, rfl⟩
     obtain ⟨bt, hbtt⟩ : ∃ l, l = (f k).beats := ⟨_, rfl⟩
     obtain ⟨n, hn⟩ : ∃ n, n = (f k).beats.length := ⟨_, rfl⟩
     rw [← hn, ← hbtt] at HCV
     rw [← hbtt] at HBTN
     rw [← hnm] at HCV hn8 HPL HGP ⊢
     have hn8b : n < 8 := by rw [hn, hbl0, ← hnm]; exact hn8
     have hbn : bt.length = n := by rw [hbtt, hn]
     have HBN := hid hbn
     rw [hbn] at HBTN
     rw [← hn]
     have fn : Fits (n : Int) := ⟨by omega, by omega⟩
     have hnn8 : names.length < 8 := hn8
     have HN8 := hid (And.intro hn8b hn8)
     clear hw hp hpl hbt hnm hbtt hbk hpl8 hbl0 hn hbn
     go_wp2
     clear c0 c1 q1
     go_loopg [56] n (fun gk i wr => ∃ q : Nat, gk + q = n ∧ i = .int .i64 q ∧ Hid (TcS w3 wr N nc names T tc n ((bt.take q).map (fun t => bits .or .i64 t (p2 n)) ++ bt.drop q)) ∧ Hid (Blk wr pb 9 (strV [⟨#[112, 108, 97, 121, 101, 114]⟩, v]).toArray))
     case atStart => exact ⟨0, by omega, rfl, by simpa using HCV, HPB⟩
     case round =>
      clear HCV HPB
      obtain ⟨q, hq, rfl, HC, HPB⟩ := hrel
      have HQ := hid hq
      by_cases hlq : q < n
      · have HLQ := hid hlq
        obtain ⟨g, rfl, cq, fq, hct, hct2⟩ := HC.out.at hlq
        obtain ⟨m1, m2, m3⟩ := mixL (l := bt) (q := q) (by rw [HBN.out]; exact hlq) (fun t => bits .or .i64 t (p2 n))
        rw [m1] at cq
        have HN := hid ((HC.out.below (Below.refl _ wr).drew).set (i := q) (by rw [m3, HBN.out]; exact hlq) (bits .or .i64 (bt.getD q 0) (p2 n)))
        rw [m2] at HN
        have HGT := hid (show g ≠ pb from fun e => own_ne_blk HC.out.tt HPB.out (by decide) (by rw [e]; rfl))
        have HP2 := hid ((HPB.out.keep (Below.refl _ wr).drew).far (p := ⟨g, q, none⟩) (fun e => HGT.out e.symm) (.int .i64 (bits .or .i64 (bt.getD q 0) (p2 n))))
        have hqn : (q : Int) < (n : Int) := by omega
        clear hq m1 m2 m3
        generalize bt.getD q 0 = bq at *
        go_wp2
        go_region
        all_goals go_wp2
        all_goals go_roundg (n - (q + 1))
        case measure => have := HQ.out; have := HLQ.out; omega
        case rel => exact ⟨q + 1, by have := HQ.out; have := HLQ.out; omega, by go_num, HN, HP2⟩
      · have hqe : q = n := by have := HQ.out; omega
        subst hqe
        have c0 := HPB.out.cell 0
        have c1 := HPB.out.cell 1
        simp only [strV, List.map_cons, List.map_nil, List.getElem?_toArray, List.getElem?_cons_zero, List.getElem?_cons_succ] at c0 c1
        have hmix : (bt.take q).map (fun t => bits .or .i64 t (p2 q)) ++ bt.drop q = bt.map (fun t => bits .or .i64 t (p2 q)) := by
         rw [List.take_of_length_le (by have := HBN.out; omega), List.drop_of_length_le (by have := HBN.out; omega), List.append_nil]
        rw [hmix] at HC
        clear hq hmix
        go_wp2_with (first
         | (at_builtin; refine push1L TS22 wr #[.string v] w3.heap.size _ _ _ HC.out.nm _ _ wr.heap.size rfl rfl rfl rfl rfl rfl (by simp [Value.oneCell']) (by omega) (by omega) HC.out.low.size ?_; intro v1 w8 hown1 hgr hap; obtain ⟨N8, nc8, rfl⟩ := own_form hown1; have hp8 := hid (HPB.out.grown hgr (fun e => by have := HGP.out pb e.symm; omega)); have HC8 := hid (HC.out.pushN (names' := names ++ [v]) (N' := N8) (nc' := nc8) hgr (by rw [List.length_append, List.length_singleton]; unfold strV at hown1 ⊢; rw [List.map_append]; exact hown1)); clear hown1 hgr hap c1 c0)
         | (at_builtin; refine push1L TI27 w8 #[.int .i64 0] w3.heap.size _ _ _ HC8.out.tt _ _ w8.heap.size rfl rfl rfl rfl rfl rfl (by simp [Value.oneCell']) (by omega) (by omega) HC8.out.low.size ?_; intro v2 w9 hown2 hgr2 hap2; obtain ⟨T9, tc9, rfl⟩ := own_form hown2; have hp9 := hid (hp8.out.grown hgr2 (own_ne_blk HC8.out.tt hp8.out (by decide))); have HC9 := hid (HC8.out.pushT (tl' := bt.map (fun t => bits .or .i64 t (p2 q)) ++ [0]) hgr2 (by unfold intV at hown2 ⊢; rw [List.map_append]; exact hown2)); have c0 := hp9.out.cell 0; simp only [strV, List.map_cons, List.map_nil, List.getElem?_toArray, List.getElem?_cons_zero] at c0; clear hown2 hgr2 hap2))
        go_roundg (J.length - (k + 1))
        case measure => have := HK.out; have := HLT.out; omega
        case rel =>
         have hbl9 : (f (k + 1)).beats.length = q + 1 := by rw [HBTN.out, List.length_append, List.length_map, HBN.out]; rfl
         exact ⟨k + 1, N8, nc8, T9, tc9, by have := HK.out; have := HLT.out; omega, by have := HLT.out; have := HJL.out; go_num, by rw [HPL.out, List.length_append, List.length_singleton], by rw [hbl9], by rw [HPL.out, hbl9, HBTN.out]; exact HC9⟩
    | beat v kk a b hw hp ha hb hal hbl hne hpl hbt =>
     rw [hp] at HPB ⊢
     unfold sBeat at HPB
     have c0 := HPB.out.cell 0
     have c1 := HPB.out.cell 1
     have c2 := HPB.out.cell 2
     simp only [strV, List.map_cons, List.map_nil, List.getElem?_toArray, List.getElem?_cons_zero, List.getElem?_cons_succ] at c0 c1 c2
     have q1 : ((⟨#[98, 101, 97, 116]⟩ : ByteArray).toList == (⟨#[112, 108, 97, 121, 101, 114]⟩ : ByteArray).toList) = false := by rw [beq_eq_false_iff_ne]; exact fun e => absurd (toList_inj e) (by decide)
     have q2 : ((⟨#[98, 101, 97, 116]⟩ : ByteArray).toList == (⟨#[98, 101, 97, 116]⟩ : ByteArray).toList) = true := by simp
     have HPL := hid hpl
     have HBTN := hid hbt
     obtain ⟨names, hnm⟩ : ∃ l, l = (f k).players := ⟨_, rfl⟩
     obtain ⟨bt, hbtt⟩ : ∃ l, l = (f k).beats := ⟨_, rfl⟩
     obtain ⟨n, hn⟩ : ∃ n, n = (f k).beats.length := ⟨_, rfl⟩
     rw [← hn, ← hbtt] at HCV
     rw [← hbtt] at HBTN
     have hal2 : a < n := by rw [hn, hbl0]; exact hal
     have hbl2 : b < n := by rw [hn, hbl0]; exact hbl
     rw [← hnm] at HCV HPL hal hbl HGP ha hb ⊢
     have hbn : bt.length = n := by rw [hbtt, hn]
     have HBN := hid hbn
     rw [← hn]
     have hn8 : n ≤ 8 := by rw [hn, hbl0]; exact hpl8
     have fa : Fits (a : Int) := ⟨by omega, by omega⟩
     have fb : Fits (b : Int) := ⟨by omega, by omega⟩
     have HI1 := hid (strIdxE N names.length nc names v V.drew ((Sl.of_own HCV.out.nm).below (Below.refl _ V).drew))
     have HI2 := hid (strIdxE N names.length nc names kk V.drew ((Sl.of_own HCV.out.nm).below (Below.refl _ V).drew))
     rw [ha] at HI1
     rw [hb] at HI2
     have ga : decide ((a : Int) < 0) = false := decide_eq_false (by omega)
     have gb : decide ((b : Int) < 0) = false := decide_eq_false (by omega)
     have gab : ((a : Int) == (b : Int)) = false := by rw [beq_eq_false_iff_ne]; omega
     have gab2 : (a == b) = false := by rw [beq_eq_false_iff_ne]; exact hne
     have HAB := hid (And.intro hal2 (And.intro hbl2 hne))
     clear hw hp hpl hbt hnm hbtt hbk hpl8 ha hb hal hbl hn hbn hbl0
     go_wp2
     go_cut [12, 13] from 87 to 97 (fun x y wr => x = .int .i64 (a : Nat) ∧ y = .int .i64 (b : Nat) ∧ Hid (TcS w3 wr N nc names T tc n bt))
     case first =>
      refine wp_region_held_drew (S := (fun w' => w'.cell? ⟨pb, 1, none⟩ = some (.string v) ∧ w'.cell? ⟨pb, 2, none⟩ = some (.string kk))) (by kernel_rfl) (by (try dsimp only); (exact ⟨c1, c2⟩)) (fun hHeld => ?_)
      refine tk ?_ 0 (some 87) rfl rfl ?_ ?_; rotate_left; · (intro w hSw; (try dsimp only at hSw); go_simp <;> with_reducible rfl)
      try simp only [Act.put, pA0, pA1, pA2]
      refine tk ?_ 1 (some 88) rfl rfl ?_ ?_; rotate_left; · (intro w hSw; (try dsimp only at hSw); go_simp <;> with_reducible rfl)
      try simp only [Act.put, pA0, pA1, pA2]
      refine tk ?_ 2 (some 89) rfl rfl ?_ ?_; rotate_left; · (intro w hSw; (try dsimp only at hSw); go_simp <;> with_reducible rfl)
      try simp only [Act.put, pA0, pA1, pA2]
      refine tk ?_ 3 (some 90) rfl rfl ?_ ?_; rotate_left; · (intro w hSw; (try dsimp only at hSw); go_simp <;> with_reducible rfl)
      try simp only [Act.put, pA0, pA1, pA2]
      refine tk ?_ 5 (some 92) rfl rfl ?_ ?_; rotate_left; · (intro w hSw; (try dsimp only at hSw); go_simp <;> with_reducible rfl)
      try simp only [Act.put, pA0, pA1, pA2]
      refine tk ?_ 6 (some 93) rfl rfl ?_ ?_; rotate_left; · (intro w hSw; (try dsimp only at hSw); go_simp <;> with_reducible rfl)
      try simp only [Act.put, pA0, pA1, pA2]
      refine tk ?_ 7 (some 94) rfl rfl ?_ ?_; rotate_left; · (intro w hSw; (try dsimp only at hSw); go_simp <;> with_reducible rfl)
      try simp only [Act.put, pA0, pA1, pA2]
      refine tk ?_ 8 (some 95) rfl rfl ?_ ?_; rotate_left; · (intro w hSw; (try dsimp only at hSw); go_simp <;> with_reducible rfl)
      try simp only [Act.put, pA0, pA1, pA2]
      refine wpAnyH_ready (rs := [4]) (by kernel_rfl) (by simp) ?_
      refine AllReadyH.cons rfl (fun K hK => ?_) AllReadyH.nil
      go_simp
      go_at_call 8
      refine (HI1.out).mono ?_
      rintro e w' ⟨rfl, rfl⟩
      refine hK.out _ _ ?_ (fun hHeld => ?_); · ((try dsimp only); (exact ⟨c1, c2⟩))
      clear hK K
      try simp only [Act.put, pA0, pA1, pA2]
      refine wpAnyH_ready (rs := [9]) (by kernel_rfl) (by simp) ?_
      refine AllReadyH.cons rfl (fun K hK => ?_) AllReadyH.nil
      go_simp
      go_at_call 8
      refine (HI2.out).mono ?_
      rintro e w' ⟨rfl, rfl⟩
      refine hK.out _ _ ?_ (fun hHeld => ?_); · ((try dsimp only); (exact ⟨c1, c2⟩))
      clear hK K
      try simp only [Act.put, pA0, pA1, pA2]
      refine tk ?_ 10 (some 12) rfl rfl ?_ ?_; rotate_left; · (intro w hSw; (try dsimp only at hSw); go_simp <;> with_reducible rfl)
      try simp only [Act.put, pA0, pA1, pA2]
      refine tk ?_ 11 (some 13) rfl rfl ?_ ?_; rotate_left; · (intro w hSw; (try dsimp only at hSw); go_simp <;> with_reducible rfl)
      try simp only [Act.put, pA0, pA1, pA2]
      refine wpAnyH_done (by kernel_rfl) ?_ _
      go_wp2
      go_meet
      case rel => exact ⟨rfl, rfl, hid (HCV.out.below (Below.refl _ V).drew)⟩
     case rest =>
      obtain ⟨rfl, rfl, HC⟩ := hcut
      clear HCV c0 c1 c2 q1 q2 HI1 HI2
      obtain ⟨g, rfl, ca, cfa, hct, hct2⟩ := HC.out.at hal2
      have HCA := hid ((HC.out.below (Below.refl _ _).drew).set (i := a) (by rw [HBN.out]; exact hal2) (bits .or .i64 (bt.getD a 0) (p2 b)))
      have han : (a : Int) < (n : Int) := by omega
      have hbn2 : (b : Int) < (n : Int) := by omega
      have hgb : (bt.set a (bits .or .i64 (bt.getD a 0) (p2 b))).getD b 0 = bt.getD b 0 := by
       rw [List.getD_eq_getElem?_getD, List.getElem?_set, if_neg HAB.out.2.2, ← List.getD_eq_getElem?_getD]
      have HGB := hid hgb
      clear hgb
      go_wp2
      go_cut [12] from 108 to 116 (fun x wr => x = .int .i64 (a : Nat) ∧ Hid (TcS w3 wr N nc names (some ⟨g, 0, none⟩) tc n (bt.set a (bits .or .i64 (bt.getD a 0) (p2 b)))))
      case first =>
       go_region
       all_goals (go_wp2_with fail)
       all_goals go_meet
       case rel => exact ⟨rfl, HCA⟩
      case rest =>
       obtain ⟨rfl, HCB⟩ := hcut
       obtain ⟨g2, hg2, cb, cfb, _, _⟩ := HCB.out.at hbl2
       obtain rfl : g = g2 := by injection hg2 with hg2; injection hg2
       rw [HGB.out] at cb
       have hlst : (bt.set a (bits .or .i64 (bt.getD a 0) (p2 b))).set b (bits .andNot .i64 (bt.getD b 0) (p2 a)) = (f (k + 1)).beats := by
        rw [HBTN.out]
        unfold putI
        rw [HGB.out]
       have HCC := hid ((HCB.out.below (Below.refl _ _).drew).set (i := b) (by rw [List.length_set, HBN.out]; exact hbl2) (bits .andNot .i64 (bt.getD b 0) (p2 a)))
       rw [hlst] at HCC
       have HLST := hid (show (f (k + 1)).beats.length = n from by rw [← hlst, List.length_set, List.length_set, HBN.out])
       clear ca cfa HC HCA hlst hg2
       generalize bt.getD b 0 = bv at *
       go_wp2
       go_region
       all_goals go_wp2
       all_goals go_roundg (J.length - (k + 1))
       case measure => have := HK.out; have := HLT.out; omega
       case rel => exact ⟨k + 1, N, nc, some ⟨g, 0, none⟩, tc, by have := HK.out; have := HLT.out; omega, by have := HLT.out; have := HJL.out; go_num, by rw [HPL.out], by rw [HLST.out], by rw [HPL.out, HLST.out]; exact HCC⟩
  · have hkj : k = J.length := by have := HK.out; omega
    subst hkj
    rw [HFL.out] at HC ⊢
    have hpl8 := HBT.out.bk.1.pla
    have hbl := HBT.out.bk.1.bea
    obtain ⟨htb, hto⟩ := HBT.out.tr.bits
    have hnz := nm_size HBT.out.nm.pl
    have HQO := hid (mintOrderQ R m _ L 1 s J false wr (HMW.out wr HC.out.low) HBT.out (HEN.out.keep (HBE.out wr HC.out.low)) (HT.out.below (HBE.out wr HC.out.low)))
    have HQK := hid fun w4 (b4 : Below wr.heap.size wr w4) => mintKingsQ R m _ L 1 s J false w4 ((HMW.out wr HC.out.low).below b4) HBT.out (HEN.out.keep (below_call (HBE.out wr HC.out.low) b4 (HBE.out wr HC.out.low).size)) (HT.out.below (below_call (HBE.out wr HC.out.low) b4 (HBE.out wr HC.out.low).size))
    unfold AskR replyOrder at HQO
    unfold AskR replyKings at HQK
    have HBW2 := hid (HBE.out wr HC.out.low)
    generalize hbits : bitsOf s.beats = b at *
    obtain ⟨names, hnm⟩ : ∃ l, l = s.players := ⟨_, rfl⟩
    obtain ⟨n, hn⟩ : ∃ n, n = s.beats.length := ⟨_, rfl⟩
    rw [← hn] at HC hto HQO HQK
    rw [htb, ← hn] at HC
    have hnn : names.length = n := by rw [hnm, hn, hbl]
    rw [← hnm] at HC HQO HQK hpl8 hnz ⊢
    rw [← hn, hnn]
    rw [hnn] at HQO HQK hpl8
    have HNN := hid hnn
    have HTO := hid hto
    have HNZ := hid hnz
    clear hk hlt hbits hnm hbl HK htb hto hn hnz hnn
    by_cases h0 : n = 0
    · rw [if_pos h0] at HQO
      simp only [if_pos h0] at HQK
      rw [h0]
      go_wp2_with fail
      refine (HQO.out).mono ?_; rintro e w4 ⟨rfl, b4⟩
      have HQK4 := hid (HQK.out w4 b4)
      have HB4 := hid (below_call HBW2.out b4 HBW2.out.size)
      clear HQO HQK b4
      go_wp2_with fail
      refine (HQK4.out).mono ?_; rintro e w5 ⟨rfl, b5⟩
      have HB5 := hid (below_call HB4.out b5 HB4.out.size)
      have HAW := hid (takesF w5 (HEN.out.keep HB5.out) (HT.out.below HB5.out))
      clear HQK4 b5
      go_wp2_with fail
      refine (HAW.out).mono ?_; rintro e w6 ⟨rfl, b6⟩
      have HB6 := hid (below_call HB5.out b6 HB5.out.size)
      clear b6
      go_wp2
      go_ret
      exact ⟨rfl, HB6.out⟩
    · rw [if_neg h0] at HQO
      simp only [if_neg h0] at HQK
      have hcapT := (Sl.of_own HC.out.tt).cap
      have hcapT2 := (Sl.of_own HC.out.tt).capm
      obtain ⟨ro, hro⟩ : ∃ l, l = nmd sOrder names (bestL n b) := ⟨_, rfl⟩
      obtain ⟨rk, hrk⟩ : ∃ l, l = nmd sKings names (kingL n b) := ⟨_, rfl⟩
      rw [← hro] at HQO
      simp only [← hrk] at HQK
      have HRO := hid hro
      have HRK := hid hrk
      have HN8 := hid hpl8
      clear hro hrk
      have e0 : ((n : Int) == 0) = false := by rw [beq_eq_false_iff_ne]; omega
      have e02 : (n == 0) = false := by rw [beq_eq_false_iff_ne]; exact h0
      have hn1 : 1 ≤ n := by omega
      have HKB := hid fun (q : Nat) (hq : q < n) => show bitV (mk n (kingB n b)) q = if kingB n b q then 1 else 0 from by rw [bitV_if, mk_bitB (kingB n b) hq]
      go_wp2_with fail
      refine (HQO.out).mono ?_; rintro e w4 ⟨rfl, b4⟩
      have HQK4 := hid (HQK.out w4 b4)
      have HC4 := hid (HC.out.below b4)
      clear HQO HQK b4 HC HBW2
      go_wp2_with fail
      refine (HQK4.out).mono ?_; rintro e w5 ⟨rfl, b5⟩
      have HC5 := hid (HC4.out.below b5)
      have HCI := hid (cloneI T n tc _ (intV_one _) (by omega) w5 (Sl.of_own HC5.out.tt))
      clear HQK4 b5 HC4
      go_wp2_with fail
      refine (HCI.out).mono ?_; rintro e w6 ⟨T6, tc6, rfl, ho6, b6⟩
      have HC6 := hid (HC5.out.below b6)
      have HOF := hid (orderF n b T6 tc6 w6 hn1 hpl8 HTO.out (Sl.of_own ho6) (HT.out.below (HBE.out w6 HC6.out.low)))
      clear ho6 b6 HC5 HCI
      go_wp2_with fail
      refine (HOF.out).mono ?_; rintro e w7 ⟨O, oc, rfl, ho7, b7⟩
      have HC7 := hid (HC6.out.below b7)
      have HO7 := hid ho7
      have HKF := hid (kingsF n b T tc w7 hn1 hpl8 HTO.out (Sl.of_own HC7.out.tt) (HT.out.below (HBE.out w7 HC7.out.low)))
      clear ho7 b7 HC6 HOF
      go_wp2_with fail
      refine (HKF.out).mono ?_; rintro e V ⟨rfl, b8⟩
      have HC := hid (HC7.out.below b8)
      have HSO := hid (Sl.of_own (own_below HO7.out b8))
      have HNS := hid (Sl.of_own HC.out.nm)
      have hbl2 := best_len HTO.out
      have HBL := hid hbl2
      have HLT2 := hid fun i (hi : i ∈ bestL n b) => best_lt hi
      rw [hbl2] at HSO ⊢
      clear b8 HC7 HO7 HKF hbl2
      generalize mk n (kingB n b) = ks at *
      have hcapO := HSO.out.cap
      have hcapO2 := HSO.out.capm
      go_wp2
      clear e0 e02
      go_loopg [22, 174] n (fun gk wt i wr => ∃ q : Nat, gk + q = n ∧ i = .int .i64 q ∧ wt = .string (nmd sOrder names ((bestL n b).take q)) ∧ (nmd sOrder names ((bestL n b).take q)).size ≤ 1000 + 101 * q ∧ V = wr)
      case atStart => exact ⟨0, by omega, rfl, rfl, by show (5 : Nat) ≤ 1000 + 101 * 0; omega, rfl⟩
      case round =>
       obtain ⟨q, hq, rfl, rfl, hsz, rfl⟩ := hrel
       have HQ := hid hq
       by_cases hlq : q < n
       · have HLQ := hid hlq
         obtain ⟨ob, oo, u, rfl, lb, e1, ca⟩ := HSO.out.at hlq
         unfold natV at e1
         rw [List.getElem?_map] at e1
         obtain ⟨i, hi, rfl⟩ := Option.map_eq_some_iff.1 e1
         have hin := HLT2.out i (List.mem_of_getElem? hi)
         obtain ⟨b2, o2, u2, rfl, lb2, e2, ca2⟩ := HNS.out.at (by rw [HNN.out]; exact hin)
         obtain ⟨sx, hsx, rfl⟩ := strV_at e2
         have HST := hid (show nmd sOrder names ((bestL n b).take (q + 1)) = nmd sOrder names ((bestL n b).take q) ++ (⟨#[32]⟩ ++ sx) by
          rw [List.take_add_one, hi, Option.toList_some, nmd_snoc, List.getD, hsx]; rfl)
         have hz := HNZ.out sx (List.mem_of_getElem? hsx)
         generalize nmd sOrder names ((bestL n b).take q) = v at *
         have h1s : (⟨#[32]⟩ ++ sx : ByteArray).size = 1 + sx.size := by rw [ByteArray.size_append]; rfl
         have cat1 : ∀ W : World, (Op.stringOp .add ⟨#[32]⟩ sx).run Tryz.prog W = .ok (.string (⟨#[32]⟩ ++ sx)) W := fun W => run_string_add_sum W _ _ (by have : (ByteArray.mk #[32]).size = 1 := rfl; omega)
         have cat2 : ∀ W : World, (Op.stringOp .add v (⟨#[32]⟩ ++ sx)).run Tryz.prog W = .ok (.string (v ++ (⟨#[32]⟩ ++ sx))) W := fun W => run_string_add_sum W _ _ (by omega)
         have HSZ := hid (show (v ++ (⟨#[32]⟩ ++ sx)).size ≤ 1000 + 101 * (q + 1) by rw [ByteArray.size_append]; omega)
         have g1 : decide ((i : Int) < 0) = false := decide_eq_false (by omega)
         have g2 : decide ((names.length : Int) ≤ (i : Int)) = false := decide_eq_false (by have := HNN.out; omega)
         have g3 : decide (names.length ≤ i) = false := decide_eq_false (by have := HNN.out; omega)
         have g4 : decide ((n : Int) ≤ (i : Int)) = false := decide_eq_false (by omega)
         have g5 : decide (n ≤ i) = false := decide_eq_false (by omega)
         have hin2 : i < names.length := by rw [HNN.out]; exact hin
         clear hq e1 hi lb e2 hsx lb2
         go_wp2
         go_roundg (n - (q + 1))
         case measure => have := HQ.out; have := HLQ.out; omega
         case rel => exact ⟨q + 1, by have := HQ.out; have := HLQ.out; omega, by go_num, by rw [HST.out], by rw [HST.out]; exact HSZ.out, rfl⟩
       · have hqe : q = n := by have := HQ.out; omega
         subst hqe
         have hw : nmd sOrder names ((bestL q b).take q) = ro := by rw [HRO.out, List.take_of_length_le (by rw [HBL.out]; exact Nat.le_refl _)]
         rw [hw]
         clear hq hw
         go_wp2
         try rw [HNN.out]
         go_loopg [23, 196] q (fun gk kt i wr => ∃ r : Nat, gk + r = q ∧ i = .int .i64 r ∧ kt = .string (nmd sKings names ((List.range r).filter (kingB q b))) ∧ (nmd sKings names ((List.range r).filter (kingB q b))).size ≤ 1000 + 101 * r ∧ V = wr)
         case atStart => exact ⟨0, by omega, rfl, rfl, by show (5 : Nat) ≤ 1000 + 101 * 0; omega, rfl⟩
         case round =>
          obtain ⟨r, hr, rfl, rfl, hsz, rfl⟩ := hrel
          have HR := hid hr
          by_cases hlr : r < q
          · have HLR := hid hlr
            obtain ⟨b2, o2, u2, rfl, lb2, e2, ca2⟩ := HNS.out.at (by rw [HNN.out]; exact hlr)
            obtain ⟨sx, hsx, rfl⟩ := strV_at e2
            have hz := HNZ.out sx (List.mem_of_getElem? hsx)
            have hbit := HKB.out r hlr
            have fr : Fits (r : Int) := ⟨by omega, by omega⟩
            have hrs : (List.range (r + 1)).filter (kingB q b) = (List.range r).filter (kingB q b) ++ (if kingB q b r then [r] else []) := by
             rw [List.range_succ, List.filter_append]
             congr 1
             cases hh : kingB q b r <;> simp [hh]
            have hrn : r < names.length := by rw [HNN.out]; exact hlr
            cases hkb : kingB q b r with
            | false =>
             rw [hkb, if_neg Bool.false_ne_true] at hbit
             rw [hkb, if_neg Bool.false_ne_true, List.append_nil] at hrs
             have HRS := hid hrs
             have HSZ := hid hsz
             have hb1 : (bitV ks (r : Int) == 1) = false := by rw [hbit]; rfl
             clear hr hrs hbit lb2 e2 hsx hsz
             go_wp2
             go_roundg (q - (r + 1))
             case measure => have := HR.out; have := HLR.out; omega
             case rel => exact ⟨r + 1, by have := HR.out; have := HLR.out; omega, by go_num, by rw [HRS.out], by rw [HRS.out]; have := HSZ.out; omega, rfl⟩
            | true =>
             rw [hkb, if_pos rfl] at hbit
             rw [hkb, if_pos rfl] at hrs
             have hb1 : (bitV ks (r : Int) == 1) = true := by rw [hbit]; rfl
             have HST := hid (show nmd sKings names ((List.range (r + 1)).filter (kingB q b)) = nmd sKings names ((List.range r).filter (kingB q b)) ++ (⟨#[32]⟩ ++ sx) by
              rw [hrs, nmd_snoc, List.getD, hsx]; rfl)
             generalize nmd sKings names ((List.range r).filter (kingB q b)) = v at *
             have h1s : (⟨#[32]⟩ ++ sx : ByteArray).size = 1 + sx.size := by rw [ByteArray.size_append]; rfl
             have cat1 : ∀ W : World, (Op.stringOp .add ⟨#[32]⟩ sx).run Tryz.prog W = .ok (.string (⟨#[32]⟩ ++ sx)) W := fun W => run_string_add_sum W _ _ (by have : (ByteArray.mk #[32]).size = 1 := rfl; omega)
             have cat2 : ∀ W : World, (Op.stringOp .add v (⟨#[32]⟩ ++ sx)).run Tryz.prog W = .ok (.string (v ++ (⟨#[32]⟩ ++ sx))) W := fun W => run_string_add_sum W _ _ (by omega)
             have HSZ := hid (show (v ++ (⟨#[32]⟩ ++ sx)).size ≤ 1000 + 101 * (r + 1) by rw [ByteArray.size_append]; omega)
             clear hr hrs hbit lb2 e2 hsx
             go_wp2
             go_roundg (q - (r + 1))
             case measure => have := HR.out; have := HLR.out; omega
             case rel => exact ⟨r + 1, by have := HR.out; have := HLR.out; omega, by go_num, by rw [HST.out], by rw [HST.out]; exact HSZ.out, rfl⟩
          · have hre : r = q := by have := HR.out; omega
            subst hre
            have hw : nmd sKings names ((List.range r).filter (kingB r b)) = rk := by rw [HRK.out]; rfl
            rw [hw]
            have HB5 := hid (HBE.out V HC.out.low)
            have HAW := hid (takesF V (HEN.out.keep HB5.out) (HT.out.below HB5.out))
            have x1 : (ro.toList == ro.toList) = true := by simp
            have x2 : (rk.toList == rk.toList) = true := by simp
            clear hr hw
            go_wp2_with fail
            refine (HAW.out).mono ?_; rintro e w8 ⟨rfl, b6⟩
            have HB6 := hid (below_call HB5.out b6 HB5.out.size)
            clear b6
            go_wp2
            go_ret
            exact ⟨rfl, HB6.out⟩
end Go.Proofs.YtflepjgcpdaodaaGreatDoor
