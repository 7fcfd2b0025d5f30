/- Walk of MintOrder. Conditions: the lines are short of the shelf's bound; the library's variables stand. -/
import Derived.Test.YtflepjgcpdaodaaGreatDoorO36
import Derived.Test.YtflepjgcpdaodaaGreatDoorO30
import Derived.Test.YtflepjgcpdaodaaGreatDoorO37
namespace Go.Proofs.YtflepjgcpdaodaaGreatDoor
open Go.RowKit Go.Maps
attribute [local go_sem ↓] shl_p2 shr_v and_shr
/-- What stands while the journal is read: the numbers of results, and the names. -/
structure CrS (w3 W : World) (bb : Nat) (N : Option Addr) (nc : Nat) (names : List ByteArray) (bt : Nat → Int) : Prop where
 chs : Chs (· = bb) w3 W
 bbk : Blk W bb 3 (arr 9 bt)
 nm : W.ownsRow w3.heap.size 9 1 (.slice N names.length nc) names.length (strV names)
 lt : bb < w3.heap.size
section
variable {w3 W W' : World} {bb : Nat} {N N' : Option Addr} {nc nc' : Nat} {names names' : List ByteArray} {bt bt' : Nat → Int}
theorem CrS.below (h : CrS w3 W bb N nc names bt) (hb : Below W.heap.size W W') : CrS w3 W' bb N nc names bt := ⟨h.chs.trans (Chs.of_below hb), h.bbk.keep hb, own_below h.nm hb, h.lt⟩
theorem CrS.setB (h : CrS w3 W bb N nc names bt) (i : Nat) (v : Int) : CrS w3 (W.setCell ⟨bb, i, none⟩ (.int .i64 v)) bb N nc names (fun j => if j = i then v else bt j) :=
 ⟨h.chs.trans (Chs.setCell (S := (· = bb)) (a := ⟨bb, i, none⟩) rfl _), by have := h.bbk.set i (.int .i64 v); rwa [arr_set] at this, own_grown h.nm h.bbk (by decide) (setGrown W ⟨bb, i, none⟩ _), h.lt⟩
theorem CrS.push (h : CrS w3 W bb N nc names bt) (hg : W.grownBy W' (Value.slice N names.length nc).ownBlock) (ho : W'.ownsRow w3.heap.size 9 1 (.slice N' names'.length nc') names'.length (strV names')) : CrS w3 W' bb N' nc' names' bt := by
 have hlt : ∀ g, (Value.slice N names.length nc).ownBlock = some g → w3.heap.size ≤ g := fun g e => (h.nm.lt g e).1
 have hl := h.lt
 exact ⟨⟨hg.os.trans h.chs.os, hg.tape.trans h.chs.tape, hg.output.trans h.chs.output, Nat.le_trans h.chs.size hg.size, fun i hi hn => (hg.block i (Nat.lt_of_lt_of_le hi h.chs.size) (fun e => by have := hlt i e.symm; omega)).trans (h.chs.block i hi hn)⟩,
  h.bbk.grown hg (fun e => by have := hlt bb e.symm; omega), ho, h.lt⟩
theorem CrS.congr (h : CrS w3 W bb N nc names bt) (e : ∀ j, bt' j = bt j) : CrS w3 W bb N nc names bt' := by
 have : bt' = bt := funext e
 rw [this]; exact h
end
set_option maxRecDepth 100000 in
set_option maxHeartbeats 40000000 in
theorem mintOrder_walk (w : World) (U : Option Addr) (n c0 : Nat) (l : List ByteArray) (he : EnvN w) (hT : Tab w) (hs : Sl w U n c0 (strV l)) (hl : ∀ x ∈ l, x.size ≤ 100000000) :
 Calls Tryz.prog 4 #[.slice U n c0] w fun e w' => e = .returned (.bool true) ∧ Below w.heap.size w w' := by
 have HOF := hid (openedF w U n c0 l he hT hs hl)
 have HEN := hid he
 have HT := hid hT
 have hjl : (runD bk0 [] (l.take 60)).2.length ≤ 60 := by
  have := runD_len (l.take 60) bk0 []
  rw [List.length_take, List.length_nil] at this
  omega
 have HJL := hid hjl
 have hrun := runD_runs (l.take 60) bk0 [] rfl
 generalize (runD bk0 [] (l.take 60)).1 = s at *
 generalize (runD bk0 [] (l.take 60)).2 = J at *
 obtain ⟨hbt, f, f0, fl, hf⟩ := run_at J bk0 s BkT.begin hrun
 have HBT := hid hbt
 have HF := hid hf
 have HFL := hid fl
 have HF0 := hid f0
 have hmk : ∀ W : World, (Instr.makeSlice 27 (.int .i64 9) (.int .i64 9)).run Tryz.prog W = .ok (.slice (some ⟨W.heap.size, 0, none⟩) 9 9) (W.alloc (.cells (arr 9 fun _ => 0) 3)) := fun W => makeInts 9 (by omega) W
 clear he hT hs hl hjl hrun hbt hf fl f0
 go_enter Tryz.func4, Tryz.ntmps4
 go_wp2_with fail
 refine (HOF.out).mono ?_; rintro e w1 ⟨K, m, A, c, L, rfl, hop⟩
 have HOP := hid hop
 obtain ⟨R, d, hmm, hft⟩ := hop.mm
 have hmmk := hmm
 obtain ⟨D0, dc0, rfl⟩ := own_form hmm.own
 obtain ⟨sb, A1, ca1, m1, m2, m3, m4⟩ := hmm.ex
 have m1lt := m1.lt
 have hb1 := (Below.refl w1.heap.size w1).alloc (Nat.le_refl _) (.cells (arr 9 fun _ => 0) 3)
 have HJO := hid (mintJournal m _ 1 sb D0 J.length dc0 J false (w1.alloc (.cells (arr 9 fun _ => 0) 3)) (by have := HJL.out; omega) (m1.keep hb1) ((Sl.of_own hmm.own).below hb1))
 have HMM := hid hmm
 have HB0 := hid (Blk.new w1 3 (arr 9 fun _ => 0))
 have HFT := hid hft
 have HMO := hid hmm.own
 clear hop hft m1 m2 m3 m4 HOF hmm hmmk
 go_wp2_with fail
 clear hmk
 refine (HJO.out).mono ?_; rintro e w3 ⟨D, dc, rfl, ho, b3⟩
 have hb13 := below_call hb1 b3 hb1.size
 have hs1 : (w1.alloc (.cells (arr 9 fun _ => 0) 3)).heap.size = w1.heap.size + 1 := by simp
 have HB3 := hid (HB0.out.keep b3)
 have HDO := hid ho
 have HMM3 := hid (HMM.out.below hb13)
 have HLO := hid (show w.heap.size ≤ w1.heap.size ∧ w1.heap.size < w3.heap.size from ⟨HOP.out.low.size, HB3.out.lt⟩)
 have HMLT := hid (show m < w1.heap.size from m1lt)
 have HBW := hid (below_call HOP.out.low hb13 HOP.out.low.size)
 obtain ⟨bb, hbb⟩ : ∃ b, b = w1.heap.size := ⟨_, rfl⟩
 rw [← hbb] at HB3 HLO HMLT ⊢
 have HNE := hid fun a (e : (D : Option Addr) = some a) (h : a.block = bb) => own_ne_blk HDO.out HB3.out (by decide) (by rw [e, ← h]; rfl)
 have HSD := hid fun (W : World) (h : Chs (· = bb) w3 W) => (Sl.of_own HDO.out).chs h (HNE.out)
 have HBE := hid fun (W : World) (h : Chs (· = bb) w3 W) => h.below HBW.out HBW.out.size (fun i e => by have := HLO.out; have e : i = bb := e; omega)
 have HRLT := hid (show ∀ i, R i → ¬ i = bb from fun i hi e => by have := HMM.out.lt i hi; omega)
 have HFLT := hid (show ∀ i, footM m (.slice D0 J.length dc0) i → ¬ i = bb from fun i hi e => by
  rcases hi with hi | hi
  · have := HMLT.out; omega
  · have := (HMO.out.lt i hi).2; omega)
 have HMW := hid fun (W : World) (h : Chs (· = bb) w3 W) => HMM3.out.chs h HRLT.out HFLT.out
 have CR0 := hid (show CrS w3 w3 bb none 0 (f 0).players (btA (f 0)) from by
  rw [HF0.out]
  exact ⟨Chs.refl _ _, HB3.out, World.ownsRow_nil _ _ _ _, HLO.out.2⟩)
 have hf0 : (f 0).players.length = 0 := by rw [HF0.out]; rfl
 have hcap := (Sl.of_own HDO.out).cap
 have hcapm := (Sl.of_own HDO.out).capm
 clear ho b3 HJO hb1 hb13 hs1 HB0 HMM HMM3 HMO HFT hbb m1lt
 have HF0L := hid hf0
 have hj60 := HJL.out
 clear hf0
 go_wp2
 go_loopg [6, 38] J.length (fun gk nv i wr => ∃ (k : Nat) (N : Option Addr) (nc : Nat), gk + k = J.length ∧ i = .int .i64 k ∧ nv = .slice N (f k).players.length nc ∧ Hid (CrS w3 wr bb N nc (f k).players (btA (f k))))
 case atStart => exact ⟨0, none, 0, by omega, rfl, by rw [HF0L.out], CR0⟩
 case round =>
  clear CR0
  obtain ⟨k, N, nc, hk, rfl, rfl, HC⟩ := hrel
  have HK := hid hk
  by_cases hlt : k < J.length
  · have HLT := hid hlt
    obtain ⟨db, dof, u, rfl, lbd, ed, cad⟩ := (HSD.out wr HC.out.chs).at hlt
    obtain ⟨x, hx, rfl⟩ := strV_at ed
    obtain ⟨hbk, hkd⟩ := HF.out k x hx
    have hsz := kind_size hkd
    have HCR := hid (crownL hbk hkd)
    have HBK := hid hbk
    have hpart := parts_parts (s := x) (by omega) wr (HEN.out.keep (HBE.out wr HC.out.chs)).max
    have HP := hid hpart
    clear hk ed hx hbk hkd hsz lbd hpart
    go_wp2_with fail
    refine (HP.out).mono ?_; rintro e wp ⟨rfl, rfl⟩
    have HCV := hid (HC.out.below ((Below.refl _ wr).alloc (Nat.le_refl _) (.cells (strV (parts x)).toArray 9)))
    have HPB := hid (Blk.new wr 9 (strV (parts x)).toArray)
    obtain ⟨pb, hpb⟩ : ∃ b, b = wr.heap.size := ⟨_, rfl⟩
    rw [← hpb] at HPB ⊢
    have HPN := hid (show bb < pb from by have := HC.out.bbk.lt; omega)
    have HGP := hid fun g (hg : (Value.slice N (f k).players.length nc).ownBlock = some g) => show g < pb from by have := (HC.out.nm.lt g hg).2; omega
    clear HC HP hpb cad
    have hbk := HBK.out
    have hpl8 := hbk.bk.1.pla
    have hHC := HCR.out
    clear HCR
    generalize wr.alloc (.cells (strV (parts x)).toArray 9) = V at *
    cases hHC with
    | other hw1 hw2 hpl hbe =>
     rw [parts_head x] at HPB ⊢
     have c0 := HPB.out.cell 0
     simp only [strV, List.map_cons, List.getElem?_toArray, List.getElem?_cons_zero] at c0
     generalize wordOf x = wd at *
     have q1 : ¬ wd.toList = [112, 108, 97, 121, 101, 114] := fun e => hw1 (toList_inj (e.trans (by unfold sPlayer; simp)))
     have q2 : ¬ wd.toList = [98, 101, 97, 116] := fun e => hw2 (toList_inj (e.trans (by unfold sBeat; simp)))
     have q3 : (wd.toList == [112, 108, 97, 121, 101, 114]) = false := by rw [beq_eq_false_iff_ne]; exact q1
     have q4 : (wd.toList == [98, 101, 97, 116]) = false := by rw [beq_eq_false_iff_ne]; exact q2
     have HCW := hid (show CrS w3 V bb N nc (f (k + 1)).players (btA (f (k + 1))) from by
      rw [hpl, show btA (f (k + 1)) = btA (f k) from funext fun j => by unfold btA; rw [hbe]]
      exact HCV.out)
     have hpl2 : (f k).players.length = (f (k + 1)).players.length := by rw [hpl]
     clear hw1 hw2 hpl hbe
     go_wp2
     go_roundg (J.length - (k + 1))
     case measure => have := HK.out; have := HLT.out; omega
     case rel => exact ⟨k + 1, N, nc, by have := HK.out; have := HLT.out; omega, by have := HLT.out; have := HJL.out; go_num, by first | rfl | rw [hpl2], HCW⟩
    | player v hw hp hn8 hpl hbt =>
     rw [hp] at HPB ⊢
     unfold sPlayer at HPB
     have c0 := HPB.out.cell 0
     have c1 := HPB.out.cell 1
     simp only [strV, List.map_cons, List.map_nil, List.getElem?_toArray, List.getElem?_cons_zero, List.getElem?_cons_succ] at c0 c1
     have q1 : ((⟨#[112, 108, 97, 121, 101, 114]⟩ : ByteArray).toList == (⟨#[112, 108, 97, 121, 101, 114]⟩ : ByteArray).toList) = true := by simp
     have q2 : ((⟨#[112, 108, 97, 121, 101, 114]⟩ : ByteArray).toList == (⟨#[98, 101, 97, 116]⟩ : ByteArray).toList) = false := by rw [beq_eq_false_iff_ne]; exact fun e => absurd (toList_inj e) (by decide)
     have HPL := hid hpl
     have HBTN := hid hbt
     obtain ⟨names, hnm⟩ : ∃ l, l = (f k).players := ⟨_, rfl⟩
     have HNM := hid hnm
     rw [← hnm] at HCV hn8 HPL HBTN HGP ⊢
     obtain ⟨bt, hbtt⟩ : ∃ l, l = btA (f k) := ⟨_, rfl⟩
     rw [← hbtt] at HCV HBTN
     have g8 : decide ((names.length : Int) < 8) = true := decide_eq_true (by omega)
     have g82 : decide (names.length < 8) = true := decide_eq_true hn8
     have fn : Fits (names.length : Int) := ⟨by omega, by omega⟩
     clear hw hp hpl hbt hnm hbtt hbk hpl8
     have HN8 := hid hn8
     go_wp2
     clear c0 c1 g8 g82 q1
     go_loopg [60] names.length (fun gk i wr => ∃ q : Nat, gk + q = names.length ∧ i = .int .i64 q ∧ Hid (CrS w3 wr bb N nc names (fun j => if j < q then bits .or .i64 (bt j) (p2 names.length) else bt j)) ∧ Hid (Blk wr pb 9 (strV [⟨#[112, 108, 97, 121, 101, 114]⟩, v]).toArray))
     case atStart => exact ⟨0, by omega, rfl, hid (HCV.out.congr fun j => by simp), HPB⟩
     case round =>
      clear HCV HPB
      obtain ⟨q, hq, rfl, HC, HPB⟩ := hrel
      have HQ := hid hq
      by_cases hlq : q < names.length
      · have HLQ := hid hlq
        have cq := HC.out.bbk.cell q
        rw [arr_get (by omega), if_neg (by omega)] at cq
        have fq := HC.out.bbk.free q
        have hq9 : (q : Int) < 9 := by omega
        have HN := hid (((HC.out.below (Below.refl _ wr).drew).setB q (bits .or .i64 (bt q) (p2 names.length))).congr (bt' := fun j => if j < q + 1 then bits .or .i64 (bt j) (p2 names.length) else bt j) (fun j => by
         by_cases e : j = q
         · subst e; simp
         · by_cases e2 : j < q
           · rw [if_pos (by omega), if_neg e, if_pos e2]
           · rw [if_neg (by omega), if_neg e, if_neg e2]))
        have HP2 := hid ((HPB.out.keep (Below.refl _ wr).drew).far (p := ⟨bb, q, none⟩) (by have := HPN.out; simp; omega) (.int .i64 (bits .or .i64 (bt q) (p2 names.length))))
        clear hq
        go_wp2
        go_region
        all_goals go_wp2
        all_goals go_roundg (names.length - (q + 1))
        case measure => have := HQ.out; have := HLQ.out; omega
        case rel => exact ⟨q + 1, by have := HQ.out; have := HLQ.out; omega, by go_num, HN, HP2⟩
      · have hqe : q = names.length := by have := HQ.out; omega
        subst hqe
        have c0 := HPB.out.cell 0
        have c1 := HPB.out.cell 1
        simp only [strV, List.map_cons, List.map_nil, List.getElem?_toArray, List.getElem?_cons_zero, List.getElem?_cons_succ] at c0 c1
        clear hq
        go_wp2_with (at_builtin; refine push1L TS22 wr #[.string v] w3.heap.size _ _ _ HC.out.nm _ _ wr.heap.size rfl rfl rfl rfl rfl rfl (by simp [Value.oneCell']) (by omega) (by omega) HC.out.chs.size ?_; intro v1 w8 hown1 hgr hap; obtain ⟨N8, nc8, rfl⟩ := own_form hown1; have hp8 := HPB.out.grown hgr (fun e => by have := HGP.out pb e.symm; omega); have c0 := hp8.cell 0; simp only [strV, List.map_cons, List.map_nil, List.getElem?_toArray, List.getElem?_cons_zero] at c0; have HC8 := hid (HC.out.push (names' := names ++ [v]) (N' := N8) (nc' := nc8) hgr (by rw [List.length_append, List.length_singleton]; unfold strV at hown1 ⊢; rw [List.map_append]; exact hown1)); clear hown1 hgr hap hp8 c1)
        go_roundg (J.length - (k + 1))
        case measure => have := HK.out; have := HLT.out; omega
        case rel => exact ⟨k + 1, N8, nc8, by have := HK.out; have := HLT.out; omega, by have := HLT.out; have := HJL.out; go_num, by rw [HPL.out, List.length_append, List.length_singleton], by rw [HPL.out]; exact hid (HC8.out.congr HBTN.out)⟩
    | beat v kk a b hw hp ha hb hal hbl hne hpl hbt =>
     rw [hp] at HPB ⊢
     unfold sBeat at HPB
     have c0 := HPB.out.cell 0
     have c1 := HPB.out.cell 1
     have c2 := HPB.out.cell 2
     simp only [strV, List.map_cons, List.map_nil, List.getElem?_toArray, List.getElem?_cons_zero, List.getElem?_cons_succ] at c0 c1 c2
     have q1 : ((⟨#[98, 101, 97, 116]⟩ : ByteArray).toList == (⟨#[112, 108, 97, 121, 101, 114]⟩ : ByteArray).toList) = false := by rw [beq_eq_false_iff_ne]; exact fun e => absurd (toList_inj e) (by decide)
     have q2 : ((⟨#[98, 101, 97, 116]⟩ : ByteArray).toList == (⟨#[98, 101, 97, 116]⟩ : ByteArray).toList) = true := by simp
     have HPL := hid hpl
     have HBTN := hid hbt
     obtain ⟨names, hnm⟩ : ∃ l, l = (f k).players := ⟨_, rfl⟩
     rw [← hnm] at HCV HPL hal hbl HGP ha hb ⊢
     obtain ⟨bt, hbtt⟩ : ∃ l, l = btA (f k) := ⟨_, rfl⟩
     rw [← hbtt] at HCV HBTN
     have hn8 : names.length ≤ 8 := by rw [hnm]; exact hpl8
     have fa : Fits (a : Int) := ⟨by omega, by omega⟩
     have fb : Fits (b : Int) := ⟨by omega, by omega⟩
     have HI1 := hid (strIdxE N names.length nc names v V.drew ((Sl.of_own HCV.out.nm).below (Below.refl _ V).drew))
     have HI2 := hid (strIdxE N names.length nc names kk V.drew ((Sl.of_own HCV.out.nm).below (Below.refl _ V).drew))
     rw [ha] at HI1
     rw [hb] at HI2
     have ga : decide ((a : Int) < 0) = false := decide_eq_false (by omega)
     have gb : decide ((b : Int) < 0) = false := decide_eq_false (by omega)
     have gab : ((a : Int) == (b : Int)) = false := by rw [beq_eq_false_iff_ne]; omega
     have gab2 : (a == b) = false := by rw [beq_eq_false_iff_ne]; exact hne
     have HAB := hid (And.intro hal (And.intro hbl hne))
     clear hw hp hpl hbt hnm hbtt hbk hpl8 ha hb hal hbl
     go_wp2
     go_cut [12, 13] from 88 to 98 (fun x y wr => x = .int .i64 (a : Nat) ∧ y = .int .i64 (b : Nat) ∧ Hid (CrS w3 wr bb N nc names bt) ∧ Hid (Blk wr pb 9 (strV [⟨#[98, 101, 97, 116]⟩, v, kk]).toArray))
     case first =>
      refine wp_region_held_drew (S := (fun w' => w'.cell? ⟨pb, 1, none⟩ = some (.string v) ∧ w'.cell? ⟨pb, 2, none⟩ = some (.string kk))) (by kernel_rfl) (by (try dsimp only); (exact ⟨c1, c2⟩)) (fun hHeld => ?_)
      refine tk ?_ 0 (some 88) rfl rfl ?_ ?_; rotate_left; · (intro w hSw; (try dsimp only at hSw); go_simp <;> with_reducible rfl)
      try simp only [Act.put, pA0, pA1, pA2]
      refine tk ?_ 1 (some 89) rfl rfl ?_ ?_; rotate_left; · (intro w hSw; (try dsimp only at hSw); go_simp <;> with_reducible rfl)
      try simp only [Act.put, pA0, pA1, pA2]
      refine tk ?_ 2 (some 90) rfl rfl ?_ ?_; rotate_left; · (intro w hSw; (try dsimp only at hSw); go_simp <;> with_reducible rfl)
      try simp only [Act.put, pA0, pA1, pA2]
      refine tk ?_ 3 (some 91) rfl rfl ?_ ?_; rotate_left; · (intro w hSw; (try dsimp only at hSw); go_simp <;> with_reducible rfl)
      try simp only [Act.put, pA0, pA1, pA2]
      refine tk ?_ 5 (some 93) rfl rfl ?_ ?_; rotate_left; · (intro w hSw; (try dsimp only at hSw); go_simp <;> with_reducible rfl)
      try simp only [Act.put, pA0, pA1, pA2]
      refine tk ?_ 6 (some 94) rfl rfl ?_ ?_; rotate_left; · (intro w hSw; (try dsimp only at hSw); go_simp <;> with_reducible rfl)
      try simp only [Act.put, pA0, pA1, pA2]
      refine tk ?_ 7 (some 95) rfl rfl ?_ ?_; rotate_left; · (intro w hSw; (try dsimp only at hSw); go_simp <;> with_reducible rfl)
      try simp only [Act.put, pA0, pA1, pA2]
      refine tk ?_ 8 (some 96) rfl rfl ?_ ?_; rotate_left; · (intro w hSw; (try dsimp only at hSw); go_simp <;> with_reducible rfl)
      try simp only [Act.put, pA0, pA1, pA2]
      refine wpAnyH_ready (rs := [4]) (by kernel_rfl) (by simp) ?_
      refine AllReadyH.cons rfl (fun K hK => ?_) AllReadyH.nil
      go_simp
      go_at_call 8
      refine (HI1.out).mono ?_
      rintro e w' ⟨rfl, rfl⟩
      refine hK.out _ _ ?_ (fun hHeld => ?_); · ((try dsimp only); (exact ⟨c1, c2⟩))
      clear hK K
      try simp only [Act.put, pA0, pA1, pA2]
      refine wpAnyH_ready (rs := [9]) (by kernel_rfl) (by simp) ?_
      refine AllReadyH.cons rfl (fun K hK => ?_) AllReadyH.nil
      go_simp
      go_at_call 8
      refine (HI2.out).mono ?_
      rintro e w' ⟨rfl, rfl⟩
      refine hK.out _ _ ?_ (fun hHeld => ?_); · ((try dsimp only); (exact ⟨c1, c2⟩))
      clear hK K
      try simp only [Act.put, pA0, pA1, pA2]
      refine tk ?_ 10 (some 12) rfl rfl ?_ ?_; rotate_left; · (intro w hSw; (try dsimp only at hSw); go_simp <;> with_reducible rfl)
      try simp only [Act.put, pA0, pA1, pA2]
      refine tk ?_ 11 (some 13) rfl rfl ?_ ?_; rotate_left; · (intro w hSw; (try dsimp only at hSw); go_simp <;> with_reducible rfl)
      try simp only [Act.put, pA0, pA1, pA2]
      refine wpAnyH_done (by kernel_rfl) ?_ _
      go_wp2
      go_meet
      case rel => exact ⟨rfl, rfl, hid (HCV.out.below (Below.refl _ V).drew), hid (HPB.out.keep (Below.refl _ V).drew)⟩
     case rest =>
      obtain ⟨rfl, rfl, HC, HPB⟩ := hcut
      clear HCV c0 c1 c2 q1 q2 HI1 HI2
      have ca := HC.out.bbk.cell a
      rw [arr_get (by have := HAB.out; omega)] at ca
      have cfa := HC.out.bbk.free a
      have ha9 : (a : Int) < 9 := by have := HAB.out; omega
      have hb9 : (b : Int) < 9 := by have := HAB.out; omega
      have HCA := hid ((HC.out.below (Below.refl _ _).drew).setB a (bits .or .i64 (bt a) (p2 b)))
      go_wp2
      go_cut [12] from 109 to 117 (fun x wr => x = .int .i64 (a : Nat) ∧ Hid (CrS w3 wr bb N nc names (fun j => if j = a then bits .or .i64 (bt a) (p2 b) else bt j)))
      case first =>
       go_region
       all_goals (go_wp2_with fail)
       all_goals go_meet
       case rel => exact ⟨rfl, HCA⟩
      case rest =>
       obtain ⟨rfl, HCB⟩ := hcut
       have cb := HCB.out.bbk.cell b
       rw [arr_get (by have := HAB.out; omega), if_neg (by have := HAB.out; omega)] at cb
       have cfb := HCB.out.bbk.free b
       have HCC := hid ((HCB.out.below (Below.refl _ _).drew).setB b (bits .andNot .i64 (bt b) (p2 a)))
       clear ca cfa HC HCA HPB
       go_wp2
       go_region
       all_goals go_wp2
       all_goals go_roundg (J.length - (k + 1))
       case measure => have := HK.out; have := HLT.out; omega
       case rel => exact ⟨k + 1, N, nc, by have := HK.out; have := HLT.out; omega, by have := HLT.out; have := HJL.out; go_num, by rw [HPL.out], by rw [HPL.out]; exact hid (HCC.out.congr HBTN.out)⟩
  · have hkj : k = J.length := by have := HK.out; omega
    subst hkj
    rw [HFL.out] at HC ⊢
    have hpl8 := HBT.out.bk.1.pla
    have hbl := HBT.out.bk.1.bea
    have HTO := hid (show TourOk s.players.length (bitsOf s.beats) from by have := HBT.out.tr.bits.2; rwa [hbl] at this)
    have HBM := hid fun i (hi : i < s.players.length) => btA_mk HBT.out hi
    have HQO := hid (mintOrderQ R m _ L 1 s J false wr (HMW.out wr HC.out.chs) HBT.out (HEN.out.keep (HBE.out wr HC.out.chs)) (HT.out.below (HBE.out wr HC.out.chs)))
    have HQK := hid fun w4 (b4 : Below wr.heap.size wr w4) => mintKingsQ R m _ L 1 s J false w4 ((HMW.out wr HC.out.chs).below b4) HBT.out (HEN.out.keep (below_call (HBE.out wr HC.out.chs) b4 (HBE.out wr HC.out.chs).size)) (HT.out.below (below_call (HBE.out wr HC.out.chs) b4 (HBE.out wr HC.out.chs).size))
    unfold AskR replyOrder at HQO
    unfold AskR replyKings at HQK
    rw [hbl] at HQO HQK
    have HNMS := hid HBT.out.nm
    have HBW2 := hid (HBE.out wr HC.out.chs)
    generalize hbits : bitsOf s.beats = b at *
    obtain ⟨names, hnm⟩ : ∃ l, l = s.players := ⟨_, rfl⟩
    have hnd : names.Nodup := by rw [hnm]; exact HNMS.out.pd
    have hni : ∀ v ∈ names, isNm v = true := by rw [hnm]; exact HNMS.out.pl
    rw [← hnm] at HC HTO HBM HQO HQK hpl8 ⊢
    clear hk hlt hbits hnm HNMS hbl HK
    by_cases h0 : names.length = 0
    · rw [if_pos h0] at HQO
      simp only [if_pos h0] at HQK
      rw [h0]
      go_wp2_with fail
      refine (HQO.out).mono ?_; rintro e w4 ⟨rfl, b4⟩
      have HQK4 := hid (HQK.out w4 b4)
      have HB4 := hid (below_call HBW2.out b4 HBW2.out.size)
      clear HQO HQK b4
      go_wp2_with fail
      refine (HQK4.out).mono ?_; rintro e w5 ⟨rfl, b5⟩
      have HB5 := hid (below_call HB4.out b5 HB4.out.size)
      have HAW := hid (awakeG w5 (HEN.out.keep HB5.out) (HT.out.below HB5.out))
      clear HQK4 b5
      go_wp2_with fail
      refine (HAW.out).mono ?_; rintro e w6 ⟨rfl, b6⟩
      have HB6 := hid (below_call HB5.out b6 HB5.out.size)
      clear b6
      go_wp2
      go_ret
      exact ⟨rfl, HB6.out⟩
    · rw [if_neg h0] at HQO
      simp only [if_neg h0] at HQK
      have hbl2 := best_len HTO.out
      have hblt : ∀ i ∈ bestL names.length b, i < names.length := fun i hi => best_lt hi
      have hklt : ∀ i ∈ kingL names.length b, i < names.length := fun i hi => kingL_lt hi
      have hkle := kingL_len names.length b
      have hkne := kingL_ne HTO.out (by omega)
      have hz1 := nmd_size names (nm_size hni) (bestL names.length b) sOrder
      have hz2 := nmd_size names (nm_size hni) (kingL names.length b) sKings
      have hso : sOrder.size = 5 := rfl
      have hsk : sKings.size = 5 := rfl
      have hpo := parts_nmd sOrder (by decide) names hni (bestL names.length b) hblt
      have hpk := parts_nmd sKings (by decide) names hni (kingL names.length b) hklt
      have hPO := parts_parts (s := nmd sOrder names (bestL names.length b)) (by omega)
      have hPK := parts_parts (s := nmd sKings names (kingL names.length b)) (by omega)
      rw [hpo] at hPO
      rw [hpk] at hPK
      have HIX := hid fun i (hi : i < names.length) => idx_nodup hnd hi
      have HBD := hid (best_nodup (n := names.length) (b := b))
      have HADJ := hid (best_adj HTO.out)
      have HK1 := hid fun i (hi : i < names.length) => kingL_one HTO.out (i := i) hi
      obtain ⟨ol, hol⟩ : ∃ l, l = bestL names.length b := ⟨_, rfl⟩
      obtain ⟨kl, hkl⟩ : ∃ l, l = kingL names.length b := ⟨_, rfl⟩
      rw [← hol] at hPO hbl2 hblt HBD HADJ HQO hz1
      rw [← hkl] at hPK hkle hklt hkne HK1 hz2
      simp only [← hkl] at HQK
      obtain ⟨kn, hkn⟩ : ∃ l, l = kl.length := ⟨_, rfl⟩
      have hkn1 : 1 ≤ kn := by
       rw [hkn]
       cases kl with
       | nil => exact absurd rfl hkne
       | cons a t => simp
      obtain ⟨n, hn⟩ : ∃ l, l = names.length := ⟨_, rfl⟩
      have hlo : (sOrder :: ol.map fun i => names.getD i ByteArray.empty).length = n + 1 := by rw [List.length_cons, List.length_map]; omega
      have hlk : (sKings :: kl.map fun i => names.getD i ByteArray.empty).length = kn + 1 := by rw [List.length_cons, List.length_map]; omega
      have HPO := hid fun w (hm : MaxL w) => hPO w hm
      have HPK := hid fun w (hm : MaxL w) => hPK w hm
      rw [hlo] at HPO
      rw [hlk] at HPK
      obtain ⟨ro, hro⟩ : ∃ l, l = nmd sOrder names ol := ⟨_, rfl⟩
      obtain ⟨rk, hrk⟩ : ∃ l, l = nmd sKings names kl := ⟨_, rfl⟩
      rw [← hro] at HQO HPO
      simp only [← hrk] at HQK
      rw [← hrk] at HPK
      have HOLT := hid hblt
      have HOLN := hid hbl2
      have HKN := hid hkn
      have HN := hid hn
      have HKNE := hid hkn1
      rw [← hn] at h0 hpl8 hkle HTO HBM HIX HOLT HOLN HK1 ⊢
      have HN8 := hid hpl8
      clear hbl2 hblt hklt hkle hkne hz1 hz2 hso hsk hpo hpk hPO hPK hlo hlk hol hkl hro hrk hkn hn
      have e0 : ((n : Int) == 0) = false := by rw [beq_eq_false_iff_ne]; omega
      have e02 : (n == 0) = false := by rw [beq_eq_false_iff_ne]; exact h0
      have e1 : ((n : Int) != (n : Int)) = false := by simp
      have e2 : ((kn : Int) == 0) = false := by rw [beq_eq_false_iff_ne]; omega
      have e22 : (kn == 0) = false := by rw [beq_eq_false_iff_ne]; omega
      go_wp2_with fail
      refine (HQO.out).mono ?_; rintro e w4 ⟨rfl, b4⟩
      have HQK4 := hid (HQK.out w4 b4)
      have HC4 := hid (HC.out.below b4)
      clear HQO HQK b4 HC HBW2
      go_wp2_with fail
      refine (HQK4.out).mono ?_; rintro e w5 ⟨rfl, b5⟩
      have HC5 := hid (HC4.out.below b5)
      have HP5 := hid (HPO.out w5 (HEN.out.keep (HBE.out w5 HC5.out.chs)).max)
      clear HQK4 b5 HC4 HPO
      go_wp2_with fail
      refine (HP5.out).mono ?_; rintro e w6 ⟨rfl, rfl⟩
      have HPB := hid (Blk.new w5 9 (strV (sOrder :: ol.map fun i => names.getD i ByteArray.empty)).toArray)
      have HC6 := hid (HC5.out.below ((Below.refl _ w5).alloc (Nat.le_refl _) (.cells (strV (sOrder :: ol.map fun i => names.getD i ByteArray.empty)).toArray 9)))
      obtain ⟨pb, hpb⟩ : ∃ l, l = w5.heap.size := ⟨_, rfl⟩
      rw [← hpb] at HPB ⊢
      generalize w5.alloc (.cells (strV (sOrder :: ol.map fun i => names.getD i ByteArray.empty)).toArray 9) = V6 at *
      have HP6 := hid (HPK.out V6 (HEN.out.keep (HBE.out V6 HC6.out.chs)).max)
      clear HC5 HP5 hpb HPK
      go_wp2_with fail
      refine (HP6.out).mono ?_; rintro e w7 ⟨rfl, rfl⟩
      have HPC := hid (Blk.new V6 9 (strV (sKings :: kl.map fun i => names.getD i ByteArray.empty)).toArray)
      have hb67 := (Below.refl V6.heap.size V6).alloc (Nat.le_refl _) (.cells (strV (sKings :: kl.map fun i => names.getD i ByteArray.empty)).toArray 9)
      have HC := hid (HC6.out.below hb67)
      have HPO := hid (HPB.out.keep hb67)
      obtain ⟨pc, hpc⟩ : ∃ l, l = V6.heap.size := ⟨_, rfl⟩
      rw [← hpc] at HPC ⊢
      clear HPB HC6 HP6 hb67 hpc
      generalize V6.alloc (.cells (strV (sKings :: kl.map fun i => names.getD i ByteArray.empty)).toArray 9) = V at *
      have HOC := hid fun (q : Nat) (hq : q < n) => show V.cell? ⟨pb, 1 + q, none⟩ = some (.string (names.getD (ol.getD q 0) ByteArray.empty)) from by
       have h := HPO.out.cell (1 + q)
       have hq' : ol[q]? = some (ol.getD q 0) := by
        have := HOLN.out
        rw [List.getD_eq_getElem?_getD, List.getElem?_eq_getElem (by omega)]
        rfl
       rw [h, List.getElem?_toArray, Nat.add_comm]
       unfold strV
       rw [List.map_cons, List.getElem?_cons_succ, List.getElem?_map, List.getElem?_map, hq']
       rfl
      have HNS := hid (Sl.of_own HC.out.nm)
      have HZ0 := hid (show (0 : Int) = mk n (metB ol 0) from by
       rw [← mk_none n]
       apply mk_congr
       intro i _
       unfold metB
       simp)
      have hnle := HN.out
      rw [← hnle] at HNS
      clear HPO hnle
      go_wp2
      clear e0 e02 e1 e2 e22
      go_loopg [20, 174] n (fun gk mt i wr => ∃ q : Nat, gk + q = n ∧ i = .int .i64 q ∧ mt = .int .i64 (mk n (metB ol q)) ∧ V = wr)
      case atStart => exact ⟨0, by omega, rfl, by rw [← HZ0.out], rfl⟩
      case round =>
       obtain ⟨q, hq, rfl, rfl, rfl⟩ := hrel
       have HQ := hid hq
       by_cases hlq : q < n
       · have HLQ := hid hlq
         have hyl : ol[q]? = some (ol.getD q 0) := by
          have := HOLN.out
          rw [List.getD_eq_getElem?_getD, List.getElem?_eq_getElem (by omega)]
          rfl
         have co := HOC.out q hlq
         have hyn := HOLT.out _ (List.mem_of_getElem? hyl)
         have hiy := strIdxE N n nc names (names.getD (ol.getD q 0) ByteArray.empty) V HNS.out
         rw [HIX.out _ hyn] at hiy
         have HIY := hid hiy
         have hbit : bitV (mk n (metB ol q)) ((ol.getD q 0 : Nat) : Int) = 0 := by rw [bitV_if, mk_bitB _ hyn, met_no HBD.out hyl]; rfl
         have hb1 : (bitV (mk n (metB ol q)) ((ol.getD q 0 : Nat) : Int) == 1) = false := by rw [hbit]; rfl
         have hst := met_step hpl8 hyl hyn
         have HST := hid hst
         have fy : Fits ((ol.getD q 0 : Nat) : Int) := ⟨by omega, by omega⟩
         have gy : decide (((ol.getD q 0 : Nat) : Int) < 0) = false := decide_eq_false (by omega)
         have HYL := hid hyl
         have HYN := hid hyn
         generalize ol.getD q 0 = y at *
         generalize mk n (metB ol q) = mq at *
         clear hq hiy hbit hyl hyn
         cases q with
         | zero =>
          go_wp2_with fail
          refine (HIY.out).mono ?_; rintro e w8 ⟨rfl, rfl⟩
          go_wp2
          go_roundg (n - (0 + 1))
          case measure => have := HQ.out; have := HLQ.out; omega
          case rel => exact ⟨0 + 1, by have := HQ.out; have := HLQ.out; omega, by go_num, by rw [← HST.out], rfl⟩
         | succ r =>
          have g0 : decide ((0 : Int) < ((r + 1 : Nat) : Int)) = true := decide_eq_true (by omega)
          have hr1 : ((r + 1 : Nat) : Int) - 1 = (r : Int) := by omega
          have hrn : r < n := by have := HLQ.out; omega
          have hzl : ol[r]? = some (ol.getD r 0) := by
           have := HOLN.out
           rw [List.getD_eq_getElem?_getD, List.getElem?_eq_getElem (by omega)]
           rfl
          have cz := HOC.out r hrn
          have hzn := HOLT.out _ (List.mem_of_getElem? hzl)
          have hiz := strIdxE N n nc names (names.getD (ol.getD r 0) ByteArray.empty) V HNS.out
          rw [HIX.out _ hzn] at hiz
          have HIZ := hid hiz
          have cb := HC.out.bbk.cell (ol.getD r 0)
          rw [arr_get (by omega), HBM.out _ hzn] at cb
          have hadj := HADJ.out r _ y hzl HYL.out
          have hbz : bitV (mk n (b (ol.getD r 0))) (y : Int) = 1 := by rw [bitV_if, mk_bitB _ HYN.out, hadj]; rfl
          have hb0 : (bitV (mk n (b (ol.getD r 0))) (y : Int) == 0) = false := by rw [hbz]; rfl
          have hz9 : ((ol.getD r 0 : Nat) : Int) < 9 := by omega
          have HZN := hid hzn
          generalize ol.getD r 0 = z at *
          generalize mk n (b z) = bz at *
          clear hiz hadj hbz hzl
          go_wp2_with fail
          refine (HIY.out).mono ?_; rintro e w8 ⟨rfl, rfl⟩
          go_wp2_with fail
          refine (HIZ.out).mono ?_; rintro e w8 ⟨rfl, rfl⟩
          go_wp2
          go_roundg (n - (r + 1 + 1))
          case measure => have := HQ.out; have := HLQ.out; omega
          case rel => exact ⟨r + 1 + 1, by have := HQ.out; have := HLQ.out; omega, by go_num, by rw [← HST.out], rfl⟩
       · have hp1 := p2_pos (n : Int)
         have hp2 := p2_bd (k := (n : Int)) (by omega)
         have fn : Fits (n : Int) := ⟨by omega, by omega⟩
         have hwr : IntKind.i64.wrap (p2 (n : Int) - 1) = p2 (n : Int) - 1 := by rw [IntWalk.i64_in _ (by omega)]
         clear hq
         go_wp2
         go_loopg [216] n (fun gk i wr => ∃ q : Nat, gk + q = n ∧ i = .int .i64 q ∧ Hid (CrS w3 wr bb N nc names (btA s)) ∧ Hid (Blk wr pc 9 (strV (sKings :: kl.map fun i => names.getD i ByteArray.empty)).toArray))
         case atStart => exact ⟨0, by omega, rfl, HC, HPC⟩
         case round =>
          clear hlq HQ HC HPC HNS HOC HIX
          obtain ⟨q, hq, rfl, HC, HPC⟩ := hrel
          have HNS := hid (Sl.of_own HC.out.nm)
          have HQ := hid hq
          by_cases hlq : q < n
          · have HLQ := hid hlq
            obtain ⟨nb, no, u, rfl, lb, en, cn⟩ := HNS.out.at (by rw [← HN.out]; exact hlq)
            obtain ⟨x, hx, rfl⟩ := strV_at en
            have hxd : names.getD q ByteArray.empty = x := by rw [List.getD_eq_getElem?_getD, hx]; rfl
            have cb := HC.out.bbk.cell q
            rw [arr_get (by omega), HBM.out _ hlq] at cb
            have hq9 : (q : Int) < 9 := by omega
            have fq : Fits (q : Int) := ⟨by omega, by omega⟩
            have hab := all_but (n := n) (by omega) hlq
            have hxx : (x.toList == x.toList) = true := by simp
            clear hq lb en hx
            cases heq : (mk n (b q) == mk n (fun k => decide (k ≠ q))) with
            | false =>
             generalize mk n (b q) = bq at *
             generalize mk n (fun k => decide (k ≠ q)) = cq at *
             go_wp2
             refine wp_region_held_drew (S := (fun w' => w'.cell? ⟨bb, q, none⟩ = some (.int .i64 bq))) (by kernel_rfl) (by (try dsimp only); (exact cb)) (fun hHeld => ?_)
             refine tk ?_ 0 (some 221) rfl rfl ?_ ?_; rotate_left; · (intro w hSw; (try dsimp only at hSw); go_simp <;> with_reducible rfl)
             try simp only [Act.put, pA0, pA1, pA2]
             refine tk ?_ 1 (some 222) rfl rfl ?_ ?_; rotate_left; · (intro w hSw; (try dsimp only at hSw); go_simp <;> with_reducible rfl)
             try simp only [Act.put, pA0, pA1, pA2]
             refine tk ?_ 2 (some 223) rfl rfl ?_ ?_; rotate_left; · (intro w hSw; (try dsimp only at hSw); go_simp <;> with_reducible rfl)
             try simp only [Act.put, pA0, pA1, pA2]
             refine tk ?_ 3 (some 224) rfl rfl ?_ ?_; rotate_left; · (intro w hSw; (try dsimp only at hSw); go_simp <;> with_reducible rfl)
             try simp only [Act.put, pA0, pA1, pA2]
             refine tk ?_ 4 (some 225) rfl rfl ?_ ?_; rotate_left; · (intro w hSw; (try dsimp only at hSw); go_simp <;> with_reducible rfl)
             try simp only [Act.put, pA0, pA1, pA2]
             refine tk ?_ 5 (some 226) rfl rfl ?_ ?_; rotate_left; · (intro w hSw; (try dsimp only at hSw); go_simp <;> with_reducible rfl)
             try simp only [Act.put, pA0, pA1, pA2]
             refine tk ?_ 6 (some 227) rfl rfl ?_ ?_; rotate_left; · (intro w hSw; (try dsimp only at hSw); go_simp <;> with_reducible rfl)
             try simp only [Act.put, pA0, pA1, pA2]
             refine tk ?_ 7 (some 228) rfl rfl ?_ ?_; rotate_left; · (intro w hSw; (try dsimp only at hSw); go_simp <;> with_reducible rfl)
             try simp only [Act.put, pA0, pA1, pA2]
             refine tk ?_ 8 (some 229) rfl rfl ?_ ?_; rotate_left; · (intro w hSw; (try dsimp only at hSw); go_simp <;> with_reducible rfl)
             try simp only [Act.put, pA0, pA1, pA2]
             refine tk ?_ 9 (some 230) rfl rfl ?_ ?_; rotate_left; · (intro w hSw; (try dsimp only at hSw); go_simp <;> with_reducible rfl)
             try simp only [Act.put, pA0, pA1, pA2]
             refine tk ?_ 10 (some 231) rfl rfl ?_ ?_; rotate_left; · (intro w hSw; (try dsimp only at hSw); go_simp <;> with_reducible rfl)
             try simp only [Act.put, pA0, pA1, pA2]
             refine tk ?_ 11 (some 232) rfl rfl ?_ ?_; rotate_left; · (intro w hSw; (try dsimp only at hSw); go_simp <;> with_reducible rfl)
             try simp only [Act.put, pA0, pA1, pA2]
             refine tk ?_ 12 (some 233) rfl rfl ?_ ?_; rotate_left; · (intro w hSw; (try dsimp only at hSw); go_simp <;> with_reducible rfl)
             try simp only [Act.put, pA0, pA1, pA2]
             refine takeD (i := 13) (v := undef) (some 234) rfl rfl (by kernel_rfl) (by kernel_rfl) (by kernel_rfl) (fun _ _ _ h => h) (Or.inr ⟨by rfl, rfl⟩) (by assumption) ?_
             try simp only [Act.put, pA0, pA1, pA2]
             refine takeD (i := 14) (v := undef) (some 235) rfl rfl (by kernel_rfl) (by kernel_rfl) (by kernel_rfl) (fun _ _ _ h => h) (Or.inr ⟨by rfl, rfl⟩) (by assumption) ?_
             try simp only [Act.put, pA0, pA1, pA2]
             refine takeD (i := 15) (v := undef) (some 236) rfl rfl (by kernel_rfl) (by kernel_rfl) (by kernel_rfl) (fun _ _ _ h => h) (Or.inr ⟨by rfl, rfl⟩) (by assumption) ?_
             try simp only [Act.put, pA0, pA1, pA2]
             refine takeD (i := 16) (v := undef) (some 237) rfl rfl (by kernel_rfl) (by kernel_rfl) (by kernel_rfl) (fun _ _ _ h => h) (Or.inr ⟨by rfl, rfl⟩) (by assumption) ?_
             try simp only [Act.put, pA0, pA1, pA2]
             refine takeD (i := 17) (v := undef) (some 238) rfl rfl (by kernel_rfl) (by kernel_rfl) (by kernel_rfl) (fun _ _ _ h => h) (Or.inr ⟨by rfl, rfl⟩) (by assumption) ?_
             try simp only [Act.put, pA0, pA1, pA2]
             refine takeD (i := 18) (v := undef) (some 239) rfl rfl (by kernel_rfl) (by kernel_rfl) (by kernel_rfl) (fun _ _ _ h => h) (Or.inr ⟨by rfl, rfl⟩) (by assumption) ?_
             try simp only [Act.put, pA0, pA1, pA2]
             refine takeD (i := 19) (v := undef) (some 240) rfl rfl (by kernel_rfl) (by kernel_rfl) (by kernel_rfl) (fun _ _ _ h => h) (Or.inr ⟨by rfl, rfl⟩) (by assumption) ?_
             try simp only [Act.put, pA0, pA1, pA2]
             refine takeD (i := 20) (v := undef) (some 241) rfl rfl (by kernel_rfl) (by kernel_rfl) (by kernel_rfl) (fun _ _ _ h => h) (Or.inr ⟨by rfl, rfl⟩) (by assumption) ?_
             try simp only [Act.put, pA0, pA1, pA2]
             refine takeD (i := 21) (v := undef) (some 242) rfl rfl (by kernel_rfl) (by kernel_rfl) (by kernel_rfl) (fun _ _ _ h => h) (Or.inr ⟨by rfl, rfl⟩) (by assumption) ?_
             try simp only [Act.put, pA0, pA1, pA2]
             refine takeD (i := 22) (v := undef) (some 243) rfl rfl (by kernel_rfl) (by kernel_rfl) (by kernel_rfl) (fun _ _ _ h => h) (Or.inr ⟨by rfl, rfl⟩) (by assumption) ?_
             try simp only [Act.put, pA0, pA1, pA2]
             refine tk ?_ 23 (some 244) rfl rfl ?_ ?_; rotate_left; · (intro w hSw; (try dsimp only at hSw); go_simp <;> with_reducible rfl)
             try simp only [Act.put, pA0, pA1, pA2]
             refine wpAnyH_done (by kernel_rfl) ?_ _
             go_wp2
             go_roundg (n - (q + 1))
             case measure => have := HQ.out; have := HLQ.out; omega
             case rel => exact ⟨q + 1, by have := HQ.out; have := HLQ.out; omega, by go_num, hid (HC.out.below (Below.refl _ _).drew), hid (HPC.out.keep (Below.refl _ _).drew)⟩
            | true =>
             have hall : ∀ j, j < n → j ≠ q → b q j = true := fun j hj hjq => by
              have := mk_inj (beq_iff_eq.1 heq) j hj
              rw [this]
              simp [hjq]
             have hk1 := HK1.out q hlq hall
             have ck := HPC.out.cell 1
             rw [hk1] at ck
             simp only [strV, List.map_cons, List.map_nil, List.getElem?_toArray, List.getElem?_cons_zero, List.getElem?_cons_succ, hxd] at ck
             have hkn : kn = 1 := by rw [HKN.out, hk1]; rfl
             subst hkn
             generalize mk n (b q) = bq at *
             generalize mk n (fun k => decide (k ≠ q)) = cq at *
             go_wp2
             refine wp_region_held_drew (S := (fun w' => w'.cell? ⟨bb, q, none⟩ = some (.int .i64 bq) ∧ w'.cell? ⟨pc, 1, none⟩ = some (.string x))) (by kernel_rfl) (by (try dsimp only); (exact ⟨cb, ck⟩)) (fun hHeld => ?_)
             refine tk ?_ 0 (some 221) rfl rfl ?_ ?_; rotate_left; · (intro w hSw; (try dsimp only at hSw); go_simp <;> with_reducible rfl)
             try simp only [Act.put, pA0, pA1, pA2]
             refine tk ?_ 1 (some 222) rfl rfl ?_ ?_; rotate_left; · (intro w hSw; (try dsimp only at hSw); go_simp <;> with_reducible rfl)
             try simp only [Act.put, pA0, pA1, pA2]
             refine tk ?_ 2 (some 223) rfl rfl ?_ ?_; rotate_left; · (intro w hSw; (try dsimp only at hSw); go_simp <;> with_reducible rfl)
             try simp only [Act.put, pA0, pA1, pA2]
             refine tk ?_ 3 (some 224) rfl rfl ?_ ?_; rotate_left; · (intro w hSw; (try dsimp only at hSw); go_simp <;> with_reducible rfl)
             try simp only [Act.put, pA0, pA1, pA2]
             refine tk ?_ 4 (some 225) rfl rfl ?_ ?_; rotate_left; · (intro w hSw; (try dsimp only at hSw); go_simp <;> with_reducible rfl)
             try simp only [Act.put, pA0, pA1, pA2]
             refine tk ?_ 5 (some 226) rfl rfl ?_ ?_; rotate_left; · (intro w hSw; (try dsimp only at hSw); go_simp <;> with_reducible rfl)
             try simp only [Act.put, pA0, pA1, pA2]
             refine tk ?_ 6 (some 227) rfl rfl ?_ ?_; rotate_left; · (intro w hSw; (try dsimp only at hSw); go_simp <;> with_reducible rfl)
             try simp only [Act.put, pA0, pA1, pA2]
             refine tk ?_ 7 (some 228) rfl rfl ?_ ?_; rotate_left; · (intro w hSw; (try dsimp only at hSw); go_simp <;> with_reducible rfl)
             try simp only [Act.put, pA0, pA1, pA2]
             refine tk ?_ 8 (some 229) rfl rfl ?_ ?_; rotate_left; · (intro w hSw; (try dsimp only at hSw); go_simp <;> with_reducible rfl)
             try simp only [Act.put, pA0, pA1, pA2]
             refine tk ?_ 9 (some 230) rfl rfl ?_ ?_; rotate_left; · (intro w hSw; (try dsimp only at hSw); go_simp <;> with_reducible rfl)
             try simp only [Act.put, pA0, pA1, pA2]
             refine tk ?_ 10 (some 231) rfl rfl ?_ ?_; rotate_left; · (intro w hSw; (try dsimp only at hSw); go_simp <;> with_reducible rfl)
             try simp only [Act.put, pA0, pA1, pA2]
             refine tk ?_ 11 (some 232) rfl rfl ?_ ?_; rotate_left; · (intro w hSw; (try dsimp only at hSw); go_simp <;> with_reducible rfl)
             try simp only [Act.put, pA0, pA1, pA2]
             refine tk ?_ 12 (some 233) rfl rfl ?_ ?_; rotate_left; · (intro w hSw; (try dsimp only at hSw); go_simp <;> with_reducible rfl)
             try simp only [Act.put, pA0, pA1, pA2]
             refine tk ?_ 13 (some 234) rfl rfl ?_ ?_; rotate_left; · (intro w hSw; (try dsimp only at hSw); go_simp <;> with_reducible rfl)
             try simp only [Act.put, pA0, pA1, pA2]
             refine tk ?_ 14 (some 235) rfl rfl ?_ ?_; rotate_left; · (intro w hSw; (try dsimp only at hSw); go_simp <;> with_reducible rfl)
             try simp only [Act.put, pA0, pA1, pA2]
             refine tk ?_ 15 (some 236) rfl rfl ?_ ?_; rotate_left; · (intro w hSw; (try dsimp only at hSw); go_simp <;> with_reducible rfl)
             try simp only [Act.put, pA0, pA1, pA2]
             refine tk ?_ 16 (some 237) rfl rfl ?_ ?_; rotate_left; · (intro w hSw; (try dsimp only at hSw); go_simp <;> with_reducible rfl)
             try simp only [Act.put, pA0, pA1, pA2]
             refine tk ?_ 17 (some 238) rfl rfl ?_ ?_; rotate_left; · (intro w hSw; (try dsimp only at hSw); go_simp <;> with_reducible rfl)
             try simp only [Act.put, pA0, pA1, pA2]
             refine tk ?_ 18 (some 239) rfl rfl ?_ ?_; rotate_left; · (intro w hSw; (try dsimp only at hSw); go_simp <;> with_reducible rfl)
             try simp only [Act.put, pA0, pA1, pA2]
             refine tk ?_ 19 (some 240) rfl rfl ?_ ?_; rotate_left; · (intro w hSw; (try dsimp only at hSw); go_simp <;> with_reducible rfl)
             try simp only [Act.put, pA0, pA1, pA2]
             refine tk ?_ 20 (some 241) rfl rfl ?_ ?_; rotate_left; · (intro w hSw; (try dsimp only at hSw); go_simp <;> with_reducible rfl)
             try simp only [Act.put, pA0, pA1, pA2]
             refine tk ?_ 21 (some 242) rfl rfl ?_ ?_; rotate_left; · (intro w hSw; (try dsimp only at hSw); go_simp <;> with_reducible rfl)
             try simp only [Act.put, pA0, pA1, pA2]
             refine tk ?_ 22 (some 243) rfl rfl ?_ ?_; rotate_left; · (intro w hSw; (try dsimp only at hSw); go_simp <;> with_reducible rfl)
             try simp only [Act.put, pA0, pA1, pA2]
             refine tk ?_ 23 (some 244) rfl rfl ?_ ?_; rotate_left; · (intro w hSw; (try dsimp only at hSw); go_simp <;> with_reducible rfl)
             try simp only [Act.put, pA0, pA1, pA2]
             refine wpAnyH_done (by kernel_rfl) ?_ _
             go_wp2
             go_roundg (n - (q + 1))
             case measure => have := HQ.out; have := HLQ.out; omega
             case rel => exact ⟨q + 1, by have := HQ.out; have := HLQ.out; omega, by go_num, hid (HC.out.below (Below.refl _ _).drew), hid (HPC.out.keep (Below.refl _ _).drew)⟩
          · have HB5 := hid (HBE.out _ HC.out.chs)
            have HAW := hid (awakeG _ (HEN.out.keep HB5.out) (HT.out.below HB5.out))
            clear hq
            go_wp2_with fail
            refine (HAW.out).mono ?_; rintro e w8 ⟨rfl, b6⟩
            have HB6 := hid (below_call HB5.out b6 HB5.out.size)
            clear b6
            go_wp2
            go_ret
            exact ⟨rfl, HB6.out⟩
end Go.Proofs.YtflepjgcpdaodaaGreatDoor
