/- Walk of TopRoll. Conditions: the lines are short of the shelf's bound; the library's variables stand. -/
import Derived.Test.YtnibidmlkbcfkaaGreatDoorT38
import Derived.Test.YtnibidmlkbcfkaaGreatDoorT39
namespace Go.Proofs.YtnibidmlkbcfkaaGreatDoor
open Go.RowKit Go.Maps
theorem TPI : TS Tryz.prog 27 31 2 16 (.agg #[.int .i64 0, .int .i64 0]) := ⟨Tryz.underlying27, by kernel_rfl, rfl, by decide⟩
/-- What stands while the journal is read: the names, and the pairs. -/
structure RtS (w3 W : World) (N : Option Addr) (nc : Nat) (names : List ByteArray) (Q : Option Addr) (qc : Nat) (P : List (Nat × Nat)) : Prop where
 low : Below w3.heap.size w3 W
 nm : W.ownsRow w3.heap.size 9 1 (.slice N names.length nc) names.length (strV names)
 pr : W.ownsRow w3.heap.size 31 2 (.slice Q P.length qc) P.length (flat (pI P))
section
variable {w3 W W' : World} {N N' Q Q' : Option Addr} {nc nc' qc qc' : Nat} {names : List ByteArray} {P : List (Nat × Nat)}
theorem RtS.below (h : RtS w3 W N nc names Q qc P) (hb : Below W.heap.size W W') : RtS w3 W' N nc names Q qc P := ⟨below_call h.low hb h.low.size, own_below h.nm hb, own_below h.pr hb⟩
theorem own_two3 {w : World} {b1 b2 : Nat} {e1 e2 : TypeId} {s1 s2 n1 n2 : Nat} {v u : Value} {xs ys : List Value} (h : w.ownsRow b1 e1 s1 v n1 xs) (k : w.ownsRow b2 e2 s2 u n2 ys) (hne : e1 ≠ e2) : v.ownBlock = none ∨ v.ownBlock ≠ u.ownBlock := by
 cases e : v.ownBlock with
 | none => exact .inl rfl
 | some g => exact .inr fun e2 => own_two h k hne g e e2.symm
theorem RtS.pushN (h : RtS w3 W N nc names Q qc P) {v : ByteArray} (hg : W.grownBy W' (Value.slice N names.length nc).ownBlock) (ho : W'.ownsRow w3.heap.size 9 1 (.slice N' (names.length + 1) nc') (names.length + 1) (strV names ++ [.string v])) : RtS w3 W' N' nc' (names ++ [v]) Q qc P := by
 refine ⟨h.low.grown hg h.low.size (fun g hg => (h.nm.lt g hg).1), ?_, h.pr.kept hg (own_two3 h.pr h.nm (by decide))⟩
 rw [List.length_append, List.length_singleton]
 have e : strV (names ++ [v]) = strV names ++ [.string v] := by unfold strV; rw [List.map_append]; rfl
 rw [e]
 exact ho
theorem RtS.pushP (h : RtS w3 W N nc names Q qc P) {i j : Nat} (hg : W.grownBy W' (Value.slice Q P.length qc).ownBlock) (ho : W'.ownsRow w3.heap.size 31 2 (.slice Q' (P.length + 1) qc') (P.length + 1) (flat (pI P) ++ [.int .i64 (i : Nat), .int .i64 (j : Nat)])) : RtS w3 W' N nc names Q' qc' (P ++ [(i, j)]) := by
 refine ⟨h.low.grown hg h.low.size (fun g hg => (h.pr.lt g hg).1), h.nm.kept hg (own_two3 h.nm h.pr (by decide)), ?_⟩
 rw [List.length_append, List.length_singleton]
 have e : flat (pI (P ++ [(i, j)])) = flat (pI P) ++ [.int .i64 (i : Nat), .int .i64 (j : Nat)] := by unfold flat pI; rw [List.map_append, List.flatMap_append]; rfl
 rw [e]
 exact ho
end
theorem itoaN2 (n : Nat) (hn : n < 1000) (w : World) (h : EnvN w) :
 Calls Tryz.prog 19 #[.int .i64 (n : Nat)] w fun e w' => e = .returned (.string (itoaB n)) ∧ Below w.heap.size w w' := itoaAny (n : Nat) (by omega) (by omega) w h
set_option maxRecDepth 100000 in
set_option maxHeartbeats 40000000 in
theorem topRoll_walk (w : World) (U : Option Addr) (n c0 : Nat) (l : List ByteArray) (an am : Int) (he : EnvN w) (hT : Tab w) (hs : Sl w U n c0 (strV l)) (hl : ∀ x ∈ l, x.size ≤ 100000000) :
 Calls Tryz.prog 3 #[.slice U n c0, .int .i64 an, .int .i64 am] w fun e w' => e = .returned (.bool true) ∧ Below w.heap.size w w' := by
 have HOF := hid (openedT w U n c0 l he hT hs hl)
 have HEN := hid he
 have HT := hid hT
 have hjl : (runD bk0 [] (l.take 60)).2.length ≤ 60 := by
  have := runD_len (l.take 60) bk0 []
  rw [List.length_take, List.length_nil] at this
  omega
 have HJL := hid hjl
 have hrun := runD_runs (l.take 60) bk0 [] rfl
 generalize (runD bk0 [] (l.take 60)).1 = s at *
 generalize (runD bk0 [] (l.take 60)).2 = J at *
 obtain ⟨hbt, f, f0, fl, hf⟩ := run_at J bk0 s BkT.begin hrun
 have HBT := hid hbt
 have HF := hid hf
 have HFL := hid fl
 have HF0 := hid f0
 have HRQ := hid fun (W : World) K m A c L (hW : OpdS w W K m A c L 1 s J (likeC 1 J) false) => show Calls Tryz.prog 11 #[.pointer (some ⟨m, 0, none⟩), .string ⟨#[114, 111, 108, 108]⟩] W (AskR W (replyRoll s)) from by
  obtain ⟨R, d, hmm, _⟩ := hW.mm
  exact mintRollAll R m d L 1 s J false W hmm hbt (he.keep hW.low) (hT.below hW.low)
 have HWQ := hid fun (W : World) K m A c L (hW : OpdS w W K m A c L 1 s J (likeC 1 J) false) => show Calls Tryz.prog 11 #[.pointer (some ⟨m, 0, none⟩), .string ⟨#[119, 97, 121, 115]⟩] W (AskR W (replyWays s)) from by
  obtain ⟨R, d, hmm, _⟩ := hW.mm
  exact mintWaysQ R m d L 1 s J false W hmm hbt (he.keep hW.low) (hT.below hW.low)
 have HCQ := hid fun (x y : ByteArray) (hx : isNm x = true) (hy : isNm y = true) (W : World) K m A c L (hW : OpdS w W K m A c L 1 s J (likeC 1 J) false) => show Calls Tryz.prog 11 #[.pointer (some ⟨m, 0, none⟩), .string (chaX x y)] W (AskR W (replyChance s x y)) from by
  obtain ⟨R, d, hmm, _⟩ := hW.mm
  exact mintChaQ x y hx hy R m d L 1 s J false W hmm hbt (he.keep hW.low) (hT.below hW.low)
 have HPT := hid fun (x : ByteArray) (hx : x.size ≤ 1000) (W : World) (hW : Below w.heap.size w W) => parts_parts (s := x) (by omega) W (he.keep hW).max
 clear he hT hs hl hjl hrun hbt hf fl f0
 go_enter Tryz.func3, Tryz.ntmps3
 go_wp2_with fail
 refine (HOF.out).mono ?_; rintro e w1 ⟨K, m, A, cA, L, rfl, hop⟩
 have HOP := hid hop
 obtain ⟨R, d, hmm, hft⟩ := hop.mm
 obtain ⟨D0, dc0, rfl⟩ := own_form hmm.own
 obtain ⟨sb, A1, ca1, m1, m2, m3, m4⟩ := hmm.ex
 have HJO := hid (mintJournal m _ 1 sb D0 J.length dc0 J false w1 (by have := HJL.out; omega) m1 (Sl.of_own hmm.own))
 clear hop hmm hft m1 m2 m3 m4 HOF
 go_wp2_with fail
 refine (HJO.out).mono ?_; rintro e w3 ⟨D, dc, rfl, ho, b3⟩
 have HDO := hid ho
 have HOP := hid (HOP.out.below b3)
 have HSD := hid fun (W : World) (h : Below w3.heap.size w3 W) => (Sl.of_own HDO.out).below h
 have HOW := hid fun (W : World) (h : Below w3.heap.size w3 W) => HOP.out.below h
 have hcap := (Sl.of_own HDO.out).cap
 have hcapm := (Sl.of_own HDO.out).capm
 have hj60 := HJL.out
 have hf0 : (f 0).medals = [] := by rw [HF0.out]; rfl
 have HF0M := hid hf0
 have RL0 := hid (show RtS w3 w3 none 0 (f 0).medals none 0 [] from by
  rw [hf0]
  exact ⟨Below.refl _ _, World.ownsRow_nil _ _ _ _, World.ownsRow_nil _ _ _ _⟩)
 have PR0 := hid (show ClI (f 0) [] from by rw [HF0.out]; exact ClI.begin)
 clear ho b3 HJO hf0
 go_wp2
 go_loopg [10, 11, 43] J.length (fun gk nv pv i wr => ∃ (k : Nat) (N : Option Addr) (nc : Nat) (Q : Option Addr) (qc : Nat) (P : List (Nat × Nat)), gk + k = J.length ∧ i = .int .i64 k ∧ nv = .slice N (f k).medals.length nc ∧ pv = .slice Q P.length qc ∧ Hid (RtS w3 wr N nc (f k).medals Q qc P) ∧ Hid (ClI (f k) P) ∧ Hid (BkT (f k)))
 case atStart => exact ⟨0, none, 0, none, 0, [], by omega, rfl, by rw [HF0M.out]; rfl, rfl, RL0, PR0, hid (by rw [HF0.out]; exact BkT.begin)⟩
 case round =>
  clear RL0 PR0
  obtain ⟨k, N, nc, Q, qc, P, hk, rfl, rfl, rfl, HC, HPI, HBKK⟩ := hrel
  have HK := hid hk
  by_cases hlt : k < J.length
  · have HLT := hid hlt
    obtain ⟨db, dof, u, rfl, lbd, ed, cad⟩ := (HSD.out wr HC.out.low).at hlt
    obtain ⟨x, hx, rfl⟩ := strV_at ed
    obtain ⟨hbk, hkd⟩ := HF.out k x hx
    have hbk2 : BkT (f (k + 1)) := by
     by_cases h1 : k + 1 < J.length
     · exact (HF.out (k + 1) J[k + 1] (List.getElem?_eq_getElem h1)).1
     · have : k + 1 = J.length := by omega
       rw [this, HFL.out]; exact HBT.out
    have HBK2 := hid hbk2
    have hsz := kind_size hkd
    have HCR := hid (rollLn hbk hkd)
    have HBK := hid hbk
    have HP := hid (HPT.out x (by omega) wr (HOW.out wr HC.out.low).low)
    clear hk ed hx hbk hkd hsz lbd hbk2
    go_wp2_with fail
    refine (HP.out).mono ?_; rintro e wp ⟨rfl, rfl⟩
    have HCV := hid (HC.out.below ((Below.refl _ wr).alloc (Nat.le_refl _) (.cells (strV (parts x)).toArray 9)))
    have HPB := hid (Blk.new wr 9 (strV (parts x)).toArray)
    obtain ⟨pb, hpb⟩ : ∃ b, b = wr.heap.size := ⟨_, rfl⟩
    rw [← hpb] at HPB ⊢
    have HGP := hid fun g (hg : (Value.slice N (f k).medals.length nc).ownBlock = some g) => show g < pb from by have := (HC.out.nm.lt g hg).2; omega
    have HGQ := hid fun g (hg : (Value.slice Q P.length qc).ownBlock = some g) => show g < pb from by have := (HC.out.pr.lt g hg).2; omega
    clear HC HP hpb cad
    have hbk := HBK.out
    have hml := hbk.bk.1.med
    have hHC := HCR.out
    clear HCR
    generalize wr.alloc (.cells (strV (parts x)).toArray 9) = V at *
    cases hHC with
    | other hw1 hw2 hme hab =>
     rw [parts_head x] at HPB ⊢
     have c0 := HPB.out.cell 0
     simp only [strV, List.map_cons, List.getElem?_toArray, List.getElem?_cons_zero] at c0
     generalize wordOf x = wd at *
     have q1 : ¬ wd.toList = [109, 101, 100, 97, 108] := fun e => hw1 (toList_inj (e.trans (by unfold sMedal; simp)))
     have q2 : ¬ wd.toList = [97, 98, 111, 118, 101] := fun e => hw2 (toList_inj (e.trans (by unfold sAbove; simp)))
     have q3 : (wd.toList == [109, 101, 100, 97, 108]) = false := by rw [beq_eq_false_iff_ne]; exact q1
     have q4 : (wd.toList == [97, 98, 111, 118, 101]) = false := by rw [beq_eq_false_iff_ne]; exact q2
     have HCW := hid (show RtS w3 V N nc (f (k + 1)).medals Q qc P from by rw [hme]; exact HCV.out)
     have HPJ := hid (HPI.out.other hme hab)
     have hml2 : (f k).medals.length = (f (k + 1)).medals.length := by rw [hme]
     clear hw1 hw2 hme hab
     go_wp2
     go_roundg (J.length - (k + 1))
     case measure => have := HK.out; have := HLT.out; omega
     case rel => exact ⟨k + 1, N, nc, Q, qc, P, by have := HK.out; have := HLT.out; omega, by have := HLT.out; have := HJL.out; go_num, by first | rfl | rw [hml2], rfl, HCW, HPJ, HBK2⟩
    | medal v hw hp hn6 hme hab =>
     rw [hp] at HPB ⊢
     unfold sMedal at HPB
     have c0 := HPB.out.cell 0
     have c1 := HPB.out.cell 1
     simp only [strV, List.map_cons, List.map_nil, List.getElem?_toArray, List.getElem?_cons_zero, List.getElem?_cons_succ] at c0 c1
     have q1 : ((⟨#[109, 101, 100, 97, 108]⟩ : ByteArray).toList == (⟨#[109, 101, 100, 97, 108]⟩ : ByteArray).toList) = true := by simp
     have q2 : ((⟨#[109, 101, 100, 97, 108]⟩ : ByteArray).toList == (⟨#[97, 98, 111, 118, 101]⟩ : ByteArray).toList) = false := by rw [beq_eq_false_iff_ne]; exact fun e => absurd (toList_inj e) (by decide)
     have HML := hid hme
     have HPJ := hid (HPI.out.medal hbk hme hab)
     obtain ⟨names, hnm⟩ : ∃ l, l = (f k).medals := ⟨_, rfl⟩
     rw [← hnm] at HCV hn6 HML HGP ⊢
     clear hw hp hme hab hnm hbk hml
     go_wp2_with (at_builtin; refine push1L TS22 V #[.string v] w3.heap.size _ _ _ HCV.out.nm _ _ V.heap.size rfl rfl rfl rfl rfl rfl (by simp [Value.oneCell']) (by omega) (by omega) HCV.out.low.size ?_; intro v1 w8 hown1 hgr hap; obtain ⟨N8, nc8, rfl⟩ := own_form hown1; have hp8 := HPB.out.grown hgr (fun e => by have := HGP.out pb e.symm; omega); have c0 := hp8.cell 0; simp only [strV, List.map_cons, List.map_nil, List.getElem?_toArray, List.getElem?_cons_zero] at c0; have HC8 := hid (HCV.out.pushN (v := v) (N' := N8) (nc' := nc8) hgr hown1); clear hown1 hgr hap hp8 c1)
     go_roundg (J.length - (k + 1))
     case measure => have := HK.out; have := HLT.out; omega
     case rel => exact ⟨k + 1, N8, nc8, Q, qc, P, by have := HK.out; have := HLT.out; omega, by have := HLT.out; have := HJL.out; go_num, by rw [HML.out, List.length_append, List.length_singleton], rfl, by rw [HML.out]; exact HC8, HPJ, HBK2⟩
    | above v kk i j hw hp hi hj hil hjl hij b1 b2 hme hab =>
     rw [hp] at HPB ⊢
     unfold sAbove at HPB
     have c0 := HPB.out.cell 0
     have c1 := HPB.out.cell 1
     have c2 := HPB.out.cell 2
     simp only [strV, List.map_cons, List.map_nil, List.getElem?_toArray, List.getElem?_cons_zero, List.getElem?_cons_succ] at c0 c1 c2
     have q1 : ((⟨#[97, 98, 111, 118, 101]⟩ : ByteArray).toList == (⟨#[109, 101, 100, 97, 108]⟩ : ByteArray).toList) = false := by rw [beq_eq_false_iff_ne]; exact fun e => absurd (toList_inj e) (by decide)
     have q2 : ((⟨#[97, 98, 111, 118, 101]⟩ : ByteArray).toList == (⟨#[97, 98, 111, 118, 101]⟩ : ByteArray).toList) = true := by simp
     have HPJ := hid (HPI.out.above hbk hil hjl hij b1 b2 hme hab)
     have HML := hid hme
     have HP30 := hid (HPI.out.few hbk)
     have HP1 := hid c1
     have HP2 := hid c2
     have HPN := hid (show ∀ g, (Value.slice Q P.length qc).ownBlock = some g → g ≠ pb from fun g hg e => by have := HGQ.out g hg; omega)
     obtain ⟨names, hnm⟩ : ∃ l, l = (f k).medals := ⟨_, rfl⟩
     have HI1 := hid fun W (h : Sl W N (f k).medals.length nc (strV (f k).medals)) => strIdxE N (f k).medals.length nc (f k).medals kk W h
     have HI2 := hid fun W (h : Sl W N (f k).medals.length nc (strV (f k).medals)) => strIdxE N (f k).medals.length nc (f k).medals v W h
     rw [hi] at HI1
     rw [hj] at HI2
     rw [← hnm] at HI1 HI2 HCV HML HGP ⊢
     clear hw hp hi hj hil hjl hij b1 b2 hme hab hbk hml hnm
     go_wp2_with fail
     clear c0 c1 c2 q1 q2
     refine wp_region_held_drew (S := (fun w' => w'.cell? ⟨pb, 2, none⟩ = some (.string kk) ∧ w'.cell? ⟨pb, 1, none⟩ = some (.string v))) (by kernel_rfl) (by (try dsimp only); (exact ⟨HP2.out, HP1.out⟩)) (fun hHeld => ?_)
     have HCV := hid (HCV.out.below (Below.refl _ V).drew)
     have HP1 := hid (show V.drew.cell? ⟨pb, 1, none⟩ = _ from HP1.out)
     have HP2 := hid (show V.drew.cell? ⟨pb, 2, none⟩ = _ from HP2.out)
     generalize V.drew = X1 at *
     obtain ⟨X, rfl⟩ : ∃ Y, Y = X1 := ⟨X1, rfl⟩
     refine tk ?_ 0 (some 73) rfl rfl ?_ ?_; rotate_left; · (intro w hSw; (try dsimp only at hSw); go_simp <;> with_reducible rfl)
     try simp only [Act.put,qA,qB,qC]
     refine tk ?_ 1 (some 74) rfl rfl ?_ ?_; rotate_left; · (intro w hSw; (try dsimp only at hSw); go_simp <;> with_reducible rfl)
     try simp only [Act.put,qA,qB,qC]
     refine tk ?_ 2 (some 75) rfl rfl ?_ ?_; rotate_left; · (intro w hSw; (try dsimp only at hSw); go_simp <;> with_reducible rfl)
     try simp only [Act.put,qA,qB,qC]
     refine tk ?_ 3 (some 76) rfl rfl ?_ ?_; rotate_left; · (intro w hSw; (try dsimp only at hSw); go_simp <;> with_reducible rfl)
     try simp only [Act.put,qA,qB,qC]
     refine tk ?_ 4 (some 77) rfl rfl ?_ ?_; rotate_left; · (intro w hSw; (try dsimp only at hSw); go_simp <;> with_reducible rfl)
     try simp only [Act.put,qA,qB,qC]
     refine tk ?_ 6 (some 79) rfl rfl ?_ ?_; rotate_left; · (intro w hSw; (try dsimp only at hSw); go_simp <;> with_reducible rfl)
     try simp only [Act.put,qA,qB,qC]
     refine tk ?_ 7 (some 80) rfl rfl ?_ ?_; rotate_left; · (intro w hSw; (try dsimp only at hSw); go_simp <;> with_reducible rfl)
     try simp only [Act.put,qA,qB,qC]
     refine tk ?_ 8 (some 81) rfl rfl ?_ ?_; rotate_left; · (intro w hSw; (try dsimp only at hSw); go_simp <;> with_reducible rfl)
     try simp only [Act.put,qA,qB,qC]
     refine tk ?_ 9 (some 82) rfl rfl ?_ ?_; rotate_left; · (intro w hSw; (try dsimp only at hSw); go_simp <;> with_reducible rfl)
     try simp only [Act.put,qA,qB,qC]
     refine st 5 rfl fun K hK => ?_
     go_simp
     refine (HI1.out _ (Sl.of_own HCV.out.nm)).mono ?_; rintro e X2 ⟨rfl, rfl⟩
     clear hHeld
     refine hK.out _ _ ?_ (fun hHeld => ?_); · ((try dsimp only); (exact ⟨HP2.out, HP1.out⟩))
     clear hK K
     try simp only [Act.put,qA,qB,qC]
     refine st 10 rfl fun K hK => ?_
     go_simp
     refine (HI2.out _ (Sl.of_own HCV.out.nm)).mono ?_; rintro e X2 ⟨rfl, rfl⟩
     clear hHeld
     refine hK.out _ _ ?_ (fun hHeld => ?_); · ((try dsimp only); (exact ⟨HP2.out, HP1.out⟩))
     clear hK K
     try simp only [Act.put,qA,qB,qC]
     refine tk ?_ 11 (some 84) rfl rfl ?_ ?_; rotate_left; · (intro w hSw; (try dsimp only at hSw); go_simp <;> with_reducible rfl)
     try simp only [Act.put,qA,qB,qC]
     refine st 12 rfl fun K hK => ?_
     go_simp
     have HP1 := hid (cell_keep ((Below.refl X.heap.size X).alloc (Nat.le_refl _) (.cells #[.int .i64 (i : Nat), .int .i64 (j : Nat)] 31)) HP1.out)
     have HP2 := hid (cell_keep ((Below.refl X.heap.size X).alloc (Nat.le_refl _) (.cells #[.int .i64 (i : Nat), .int .i64 (j : Nat)] 31)) HP2.out)
     have HCV := hid (HCV.out.below ((Below.refl X.heap.size X).alloc (Nat.le_refl _) (.cells #[.int .i64 (i : Nat), .int .i64 (j : Nat)] 31)))
     clear hHeld
     refine hK.out _ _ ?_ (fun hHeld => ?_); · ((try dsimp only); (exact ⟨HP2.out, HP1.out⟩))
     clear hK K
     try simp only [Act.put,qA,qB,qC]
     refine st 13 rfl fun K hK => ?_
     obtain ⟨i0, hi0, hz0, hz1, hzz⟩ := info_parts TPI.inf
     refine step_append_lies _ rfl (.tmp 73) (.tmp 85) 27 rfl w3.heap.size 31 i0 (.agg #[.int .i64 0, .int .i64 0]) 2 16 TPI.und hi0 hz0 hz1 hzz TPI.zc TPI.sz (.slice Q P.length qc) P.length (flat (pI P)) rfl HCV.out.pr _ 1 1 (#[.int .i64 (i : Nat), .int .i64 (j : Nat)] : Array Value).toList rfl rfl (cells_new _ _ _) (by simp [Value.oneCell']) (by decide) (by have := HP30.out; unfold maxLen; omega) (by have := HP30.out; omega) HCV.out.low.size _ rfl ?_; intro g cap wA howA hgA hatA hltA
     have HC8 := hid (HCV.out.pushP (i := i) (j := j) hgA howA)
     have HP1 := hid (hgA.cell HP1.out (fun e => HPN.out pb e.symm rfl))
     have HP2 := hid (hgA.cell HP2.out (fun e => HPN.out pb e.symm rfl))
     clear howA hgA hatA hltA hHeld HCV
     refine hK.out _ _ ?_ (fun hHeld => ?_); · ((try dsimp only); (exact ⟨HP2.out, HP1.out⟩))
     clear hK K
     try simp only [Act.put, List.setIfInBounds_toArray]
     refine tk ?_ 14 (some 11) rfl rfl ?_ ?_; rotate_left; · (intro w hSw; (try dsimp only at hSw); go_simp <;> with_reducible rfl)
     try simp only [Act.put]
     refine wpAnyH_done (by kernel_rfl) ?_ _
     have c0 := True.intro
     go_wp2
     go_roundg (J.length - (k + 1))
     case measure => have := HK.out; have := HLT.out; omega
     case rel => exact ⟨k + 1, N, nc, some ⟨g, 0, none⟩, cap, P ++ [(i, j)], by have := HK.out; have := HLT.out; omega, by have := HLT.out; have := HJL.out; go_num, by rw [HML.out], by rw [List.length_append, List.length_singleton], by rw [HML.out]; exact HC8, HPJ, HBK2⟩
  · have hkj : k = J.length := by have := HK.out; omega
    subst hkj
    rw [HFL.out] at HC HPI ⊢
    have HOP := hid (HOW.out wr HC.out.low)
    have hrq := HRQ.out wr K m A cA L HOP.out
    have hall := HPI.out.all HBT.out
    obtain ⟨hn6, hok⟩ := med_ord HBT.out
    have HPO := hid HPI.out.ok
    have hfew := HPI.out.few HBT.out
    have hhas := HBT.out.nm.md
    have hnod := HBT.out.nm.mn
    by_cases h0 : s.medals.length = 0
    · have hme : s.medals = [] := List.eq_nil_of_length_eq_zero h0
      have hre : replyRoll s = (⟨#[114, 111, 108, 108]⟩, 0) := by unfold replyRoll; rw [hme]; rfl
      rw [hre] at hrq
      unfold AskR at hrq
      simp only at hrq
      have HR1 := hid hrq
      rw [h0]
      have hxx : ((⟨#[114, 111, 108, 108]⟩ : ByteArray).toList == (⟨#[114, 111, 108, 108]⟩ : ByteArray).toList) = true := by simp
      clear hrq hre hme h0 hall hn6 hok hfew hhas hnod HPO hk hlt HK HSD HOW HDO hcap hcapm HF0 HFL HF HRQ HWQ HCQ
      go_wp2_with fail
      refine (HR1.out).mono ?_; rintro e w4 ⟨rfl, b4⟩
      have HOP := hid (HOP.out.below b4)
      have HTK := hid (takesF w4 (HEN.out.keep HOP.out.low) (HT.out.below HOP.out.low))
      clear b4 HR1
      go_wp2_with fail
      refine (HTK.out).mono ?_; rintro e w5 ⟨rfl, b5⟩
      have HB5 := hid (below_call HOP.out.low b5 HOP.out.low.size)
      clear b5
      go_wp2
      go_ret
      exact ⟨rfl, HB5.out⟩
    · have HRQ := hid fun (W : World) hW => show Calls Tryz.prog 11 #[.pointer (some ⟨m, 0, none⟩), .string ⟨#[114, 111, 108, 108]⟩] W (AskR W (nmd sRoll s.medals (lineO s.medals.length (foldA P)), 0)) from by
       have h := HRQ.out W K m A cA L hW
       unfold replyRoll at h
       rwa [hall] at h
      have HWQ := hid fun (W : World) hW => show Calls Tryz.prog 11 #[.pointer (some ⟨m, 0, none⟩), .string ⟨#[119, 97, 121, 115]⟩] W (AskR W (numd sWays [allW s.medals.length (foldA P)], 0)) from by
       have h := HWQ.out W K m A cA L hW
       unfold replyWays at h
       rwa [if_neg h0, hall] at h
      have HCQ := hid fun (i j : Nat) (hi : i < s.medals.length) (hj : j < s.medals.length) (W : World) hW => show Calls Tryz.prog 11 #[.pointer (some ⟨m, 0, none⟩), .string (chaX (s.medals.getD i ByteArray.empty) (s.medals.getD j ByteArray.empty))] W (AskR W (if i = j then (ByteArray.empty, 2) else (chaT (chaN s.medals.length (foldA P) i j).1 (chaN s.medals.length (foldA P) i j).2, 0))) from by
       have hg : ∀ i, i < s.medals.length → s.medals[i]? = some (s.medals.getD i ByteArray.empty) := fun i hi => by rw [List.getD_eq_getElem?_getD, List.getElem?_eq_getElem hi]; rfl
       have h := HCQ.out _ _ (hhas _ (List.mem_of_getElem? (hg i hi))) (hhas _ (List.mem_of_getElem? (hg j hj))) W K m A cA L hW
       rwa [cha_rep HBT.out hi hj, hall] at h
      rw [hall] at hok
      have HNM := hid (And.intro hhas (nm_size hhas))
      obtain ⟨n, hn⟩ : ∃ n, n = s.medals.length := ⟨_, rfl⟩
      obtain ⟨names, hnm⟩ : ∃ l, l = s.medals := ⟨_, rfl⟩
      rw [← hn] at hn6 hok h0 HRQ HWQ HCQ HPO
      have hnl : n = names.length := by rw [hnm]; exact hn
      rw [← hnm] at HC HRQ HCQ HNM ⊢
      rw [← hnl]
      have HNL := hid hnl
      obtain ⟨l1, l2, l3, l4⟩ := lineO_all hn6 hok
      have HLN := hid (And.intro l4 (fun i hi => (l1 i).1 hi))
      have hn1 : 1 ≤ n := by omega
      have HOK := hid (And.intro hn1 (And.intro hn6 hok))
      have HW720 := hid (allW_bd (a := foldA P) hn6)
      have HCS := hid fun i j hi hj hij => cha_sum hn6 hok (i := i) (j := j) hi hj hij
      have HCLO := hid (closeF n P hn1 hn6 HPO.out P.length hfew Q qc wr (Sl2.of_own HC.out.pr) (HT.out.below HOP.out.low))
      have HLF := hid fun A c W hs hT => ordLinesF n (foldA P) hn1 hn6 hok A c W hs hT
      have HCF := hid fun A c W hs hT => ordCountF n (foldA P) hn1 hn6 hok A c W hs hT
      have HCH0 := hid fun i hi A c W hs hT => chanceNo n (foldA P) i hn1 hn6 hok hi A c W hs hT
      have HCH1 := hid fun i j hi hj hij A c W hs hT => chanceF n (foldA P) i j hn1 hn6 hok hi hj hij A c W hs hT
      have HCLN := hid fun A c W hs => cloneI A n c (intV (ordL n (foldA P))) (intV_one _) (by omega) W hs
      have e0 : ((n : Int) == 0) = false := by rw [beq_eq_false_iff_ne]; omega
      have e02 : (n == 0) = false := by rw [beq_eq_false_iff_ne]; exact h0
      clear hrq hall hok hfew hhas hnod HPO hk hlt HK HSD HOW HDO hcap hcapm HF0 HFL HF hn hnm hnl l1 l2 l3 l4 HBKK HPI
      generalize foldA P = a at *
      obtain ⟨ln, hln⟩ : ∃ ln, ln = lineO n a := ⟨_, rfl⟩
      rw [← hln] at HRQ HLN HLF
      clear hln
      go_wp2_with fail
      refine (HCLO.out).mono ?_; rintro e w4 ⟨O1, oc1, rfl, ho1, b4⟩
      have HO := hid (Sl.of_own ho1)
      have HC := hid (HC.out.below b4)
      have HOP := hid (HOP.out.below b4)
      have HK1 := hid (HCLN.out _ _ w4 HO.out)
      clear ho1 b4 HCLO
      go_wp2_with fail
      refine (HK1.out).mono ?_; rintro e w5 ⟨A5, c5, rfl, ho5, b5⟩
      have HO := hid (HO.out.below b5)
      have HC := hid (HC.out.below b5)
      have HOP := hid (HOP.out.below b5)
      have HL1 := hid (HLF.out _ _ w5 (Sl.of_own ho5) (HT.out.below HOP.out.low))
      clear ho5 b5 HK1 HLF
      go_wp2_with fail
      refine (HL1.out).mono ?_; rintro e w6 ⟨O2, oc2, r, rows, R, rc, rfl, hr1, hr2, ho6, hrow, hrr, b6⟩
      have HO := hid (HO.out.below b6)
      have HC := hid (HC.out.below b6)
      have HOP := hid (HOP.out.below b6)
      have hcap2 := (Sl.of_own ho6).cap
      have hrl := (Sl.of_own ho6).len
      obtain ⟨bo, oo, u, rfl, lbo, eo, co⟩ := (Sl.of_own ho6).at (k := 0) hr1
      rw [hrow] at eo
      simp only [Option.some.injEq, Nat.add_zero] at eo co
      subst eo
      have HLC := hid (show w6.cell? ⟨bo, oo, none⟩ = some (.slice R n rc) from co)
      have HRS := hid (Sl.of_own hrr)
      have HRN := hid (And.intro hr1 (And.intro hr2 hcap2))
      have HK2 := hid (HCLN.out _ _ w6 HO.out)
      clear hr1 hr2 ho6 hrow hrr b6 HL1 hcap2 hrl lbo co HCLN
      go_wp2_with fail
      refine (HK2.out).mono ?_; rintro e w7 ⟨A7, c7, rfl, ho7, b7⟩
      have HO := hid (HO.out.below b7)
      have HC := hid (HC.out.below b7)
      have HOP := hid (HOP.out.below b7)
      have HLC := hid (cell_keep b7 HLC.out)
      have HRS := hid (HRS.out.below b7)
      have HC1 := hid (HCF.out _ _ w7 (Sl.of_own ho7) (HT.out.below HOP.out.low))
      clear ho7 b7 HK2 HCF
      go_wp2_with fail
      refine (HC1.out).mono ?_; rintro e w8 ⟨rfl, b8⟩
      have HO := hid (HO.out.below b8)
      have HC := hid (HC.out.below b8)
      have HOP := hid (HOP.out.below b8)
      have HLC := hid (cell_keep b8 HLC.out)
      have HRS := hid (HRS.out.below b8)
      have HR1 := hid (HRQ.out w8 HOP.out)
      unfold AskR at HR1
      clear b8 HC1 HRQ
      have HRPQ := hid (show nmd sRoll names (ln.take n) = nmd sRoll names ln from by rw [List.take_of_length_le (by rw [HLN.out.1]; exact Nat.le_refl _)])
      have hrps : ((nmd sRoll names ln).toList == (nmd sRoll names ln).toList) = true := by simp
      generalize nmd sRoll names ln = rp at *
      go_wp2_with fail
      refine (HR1.out).mono ?_; rintro e w9 ⟨rfl, b9⟩
      have HO := hid (HO.out.below b9)
      have HC := hid (HC.out.below b9)
      have HOP := hid (HOP.out.below b9)
      have HLC := hid (cell_keep b9 HLC.out)
      have HRS := hid (HRS.out.below b9)
      have HW1 := hid (HWQ.out w9 HOP.out)
      unfold AskR at HW1
      clear b9 HR1 HWQ
      have HWD := hid (show (⟨#[119, 97, 121, 115]⟩ : ByteArray) ++ numd ByteArray.empty [allW n a] = numd sWays [allW n a] from by rw [numd_append]; rfl)
      have HWF := hid fun b W h he => wordsF (some ⟨b, 0, none⟩) 1 1 [allW n a] W h (fun i hi => by rw [List.mem_singleton] at hi; subst hi; have := HW720.out; omega) (by omega) he
      have hwz := numd_size (l := [allW n a]) (fun i hi => by rw [List.mem_singleton] at hi; subst hi; have := HW720.out; omega) ByteArray.empty
      have hes : ByteArray.empty.size = 0 := rfl
      have hws : (ByteArray.mk #[119, 97, 121, 115]).size = 4 := rfl
      generalize numd ByteArray.empty [allW n a] = wd at *
      generalize numd sWays [allW n a] = wt at *
      generalize allW n a = aw at *
      simp only [List.length_singleton] at hwz
      have catw := catS2 ⟨#[119, 97, 121, 115]⟩ wd (by omega) (by omega)
      rw [HWD.out] at catw
      have hww : (wt.toList == wt.toList) = true := by simp
      have hr0 : ((r : Int) == 0) = false := by have := HRN.out.1; rw [beq_eq_false_iff_ne]; omega
      have hr02 : (r == 0) = false := by have := HRN.out.1; rw [beq_eq_false_iff_ne]; omega
      clear hwz hes hws HWD HW720
      go_wp2_with fail
      refine (HW1.out).mono ?_; rintro e w10 ⟨rfl, b10⟩
      have bq := b10.alloc b10.size (.cells #[.int .i64 (aw : Nat)] 3)
      have HO := hid (HO.out.below bq)
      have HC := hid (HC.out.below bq)
      have HOP := hid (HOP.out.below bq)
      have HLC := hid (cell_keep bq HLC.out)
      have HRS := hid (HRS.out.below bq)
      have HWF2 := hid (HWF.out _ _ (Sl.of_own (blk_own (base := 0) (Blk.new w10 3 #[.int .i64 (aw : Nat)]) (Nat.zero_le _) rfl (by omega))) (HEN.out.keep HOP.out.low))
      clear b10 bq HW1 HWF
      go_wp2_with fail
      refine (HWF2.out).mono ?_; rintro e V ⟨rfl, b11⟩
      have HO := hid (HO.out.below b11)
      have HC := hid (HC.out.below b11)
      have HOP := hid (HOP.out.below b11)
      have hlc := cell_keep b11 HLC.out
      have HRS := hid (HRS.out.below b11)
      clear b11 HWF2
      have hr1 : 0 < r := HRN.out.1
      have hr1I : (0 : Int) < (r : Int) := by have := HRN.out.1; omega
      have HNS := hid (show Sl V N n nc (strV names) from by rw [HNL.out]; exact Sl.of_own HC.out.nm)
      obtain ⟨nb, no, rfl, lbn, hnc⟩ := HNS.out.pos (by have := HOK.out.1; omega)
      have HG := hid (show ∀ i, i < n → V.cell? ⟨nb, no + i, none⟩ = some (.string (names.getD i ByteArray.empty)) ∧ (names.getD i ByteArray.empty).size ≤ 8 from fun i hi => by
       have hg : names[i]? = some (names.getD i ByteArray.empty) := by rw [List.getD_eq_getElem?_getD, List.getElem?_eq_getElem (by rw [← HNL.out]; exact hi)]; rfl
       exact ⟨hnc i _ (by unfold strV; rw [List.getElem?_map, hg]; rfl), (nm_ok (HNM.out.1 _ (List.mem_of_getElem? hg))).2.2⟩)
      have hncap := HNS.out.cap
      clear lbn hnc
      go_wp2
      clear hrps hww hr0 hr02 hr1 hr1I catw hlc
      go_loopg [27, 167] n (fun gk v i wx => ∃ q : Nat, gk + q = n ∧ i = .int .i64 q ∧ v = .string (nmd sRoll names (ln.take q)) ∧ V = wx)
      case atStart => exact ⟨0, by omega, rfl, rfl, rfl⟩
      case round =>
       obtain ⟨q, hq, rfl, rfl, rfl⟩ := hrel
       have HQ := hid hq
       by_cases hlq : q < n
       · have HLQ := hid hlq
         obtain ⟨rb, ro, u, rfl, lb, e1, ca⟩ := HRS.out.at hlq
         rw [List.getElem?_map] at e1
         obtain ⟨i, hi, rfl⟩ := Option.map_eq_some_iff.1 e1
         have hin := HLN.out.2 i (List.mem_of_getElem? hi)
         obtain ⟨cn, hxz⟩ := HG.out i hin
         have HST := hid (show nmd sRoll names (ln.take (q + 1)) = nmd sRoll names (ln.take q) ++ (⟨#[32]⟩ ++ names.getD i ByteArray.empty) from by rw [List.take_add_one, hi, Option.toList_some, nmd_snoc])
         have hvz := nmd_size names HNM.out.2 (ln.take q) sRoll
         have hrz : sRoll.size = 4 := rfl
         have hsp : (ByteArray.mk #[32]).size = 1 := rfl
         have htl : (ln.take q).length ≤ 6 := by rw [List.length_take]; have := HOK.out.2.1; have := HLN.out.1; omega
         generalize nmd sRoll names (ln.take q) = v at *
         generalize names.getD i ByteArray.empty = x at *
         have cat1 := catS2 ⟨#[32]⟩ x (by omega) (by omega)
         have cat2 := catS2 v (⟨#[32]⟩ ++ x) (by omega) (by rw [ByteArray.size_append]; omega)
         have g1 : decide ((i : Int) < 0) = false := decide_eq_false (by omega)
         have g2 : decide ((n : Int) ≤ (i : Int)) = false := decide_eq_false (by omega)
         have g3 : decide (n ≤ i) = false := decide_eq_false (by omega)
         have hiI : (i : Int) < (n : Int) := by omega
         have fi : Fits (i : Int) := ⟨by omega, by have := HOK.out.2.1; omega⟩
         have HWR := hid (show wrap64 ((q : Int) + 1) = ((q + 1 : Nat) : Int) from by have := HOK.out.2.1; simp only [wrap64]; omega)
         clear hq lb e1 hi hvz hrz hsp htl hxz
         go_wp2
         go_roundg (n - (q + 1))
         case measure => have := HQ.out; have := HLQ.out; omega
         case rel => exact ⟨q + 1, by have := HQ.out; have := HLQ.out; omega, by first | rw [HWR.out] | (rw [Int.natCast_add]; rfl), by rw [HST.out], rfl⟩
       · have hqe : n = q := by have := HQ.out; omega
         subst hqe
         rw [HRPQ.out]
         have hn6 := HOK.out.2.1
         have hn0 : 0 < n := HOK.out.1
         have hnI : ¬ (n : Int) = 0 := by omega
         have hun : IntKind.u64.wrap (n : Int) = (n : Int) := by rw [IntKind.wrap_u64]; omega
         obtain ⟨i0, hi0, he0, he0b⟩ := mod_ix hn0 hn6 an
         obtain ⟨i1, hi1, he1, he1b⟩ := mod_ix hn0 hn6 am
         have HIJ := hid (And.intro hi0 hi1)
         clear hq hlq HQ HRPQ HRS HLN HRN
         go_wp2_with fail
         refine wp_region_held_drew (S := (fun _ => True)) (by kernel_rfl) (by (try dsimp only); (all_goals trivial)) (fun hHeld => ?_)
         have HC := hid (HC.out.below (Below.refl _ V).drew); have HOP := hid (HOP.out.below (Below.refl _ V).drew); have HO := hid (HO.out.below (Below.refl _ V).drew)
         have HG := hid (show ∀ i, i < n → V.drew.cell? ⟨nb, no + i, none⟩ = some (.string (names.getD i ByteArray.empty)) ∧ (names.getD i ByteArray.empty).size ≤ 8 from HG.out)
         generalize V.drew = X1 at *
         obtain ⟨X, rfl⟩ : ∃ Y, Y = X1 := ⟨X1, rfl⟩
         refine tk ?_ 0 (some 187) rfl rfl ?_ ?_; rotate_left; · (intro w hSw; (try dsimp only at hSw); go_simp <;> with_reducible rfl)
         try simp only [Act.put,qA,qB,qC]
         refine tk ?_ 1 (some 188) rfl rfl ?_ ?_; rotate_left; · (intro w hSw; (try dsimp only at hSw); go_simp <;> with_reducible rfl)
         try simp only [Act.put,qA,qB,qC]
         refine tk ?_ 2 (some 189) rfl rfl ?_ ?_; rotate_left; · (intro w hSw; (try dsimp only at hSw); go_simp <;> with_reducible rfl)
         try simp only [Act.put,qA,qB,qC]
         refine tk ?_ 3 (some 190) rfl rfl ?_ ?_; rotate_left; · (intro w hSw; (try dsimp only at hSw); go_simp <;> with_reducible rfl)
         try simp only [Act.put,qA,qB,qC]
         refine tk ?_ 4 (some 191) rfl rfl ?_ ?_; rotate_left; · (intro w hSw; (try dsimp only at hSw); go_simp <;> with_reducible rfl)
         try simp only [Act.put,qA,qB,qC]
         refine tk ?_ 5 (some 192) rfl rfl ?_ ?_; rotate_left; · (intro w hSw; (try dsimp only at hSw); go_simp <;> with_reducible rfl)
         try simp only [Act.put,qA,qB,qC]
         refine tk ?_ 6 (some 193) rfl rfl ?_ ?_; rotate_left; · (intro w hSw; (try dsimp only at hSw); go_simp <;> with_reducible rfl)
         try simp only [Act.put,qA,qB,qC]
         refine tk ?_ 7 (some 194) rfl rfl ?_ ?_; rotate_left; · (intro w hSw; (try dsimp only at hSw); go_simp <;> with_reducible rfl)
         try simp only [Act.put,qA,qB,qC]
         refine tk ?_ 8 (some 195) rfl rfl ?_ ?_; rotate_left; · (intro w hSw; (try dsimp only at hSw); go_simp <;> with_reducible rfl)
         try simp only [Act.put,qA,qB,qC]
         refine tk ?_ 9 (some 196) rfl rfl ?_ ?_; rotate_left; · (intro w hSw; (try dsimp only at hSw); go_simp <;> with_reducible rfl)
         try simp only [Act.put,qA,qB,qC]
         refine tk ?_ 10 (some 197) rfl rfl ?_ ?_; rotate_left; · (intro w hSw; (try dsimp only at hSw); go_simp <;> with_reducible rfl)
         try simp only [Act.put,qA,qB,qC]
         refine tk ?_ 11 (some 198) rfl rfl ?_ ?_; rotate_left; · (intro w hSw; (try dsimp only at hSw); go_simp <;> with_reducible rfl)
         try simp only [Act.put,qA,qB,qC]
         refine tk ?_ 12 (some 199) rfl rfl ?_ ?_; rotate_left; · (intro w hSw; (try dsimp only at hSw); go_simp <;> with_reducible rfl)
         try simp only [Act.put,qA,qB,qC]
         refine tk ?_ 13 (some 200) rfl rfl ?_ ?_; rotate_left; · (intro w hSw; (try dsimp only at hSw); go_simp <;> with_reducible rfl)
         try simp only [Act.put,qA,qB,qC]
         refine tk ?_ 14 (some 1) rfl rfl ?_ ?_; rotate_left; · (intro w hSw; (try dsimp only at hSw); go_simp <;> with_reducible rfl)
         try simp only [Act.put,qA,qB,qC]
         refine tk ?_ 15 (some 2) rfl rfl ?_ ?_; rotate_left; · (intro w hSw; (try dsimp only at hSw); go_simp <;> with_reducible rfl)
         try simp only [Act.put,qA,qB,qC]
         refine wpAnyH_done (by kernel_rfl) ?_ _
         clear he0 he0b he1 he1b hun hnI hHeld
         have hi0I : (i0 : Int) < (n : Int) := by omega
         have hi1I : (i1 : Int) < (n : Int) := by omega
         obtain ⟨cn0, hz0⟩ := HG.out i0 hi0
         obtain ⟨cn1, hz1⟩ := HG.out i1 hi1
         have HCA := hid (HCQ.out i0 i1 hi0 hi1)
         unfold AskR chaX at HCA
         generalize hx0 : names.getD i0 ByteArray.empty = x0 at *
         generalize hx1 : names.getD i1 ByteArray.empty = x1 at *
         have c7 : (ByteArray.mk #[99, 104, 97, 110, 99, 101, 32]).size = 7 := rfl
         have sp : (ByteArray.mk #[32]).size = 1 := rfl
         have ca1 := catS2 ⟨#[99, 104, 97, 110, 99, 101, 32]⟩ x0 (by omega) (by omega)
         have ca2 := catS2 (⟨#[99, 104, 97, 110, 99, 101, 32]⟩ ++ x0) ⟨#[32]⟩ (by rw [ByteArray.size_append]; omega) (by omega)
         have ca3 := catS2 (⟨#[99, 104, 97, 110, 99, 101, 32]⟩ ++ x0 ++ ⟨#[32]⟩) x1 (by rw [ByteArray.size_append, ByteArray.size_append]; omega) (by omega)
         have HC01 := hid (And.intro cn0 cn1)
         have HXE := hid (show i0 = i1 → x0 = x1 from fun e => by rw [← hx0, ← hx1, e])
         have hrps : (rp.toList == rp.toList) = true := by simp
         clear cn0 cn1 hx0 hx1 c7 sp HG HCQ
         go_wp2_with fail
         by_cases hij : i0 = i1
         · have hxe := HXE.out hij
           subst hij
           subst hxe
           rw [if_pos rfl] at HCA
           have HCC := hid (HCH0.out i0 hi0 _ _ X HO.out (HT.out.below HOP.out.low))
           clear HCH0 HCH1 HCS
           refine (HCC.out).mono ?_; rintro e w12 ⟨rfl, b12⟩
           have bq := b12.alloc b12.size (.cells #[.int .i64 0, .int .i64 0] 48)
           have HOP := hid (HOP.out.below bq)
           have HC01 := hid (And.intro (cell_keep bq HC01.out.1) (cell_keep bq HC01.out.2))
           clear b12 bq HCC
           go_wp2_with fail
           refine wp_region_held_drew (S := (fun w' => w'.cell? ⟨nb, no + i0, none⟩ = some (.string x0))) (by kernel_rfl) (by (try dsimp only); (exact HC01.out.1)) (fun hHeld => ?_)
           have HOP := hid (HOP.out.below (Below.refl _ _).drew)
           have HC01 := hid (show (w12.alloc (.cells #[.int .i64 0, .int .i64 0] 48)).drew.cell? ⟨nb, no + i0, none⟩ = some (.string x0) ∧ (w12.alloc (.cells #[.int .i64 0, .int .i64 0] 48)).drew.cell? ⟨nb, no + i0, none⟩ = some (.string x0) from HC01.out)
           generalize (w12.alloc (.cells #[.int .i64 0, .int .i64 0] 48)).drew = X1 at *
           obtain ⟨X9, rfl⟩ : ∃ Y, Y = X1 := ⟨X1, rfl⟩
           refine tk ?_ 0 (some 209) rfl rfl ?_ ?_; rotate_left; · (intro w hSw; (try dsimp only at hSw); go_simp <;> with_reducible rfl)
           try simp only [Act.put,qA,qB,qC]
           refine tk ?_ 1 (some 210) rfl rfl ?_ ?_; rotate_left; · (intro w hSw; (try dsimp only at hSw); go_simp <;> with_reducible rfl)
           try simp only [Act.put,qA,qB,qC]
           refine tk ?_ 2 (some 211) rfl rfl ?_ ?_; rotate_left; · (intro w hSw; (try dsimp only at hSw); go_simp <;> with_reducible rfl)
           try simp only [Act.put,qA,qB,qC]
           refine tk ?_ 3 (some 212) rfl rfl ?_ ?_; rotate_left; · (intro w hSw; (try dsimp only at hSw); go_simp <;> with_reducible rfl)
           try simp only [Act.put,qA,qB,qC]
           refine tk ?_ 4 (some 213) rfl rfl ?_ ?_; rotate_left; · (intro w hSw; (try dsimp only at hSw); go_simp <;> with_reducible rfl)
           try simp only [Act.put,qA,qB,qC]
           refine tk ?_ 5 (some 214) rfl rfl ?_ ?_; rotate_left; · (intro w hSw; (try dsimp only at hSw); go_simp <;> with_reducible rfl)
           try simp only [Act.put,qA,qB,qC]
           refine tk ?_ 6 (some 215) rfl rfl ?_ ?_; rotate_left; · (intro w hSw; (try dsimp only at hSw); go_simp <;> with_reducible rfl)
           try simp only [Act.put,qA,qB,qC]
           refine tk ?_ 7 (some 216) rfl rfl ?_ ?_; rotate_left; · (intro w hSw; (try dsimp only at hSw); go_simp <;> with_reducible rfl)
           try simp only [Act.put,qA,qB,qC]
           refine tk ?_ 8 (some 217) rfl rfl ?_ ?_; rotate_left; · (intro w hSw; (try dsimp only at hSw); go_simp <;> with_reducible rfl)
           try simp only [Act.put,qA,qB,qC]
           refine tk ?_ 9 (some 218) rfl rfl ?_ ?_; rotate_left; · (intro w hSw; (try dsimp only at hSw); go_simp <;> with_reducible rfl)
           try simp only [Act.put,qA,qB,qC]
           refine tk ?_ 10 (some 219) rfl rfl ?_ ?_; rotate_left; · (intro w hSw; (try dsimp only at hSw); go_simp <;> with_reducible rfl)
           try simp only [Act.put,qA,qB,qC]
           refine tk ?_ 11 (some 220) rfl rfl ?_ ?_; rotate_left; · (intro w hSw; (try dsimp only at hSw); go_simp <;> with_reducible rfl)
           try simp only [Act.put,qA,qB,qC]
           refine st 12 rfl fun K hK => ?_
           go_simp
           refine (HCA.out _ HOP.out).mono ?_; rintro e Y ⟨rfl, bb⟩
           have HOP := hid (HOP.out.below bb); have HC01 := hid (And.intro (cell_keep bb HC01.out.1) (cell_keep bb HC01.out.2))
           clear bb hHeld
           refine hK.out _ _ ?_ (fun hHeld => ?_); · ((try dsimp only); (exact HC01.out.1))
           clear hK K
           try simp only [Act.put,qA,qB,qC]
           refine tk ?_ 13 (some 208) rfl rfl ?_ ?_; rotate_left; · (intro w hSw; (try dsimp only at hSw); go_simp <;> with_reducible rfl)
           try simp only [Act.put,qA,qB,qC]
           refine tk ?_ 14 (some 222) rfl rfl ?_ ?_; rotate_left; · (intro w hSw; (try dsimp only at hSw); go_simp <;> with_reducible rfl)
           try simp only [Act.put,qA,qB,qC]
           refine tk ?_ 15 (some 223) rfl rfl ?_ ?_; rotate_left; · (intro w hSw; (try dsimp only at hSw); go_simp <;> with_reducible rfl)
           try simp only [Act.put,qA,qB,qC]
           refine tk ?_ 16 (some 31) rfl rfl ?_ ?_; rotate_left; · (intro w hSw; (try dsimp only at hSw); go_simp <;> with_reducible rfl)
           try simp only [Act.put,qA,qB,qC]
           refine tk ?_ 17 (some 22) rfl rfl ?_ ?_; rotate_left; · (intro w hSw; (try dsimp only at hSw); go_simp <;> with_reducible rfl)
           try simp only [Act.put,qA,qB,qC]
           refine wpAnyH_done (by kernel_rfl) ?_ _
           clear HCA ca1 ca2 ca3 hHeld
           go_wp2_with fail
           refine wp_region_held_drew (S := (fun _ => True)) (by kernel_rfl) (by (try dsimp only); (all_goals trivial)) (fun hHeld => ?_)
           have HOP := hid (HOP.out.below (Below.refl _ Y).drew)
           generalize Y.drew = X1 at *
           obtain ⟨X, rfl⟩ : ∃ Y, Y = X1 := ⟨X1, rfl⟩
           refine tk ?_ 0 (some 224) rfl rfl ?_ ?_; rotate_left; · (intro w hSw; (try dsimp only at hSw); go_simp <;> with_reducible rfl)
           try simp only [Act.put,qA,qB,qC]
           refine tk ?_ 1 (some 225) rfl rfl ?_ ?_; rotate_left; · (intro w hSw; (try dsimp only at hSw); go_simp <;> with_reducible rfl)
           try simp only [Act.put,qA,qB,qC]
           refine tk ?_ 2 (some 226) rfl rfl ?_ ?_; rotate_left; · (intro w hSw; (try dsimp only at hSw); go_simp <;> with_reducible rfl)
           try simp only [Act.put,qA,qB,qC]
           refine tk ?_ 3 (some 227) rfl rfl ?_ ?_; rotate_left; · (intro w hSw; (try dsimp only at hSw); go_simp <;> with_reducible rfl)
           try simp only [Act.put,qA,qB,qC]
           refine tk ?_ 4 (some 228) rfl rfl ?_ ?_; rotate_left; · (intro w hSw; (try dsimp only at hSw); go_simp <;> with_reducible rfl)
           try simp only [Act.put,qA,qB,qC]
           refine tk ?_ 5 (some 229) rfl rfl ?_ ?_; rotate_left; · (intro w hSw; (try dsimp only at hSw); go_simp <;> with_reducible rfl)
           try simp only [Act.put,qA,qB,qC]
           refine tk ?_ 6 (some 230) rfl rfl ?_ ?_; rotate_left; · (intro w hSw; (try dsimp only at hSw); go_simp <;> with_reducible rfl)
           try simp only [Act.put,qA,qB,qC]
           refine tk ?_ 7 (some 231) rfl rfl ?_ ?_; rotate_left; · (intro w hSw; (try dsimp only at hSw); go_simp <;> with_reducible rfl)
           try simp only [Act.put,qA,qB,qC]
           refine tk ?_ 8 (some 232) rfl rfl ?_ ?_; rotate_left; · (intro w hSw; (try dsimp only at hSw); go_simp <;> with_reducible rfl)
           try simp only [Act.put,qA,qB,qC]
           refine tk ?_ 9 (some 233) rfl rfl ?_ ?_; rotate_left; · (intro w hSw; (try dsimp only at hSw); go_simp <;> with_reducible rfl)
           try simp only [Act.put,qA,qB,qC]
           refine tk ?_ 10 (some 234) rfl rfl ?_ ?_; rotate_left; · (intro w hSw; (try dsimp only at hSw); go_simp <;> with_reducible rfl)
           try simp only [Act.put,qA,qB,qC]
           refine tk ?_ 11 (some 235) rfl rfl ?_ ?_; rotate_left; · (intro w hSw; (try dsimp only at hSw); go_simp <;> with_reducible rfl)
           try simp only [Act.put,qA,qB,qC]
           refine takeD (i := 12) (v := undef) (some 236) rfl rfl (by kernel_rfl) (by kernel_rfl) (by kernel_rfl) (fun _ _ _ h => h) (Or.inr ⟨by rfl, rfl⟩) (by assumption) ?_
           try simp only [Act.put,qA,qB,qC]
           refine takeD (i := 13) (v := undef) (some 237) rfl rfl (by kernel_rfl) (by kernel_rfl) (by kernel_rfl) (fun _ _ _ h => h) (Or.inr ⟨by rfl, rfl⟩) (by assumption) ?_
           try simp only [Act.put,qA,qB,qC]
           refine takeD (i := 14) (v := undef) (some 238) rfl rfl (by kernel_rfl) (by kernel_rfl) (by kernel_rfl) (fun _ _ _ h => h) (Or.inr ⟨by rfl, rfl⟩) (by assumption) ?_
           try simp only [Act.put,qA,qB,qC]
           refine takeD (i := 15) (v := undef) (some 239) rfl rfl (by kernel_rfl) (by kernel_rfl) (by kernel_rfl) (fun _ _ _ h => h) (Or.inr ⟨by rfl, rfl⟩) (by assumption) ?_
           try simp only [Act.put,qA,qB,qC]
           refine takeD (i := 16) (v := undef) (some 240) rfl rfl (by kernel_rfl) (by kernel_rfl) (by kernel_rfl) (fun _ _ _ h => h) (Or.inr ⟨by rfl, rfl⟩) (by assumption) ?_
           try simp only [Act.put,qA,qB,qC]
           refine takeD (i := 17) (v := undef) (some 241) rfl rfl (by kernel_rfl) (by kernel_rfl) (by kernel_rfl) (fun _ _ _ h => h) (Or.inr ⟨by rfl, rfl⟩) (by assumption) ?_
           try simp only [Act.put,qA,qB,qC]
           refine takeD (i := 18) (v := undef) (some 242) rfl rfl (by kernel_rfl) (by kernel_rfl) (by kernel_rfl) (fun _ _ _ h => h) (Or.inr ⟨by rfl, rfl⟩) (by assumption) ?_
           try simp only [Act.put,qA,qB,qC]
           refine takeD (i := 19) (v := undef) (some 243) rfl rfl (by kernel_rfl) (by kernel_rfl) (by kernel_rfl) (fun _ _ _ h => h) (Or.inr ⟨by rfl, rfl⟩) (by assumption) ?_
           try simp only [Act.put,qA,qB,qC]
           refine takeD (i := 20) (v := undef) (some 244) rfl rfl (by kernel_rfl) (by kernel_rfl) (by kernel_rfl) (fun _ _ _ h => h) (Or.inr ⟨by rfl, rfl⟩) (by assumption) ?_
           try simp only [Act.put,qA,qB,qC]
           refine takeD (i := 21) (v := undef) (some 245) rfl rfl (by kernel_rfl) (by kernel_rfl) (by kernel_rfl) (fun _ _ _ h => h) (Or.inr ⟨by rfl, rfl⟩) (by assumption) ?_
           try simp only [Act.put,qA,qB,qC]
           refine takeD (i := 22) (v := undef) (some 246) rfl rfl (by kernel_rfl) (by kernel_rfl) (by kernel_rfl) (fun _ _ _ h => h) (Or.inr ⟨by rfl, rfl⟩) (by assumption) ?_
           try simp only [Act.put,qA,qB,qC]
           refine tk ?_ 23 (some 247) rfl rfl ?_ ?_; rotate_left; · (intro w hSw; (try dsimp only at hSw); go_simp <;> with_reducible rfl)
           try simp only [Act.put,qA,qB,qC]
           refine tk ?_ 24 (some 248) rfl rfl ?_ ?_; rotate_left; · (intro w hSw; (try dsimp only at hSw); go_simp <;> with_reducible rfl)
           try simp only [Act.put,qA,qB,qC]
           refine tk ?_ 25 (some 249) rfl rfl ?_ ?_; rotate_left; · (intro w hSw; (try dsimp only at hSw); go_simp <;> with_reducible rfl)
           try simp only [Act.put,qA,qB,qC]
           refine st 26 rfl fun K hK => ?_
           go_simp
           refine (takesF X (HEN.out.keep HOP.out.low) (HT.out.below HOP.out.low)).mono ?_; rintro e X2 ⟨rfl, bb⟩
           have HBL := hid (below_call HOP.out.low bb HOP.out.low.size)
           clear bb hHeld
           refine hK.out _ _ ?_ (fun hHeld => ?_); · ((try dsimp only); (all_goals trivial))
           clear hK K
           try simp only [Act.put,qA,qB,qC]
           refine tk ?_ 27 (some 251) rfl rfl ?_ ?_; rotate_left; · (intro w hSw; (try dsimp only at hSw); go_simp <;> with_reducible rfl)
           try simp only [Act.put,qA,qB,qC]
           refine tk ?_ 28 (some 6) rfl rfl ?_ ?_; rotate_left; · (intro w hSw; (try dsimp only at hSw); go_simp <;> with_reducible rfl)
           try simp only [Act.put,qA,qB,qC]
           refine wpAnyH_done (by kernel_rfl) ?_ _
           go_wp2
           go_ret
           exact ⟨rfl, HBL.out⟩
         · rw [if_neg hij] at HCA
           obtain ⟨u1, u2, u3, u4⟩ := HCS.out i0 i1 hi0 hi1 hij
           have HCC := hid (HCH1.out i0 i1 hi0 hi1 hij _ _ X HO.out (HT.out.below HOP.out.low))
           unfold chaT at HCA
           simp only at HCA
           generalize (chaN n a i0 i1).1 = p0 at *
           generalize (chaN n a i0 i1).2 = p1 at *
           have HI0 := hid fun W h => itoaN2 p0 (by omega) W h
           have HI1 := hid fun W h => itoaN2 p1 (by omega) W h
           have hz2 := itoaB_size (n := p0) (by omega)
           have hz3 := itoaB_size (n := p1) (by omega)
           have c7 : (ByteArray.mk #[99, 104, 97, 110, 99, 101, 32]).size = 7 := rfl
           have sp : (ByteArray.mk #[47]).size = 1 := rfl
           generalize itoaB p0 = s0 at *
           generalize itoaB p1 = s1 at *
           have cc1 := catS2 ⟨#[99, 104, 97, 110, 99, 101, 32]⟩ s0 (by omega) (by omega)
           have cc2 := catS2 (⟨#[99, 104, 97, 110, 99, 101, 32]⟩ ++ s0) ⟨#[47]⟩ (by rw [ByteArray.size_append]; omega) (by omega)
           have cc3 := catS2 (⟨#[99, 104, 97, 110, 99, 101, 32]⟩ ++ s0 ++ ⟨#[47]⟩) s1 (by rw [ByteArray.size_append, ByteArray.size_append]; omega) (by omega)
           have htt : ((⟨#[99, 104, 97, 110, 99, 101, 32]⟩ ++ s0 ++ ⟨#[47]⟩ ++ s1 : ByteArray).toList == (⟨#[99, 104, 97, 110, 99, 101, 32]⟩ ++ s0 ++ ⟨#[47]⟩ ++ s1 : ByteArray).toList) = true := by simp
           clear HCH0 HCH1 HCS u1 u2 u3 u4 hz2 hz3 c7 sp hz0 hz1
           refine (HCC.out).mono ?_; rintro e w12 ⟨rfl, b12⟩
           have bq := b12.alloc b12.size (.cells #[.int .i64 (p0 : Nat), .int .i64 (p1 : Nat)] 48)
           have HBF := hid (Blk.new w12 48 #[.int .i64 (p0 : Nat), .int .i64 (p1 : Nat)])
           have HOP := hid (HOP.out.below bq)
           have HC01 := hid (And.intro (cell_keep bq HC01.out.1) (cell_keep bq HC01.out.2))
           clear b12 bq HCC
           go_wp2_with fail
           refine wp_region_held_drew (S := (fun w' => w'.cell? ⟨nb, no + i0, none⟩ = some (.string x0) ∧ w'.cell? ⟨nb, no + i1, none⟩ = some (.string x1))) (by kernel_rfl) (by (try dsimp only); (exact HC01.out)) (fun hHeld => ?_)
           have HOP := hid (HOP.out.below (Below.refl _ _).drew)
           have HC01 := hid (show (w12.alloc (.cells #[.int .i64 (p0 : Nat), .int .i64 (p1 : Nat)] 48)).drew.cell? ⟨nb, no + i0, none⟩ = some (.string x0) ∧ (w12.alloc (.cells #[.int .i64 (p0 : Nat), .int .i64 (p1 : Nat)] 48)).drew.cell? ⟨nb, no + i1, none⟩ = some (.string x1) from HC01.out)
           have HBF := hid HBF.out.drew
           generalize (w12.alloc (.cells #[.int .i64 (p0 : Nat), .int .i64 (p1 : Nat)] 48)).drew = X1 at *
           obtain ⟨X9, rfl⟩ : ∃ Y, Y = X1 := ⟨X1, rfl⟩
           refine tk ?_ 0 (some 209) rfl rfl ?_ ?_; rotate_left; · (intro w hSw; (try dsimp only at hSw); go_simp <;> with_reducible rfl)
           try simp only [Act.put,qA,qB,qC]
           refine tk ?_ 1 (some 210) rfl rfl ?_ ?_; rotate_left; · (intro w hSw; (try dsimp only at hSw); go_simp <;> with_reducible rfl)
           try simp only [Act.put,qA,qB,qC]
           refine tk ?_ 2 (some 211) rfl rfl ?_ ?_; rotate_left; · (intro w hSw; (try dsimp only at hSw); go_simp <;> with_reducible rfl)
           try simp only [Act.put,qA,qB,qC]
           refine tk ?_ 3 (some 212) rfl rfl ?_ ?_; rotate_left; · (intro w hSw; (try dsimp only at hSw); go_simp <;> with_reducible rfl)
           try simp only [Act.put,qA,qB,qC]
           refine tk ?_ 4 (some 213) rfl rfl ?_ ?_; rotate_left; · (intro w hSw; (try dsimp only at hSw); go_simp <;> with_reducible rfl)
           try simp only [Act.put,qA,qB,qC]
           refine tk ?_ 5 (some 214) rfl rfl ?_ ?_; rotate_left; · (intro w hSw; (try dsimp only at hSw); go_simp <;> with_reducible rfl)
           try simp only [Act.put,qA,qB,qC]
           refine tk ?_ 6 (some 215) rfl rfl ?_ ?_; rotate_left; · (intro w hSw; (try dsimp only at hSw); go_simp <;> with_reducible rfl)
           try simp only [Act.put,qA,qB,qC]
           refine tk ?_ 7 (some 216) rfl rfl ?_ ?_; rotate_left; · (intro w hSw; (try dsimp only at hSw); go_simp <;> with_reducible rfl)
           try simp only [Act.put,qA,qB,qC]
           refine tk ?_ 8 (some 217) rfl rfl ?_ ?_; rotate_left; · (intro w hSw; (try dsimp only at hSw); go_simp <;> with_reducible rfl)
           try simp only [Act.put,qA,qB,qC]
           refine tk ?_ 9 (some 218) rfl rfl ?_ ?_; rotate_left; · (intro w hSw; (try dsimp only at hSw); go_simp <;> with_reducible rfl)
           try simp only [Act.put,qA,qB,qC]
           refine tk ?_ 10 (some 219) rfl rfl ?_ ?_; rotate_left; · (intro w hSw; (try dsimp only at hSw); go_simp <;> with_reducible rfl)
           try simp only [Act.put,qA,qB,qC]
           refine tk ?_ 11 (some 220) rfl rfl ?_ ?_; rotate_left; · (intro w hSw; (try dsimp only at hSw); go_simp <;> with_reducible rfl)
           try simp only [Act.put,qA,qB,qC]
           refine st 12 rfl fun K hK => ?_
           go_simp
           refine (HCA.out _ HOP.out).mono ?_; rintro e Y ⟨rfl, bb⟩
           have HOP := hid (HOP.out.below bb); have HBF := hid (HBF.out.keep bb); have HC01 := hid (And.intro (cell_keep bb HC01.out.1) (cell_keep bb HC01.out.2))
           clear bb hHeld
           refine hK.out _ _ ?_ (fun hHeld => ?_); · ((try dsimp only); (exact HC01.out))
           clear hK K
           try simp only [Act.put,qA,qB,qC]
           refine tk ?_ 13 (some 208) rfl rfl ?_ ?_; rotate_left; · (intro w hSw; (try dsimp only at hSw); go_simp <;> with_reducible rfl)
           try simp only [Act.put,qA,qB,qC]
           refine tk ?_ 14 (some 222) rfl rfl ?_ ?_; rotate_left; · (intro w hSw; (try dsimp only at hSw); go_simp <;> with_reducible rfl)
           try simp only [Act.put,qA,qB,qC]
           refine tk ?_ 15 (some 223) rfl rfl ?_ ?_; rotate_left; · (intro w hSw; (try dsimp only at hSw); go_simp <;> with_reducible rfl)
           try simp only [Act.put,qA,qB,qC]
           refine tk ?_ 16 (some 31) rfl rfl ?_ ?_; rotate_left; · (intro w hSw; (try dsimp only at hSw); go_simp <;> with_reducible rfl)
           try simp only [Act.put,qA,qB,qC]
           refine tk ?_ 17 (some 22) rfl rfl ?_ ?_; rotate_left; · (intro w hSw; (try dsimp only at hSw); go_simp <;> with_reducible rfl)
           try simp only [Act.put,qA,qB,qC]
           refine wpAnyH_done (by kernel_rfl) ?_ _
           clear HCA ca1 ca2 ca3 hHeld
           obtain ⟨bf, hbf⟩ : ∃ b, b = w12.heap.size := ⟨_, rfl⟩
           rw [← hbf] at HBF ⊢
           clear hbf
           go_wp2_with fail
           refine wp_region_held_drew (S := (fun w' => w'.cell? ⟨bf, 0, none⟩ = some (.int .i64 (p0 : Nat)) ∧ w'.cell? ⟨bf, 1, none⟩ = some (.int .i64 (p1 : Nat)))) (by kernel_rfl) (by (try dsimp only); (first | exact ⟨HBF.out.cell 0, HBF.out.cell 1⟩ | exact ⟨HBF.out.drew.cell 0, HBF.out.drew.cell 1⟩)) (fun hHeld => ?_)
           have HOP := hid (HOP.out.below (Below.refl _ Y).drew); have HBF := hid HBF.out.drew
           generalize Y.drew = X1 at *
           obtain ⟨X, rfl⟩ : ∃ Y, Y = X1 := ⟨X1, rfl⟩
           refine tk ?_ 0 (some 224) rfl rfl ?_ ?_; rotate_left; · (intro w hSw; (try dsimp only at hSw); go_simp <;> with_reducible rfl)
           try simp only [Act.put,qA,qB,qC]
           refine tk ?_ 1 (some 225) rfl rfl ?_ ?_; rotate_left; · (intro w hSw; (try dsimp only at hSw); go_simp <;> with_reducible rfl)
           try simp only [Act.put,qA,qB,qC]
           refine tk ?_ 2 (some 226) rfl rfl ?_ ?_; rotate_left; · (intro w hSw; (try dsimp only at hSw); go_simp <;> with_reducible rfl)
           try simp only [Act.put,qA,qB,qC]
           refine tk ?_ 3 (some 227) rfl rfl ?_ ?_; rotate_left; · (intro w hSw; (try dsimp only at hSw); go_simp <;> with_reducible rfl)
           try simp only [Act.put,qA,qB,qC]
           refine tk ?_ 4 (some 228) rfl rfl ?_ ?_; rotate_left; · (intro w hSw; (try dsimp only at hSw); go_simp <;> with_reducible rfl)
           try simp only [Act.put,qA,qB,qC]
           refine tk ?_ 5 (some 229) rfl rfl ?_ ?_; rotate_left; · (intro w hSw; (try dsimp only at hSw); go_simp <;> with_reducible rfl)
           try simp only [Act.put,qA,qB,qC]
           refine tk ?_ 6 (some 230) rfl rfl ?_ ?_; rotate_left; · (intro w hSw; (try dsimp only at hSw); go_simp <;> with_reducible rfl)
           try simp only [Act.put,qA,qB,qC]
           refine tk ?_ 7 (some 231) rfl rfl ?_ ?_; rotate_left; · (intro w hSw; (try dsimp only at hSw); go_simp <;> with_reducible rfl)
           try simp only [Act.put,qA,qB,qC]
           refine tk ?_ 8 (some 232) rfl rfl ?_ ?_; rotate_left; · (intro w hSw; (try dsimp only at hSw); go_simp <;> with_reducible rfl)
           try simp only [Act.put,qA,qB,qC]
           refine tk ?_ 9 (some 233) rfl rfl ?_ ?_; rotate_left; · (intro w hSw; (try dsimp only at hSw); go_simp <;> with_reducible rfl)
           try simp only [Act.put,qA,qB,qC]
           refine tk ?_ 10 (some 234) rfl rfl ?_ ?_; rotate_left; · (intro w hSw; (try dsimp only at hSw); go_simp <;> with_reducible rfl)
           try simp only [Act.put,qA,qB,qC]
           refine tk ?_ 11 (some 235) rfl rfl ?_ ?_; rotate_left; · (intro w hSw; (try dsimp only at hSw); go_simp <;> with_reducible rfl)
           try simp only [Act.put,qA,qB,qC]
           refine tk ?_ 12 (some 236) rfl rfl ?_ ?_; rotate_left; · (intro w hSw; (try dsimp only at hSw); go_simp <;> with_reducible rfl)
           try simp only [Act.put,qA,qB,qC]
           refine tk ?_ 13 (some 237) rfl rfl ?_ ?_; rotate_left; · (intro w hSw; (try dsimp only at hSw); go_simp <;> with_reducible rfl)
           try simp only [Act.put,qA,qB,qC]
           refine tk ?_ 14 (some 238) rfl rfl ?_ ?_; rotate_left; · (intro w hSw; (try dsimp only at hSw); go_simp <;> with_reducible rfl)
           try simp only [Act.put,qA,qB,qC]
           refine tk ?_ 18 (some 242) rfl rfl ?_ ?_; rotate_left; · (intro w hSw; (try dsimp only at hSw); go_simp <;> with_reducible rfl)
           try simp only [Act.put,qA,qB,qC]
           refine tk ?_ 19 (some 243) rfl rfl ?_ ?_; rotate_left; · (intro w hSw; (try dsimp only at hSw); go_simp <;> with_reducible rfl)
           try simp only [Act.put,qA,qB,qC]
           refine st 15 rfl fun K hK => ?_
           go_simp
           refine (HI0.out X (HEN.out.keep HOP.out.low)).mono ?_; rintro e X ⟨rfl, bb⟩
           have HOP := hid (HOP.out.below bb); have HBF := hid (HBF.out.keep bb)
           clear bb hHeld
           refine hK.out _ _ ?_ (fun hHeld => ?_); · ((try dsimp only); (first | exact ⟨HBF.out.cell 0, HBF.out.cell 1⟩ | exact ⟨HBF.out.drew.cell 0, HBF.out.drew.cell 1⟩))
           clear hK K
           try simp only [Act.put,qA,qB,qC]
           refine tk ?_ 16 (some 240) rfl rfl ?_ ?_; rotate_left; · (intro w hSw; (try dsimp only at hSw); go_simp <;> with_reducible rfl)
           try simp only [Act.put,qA,qB,qC]
           refine tk ?_ 17 (some 241) rfl rfl ?_ ?_; rotate_left; · (intro w hSw; (try dsimp only at hSw); go_simp <;> with_reducible rfl)
           try simp only [Act.put,qA,qB,qC]
           refine st 20 rfl fun K hK => ?_
           go_simp
           refine (HI1.out X (HEN.out.keep HOP.out.low)).mono ?_; rintro e X ⟨rfl, bb⟩
           have HOP := hid (HOP.out.below bb); have HBF := hid (HBF.out.keep bb)
           clear bb hHeld
           refine hK.out _ _ ?_ (fun hHeld => ?_); · ((try dsimp only); (first | exact ⟨HBF.out.cell 0, HBF.out.cell 1⟩ | exact ⟨HBF.out.drew.cell 0, HBF.out.drew.cell 1⟩))
           clear hK K
           try simp only [Act.put,qA,qB,qC]
           refine tk ?_ 21 (some 245) rfl rfl ?_ ?_; rotate_left; · (intro w hSw; (try dsimp only at hSw); go_simp <;> with_reducible rfl)
           try simp only [Act.put,qA,qB,qC]
           refine tk ?_ 22 (some 246) rfl rfl ?_ ?_; rotate_left; · (intro w hSw; (try dsimp only at hSw); go_simp <;> with_reducible rfl)
           try simp only [Act.put,qA,qB,qC]
           refine tk ?_ 23 (some 247) rfl rfl ?_ ?_; rotate_left; · (intro w hSw; (try dsimp only at hSw); go_simp <;> with_reducible rfl)
           try simp only [Act.put,qA,qB,qC]
           refine tk ?_ 24 (some 248) rfl rfl ?_ ?_; rotate_left; · (intro w hSw; (try dsimp only at hSw); go_simp <;> with_reducible rfl)
           try simp only [Act.put,qA,qB,qC]
           refine tk ?_ 25 (some 249) rfl rfl ?_ ?_; rotate_left; · (intro w hSw; (try dsimp only at hSw); go_simp <;> with_reducible rfl)
           try simp only [Act.put,qA,qB,qC]
           refine st 26 rfl fun K hK => ?_
           go_simp
           refine (takesF X (HEN.out.keep HOP.out.low) (HT.out.below HOP.out.low)).mono ?_; rintro e X ⟨rfl, bb⟩
           have HBL := hid (below_call HOP.out.low bb HOP.out.low.size); have HBF := hid (HBF.out.keep bb)
           clear bb hHeld
           refine hK.out _ _ ?_ (fun hHeld => ?_); · ((try dsimp only); (first | exact ⟨HBF.out.cell 0, HBF.out.cell 1⟩ | exact ⟨HBF.out.drew.cell 0, HBF.out.drew.cell 1⟩))
           clear hK K
           try simp only [Act.put,qA,qB,qC]
           refine tk ?_ 27 (some 251) rfl rfl ?_ ?_; rotate_left; · (intro w hSw; (try dsimp only at hSw); go_simp <;> with_reducible rfl)
           try simp only [Act.put,qA,qB,qC]
           refine tk ?_ 28 (some 6) rfl rfl ?_ ?_; rotate_left; · (intro w hSw; (try dsimp only at hSw); go_simp <;> with_reducible rfl)
           try simp only [Act.put,qA,qB,qC]
           refine wpAnyH_done (by kernel_rfl) ?_ _
           go_wp2
           go_ret
           exact ⟨rfl, HBL.out⟩
end Go.Proofs.YtnibidmlkbcfkaaGreatDoor
