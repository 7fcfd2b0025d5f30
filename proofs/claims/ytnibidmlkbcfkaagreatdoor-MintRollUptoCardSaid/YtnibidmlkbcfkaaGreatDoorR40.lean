/- Walk of MintRoll. Conditions: the lines are short of the shelf's bound; the library's variables stand. -/
import Derived.Test.YtnibidmlkbcfkaaGreatDoorR36
import Derived.Test.YtnibidmlkbcfkaaGreatDoorR39
import Derived.Test.YtnibidmlkbcfkaaGreatDoorR30
namespace Go.Proofs.YtnibidmlkbcfkaaGreatDoor
open Go.RowKit Go.Maps
/-- What stands while the journal is read: the names, and what was said to be above what. -/
structure RlS (w3 W : World) (N : Option Addr) (nc : Nat) (names : List ByteArray) (Q : Option Addr) (qc : Nat) (P : List (ByteArray × ByteArray)) : Prop where
 low : Below w3.heap.size w3 W
 nm : W.ownsRow w3.heap.size 9 1 (.slice N names.length nc) names.length (strV names)
 pr : W.ownsRow w3.heap.size 54 2 (.slice Q P.length qc) P.length (prV P)
section
variable {w3 W W' : World} {N N' Q Q' : Option Addr} {nc nc' qc qc' : Nat} {names : List ByteArray} {P : List (ByteArray × ByteArray)}
theorem RlS.below (h : RlS w3 W N nc names Q qc P) (hb : Below W.heap.size W W') : RlS w3 W' N nc names Q qc P := ⟨below_call h.low hb h.low.size, own_below h.nm hb, own_below h.pr hb⟩
theorem own_two2 {w : World} {b1 b2 : Nat} {e1 e2 : TypeId} {s1 s2 n1 n2 : Nat} {v u : Value} {xs ys : List Value} (h : w.ownsRow b1 e1 s1 v n1 xs) (k : w.ownsRow b2 e2 s2 u n2 ys) (hne : e1 ≠ e2) : v.ownBlock = none ∨ v.ownBlock ≠ u.ownBlock := by
 cases e : v.ownBlock with
 | none => exact .inl rfl
 | some g => exact .inr fun e2 => own_two h k hne g e e2.symm
theorem RlS.pushN (h : RlS w3 W N nc names Q qc P) {v : ByteArray} (hg : W.grownBy W' (Value.slice N names.length nc).ownBlock) (ho : W'.ownsRow w3.heap.size 9 1 (.slice N' (names.length + 1) nc') (names.length + 1) (strV names ++ [.string v])) : RlS w3 W' N' nc' (names ++ [v]) Q qc P := by
 refine ⟨h.low.grown hg h.low.size (fun g hg => (h.nm.lt g hg).1), ?_, h.pr.kept hg (own_two2 h.pr h.nm (by decide))⟩
 rw [List.length_append, List.length_singleton]
 have e : strV (names ++ [v]) = strV names ++ [.string v] := by unfold strV; rw [List.map_append]; rfl
 rw [e]
 exact ho
theorem RlS.pushP (h : RlS w3 W N nc names Q qc P) {p : ByteArray × ByteArray} (hg : W.grownBy W' (Value.slice Q P.length qc).ownBlock) (ho : W'.ownsRow w3.heap.size 54 2 (.slice Q' (P.length + 1) qc') (P.length + 1) (prV P ++ [.string p.1, .string p.2])) : RlS w3 W' N nc names Q' qc' (P ++ [p]) := by
 refine ⟨h.low.grown hg h.low.size (fun g hg => (h.pr.lt g hg).1), h.nm.kept hg (own_two2 h.nm h.pr (by decide)), ?_⟩
 rw [List.length_append, List.length_singleton, prV_snoc]
 exact ho
end
theorem idxZ_get {x : ByteArray} : ∀ {l : List ByteArray} {i : Nat}, idxZ l x = (i : Int) → l[i]? = some x
 | [], i, h => by unfold idxZ at h; omega
 | y :: l, i, h => by
  unfold idxZ at h
  split at h
  · rename_i e
    have : i = 0 := by omega
    subst this
    rw [e]; rfl
  · split at h
    · omega
    · cases i with
      | zero => omega
      | succ i =>
       have := idxZ_get (l := l) (i := i) (x := x) (by omega)
       simpa using this
theorem sl_tail {V : World} {pb : Nat} {x : ByteArray} {l : List ByteArray} (h : Blk V pb 9 (strV (x :: l)).toArray) (hl : l.length ≤ 1000000) : Sl V (some ⟨pb, 1, none⟩) l.length l.length (strV l) :=
 ⟨by unfold strV; simp, Nat.le_refl _, by unfold maxLen; omega, fun _ => ⟨pb, 1, rfl, h.lt, fun j u hu => by
  rw [h.cell, List.getElem?_toArray, Nat.add_comm 1 j]
  exact hu⟩⟩
theorem pos_c {k : Nat} (h : 0 < k) : decide ((0 : Int) < (k : Int)) = true := decide_eq_true (by omega)
theorem zero_of {p q : Nat} (h : 1 * q + p * 1 = 1 * q) : p = 0 := by omega
theorem wr_nat {k : Nat} (h : k ≤ 720 * 720) : wrap64 (k : Int) = (k : Int) := by simp only [wrap64]; omega
theorem eqAr (a b c d : Int) (w : World) : (Op.equalIn 10000 31 (.agg #[.int .i64 a, .int .i64 b]) (.agg #[.int .i64 c, .int .i64 d])).run Tryz.prog w = .ok (a == c && b == d) w := by
 have u3 := Tryz.underlying3
 have a3 := Tryz.isAgg3
 have z3 := Tryz.sizeOf3
 rw [show (10000 : Nat) = 9999 + 1 from rfl, Op.equalIn]
 simp only [Sem.run_bind, run_underlying Tryz.underlying31, Result.andThen_ok]
 simp only [Std.Legacy.Range.forIn_eq_forIn_range', Std.Legacy.Range.size, Nat.sub_zero, Nat.add_sub_cancel, Nat.div_one, List.range'_succ, List.range'_zero, List.forIn_cons, List.forIn_nil]
 go_simp
 by_cases h1 : a = c <;> by_cases h2 : b = d <;> simp [h1, h2]
theorem eq11 (W : World) : (Op.equalIn 10000 31 (.agg #[.int .i64 1, .int .i64 1]) (.agg #[.int .i64 1, .int .i64 1])).run Tryz.prog W = .ok true W := eqAr 1 1 1 1 W
theorem cha_rep {s : Bk} (hs : BkT s) {i j : Nat} (hi : i < s.medals.length) (hj : j < s.medals.length) : replyChance s (s.medals.getD i ByteArray.empty) (s.medals.getD j ByteArray.empty) = if i = j then (ByteArray.empty, 2) else (chaT (chaN s.medals.length (bitsOf s.above) i j).1 (chaN s.medals.length (bitsOf s.above) i j).2, 0) := by
 unfold replyChance
 rw [idx_nodup hs.nm.mn hi, idx_nodup hs.nm.mn hj, if_pos ⟨by omega, by omega⟩]
 by_cases e : i = j
 · rw [if_pos (by omega), if_pos e]
 · rw [if_neg (by omega), if_neg e, Int.toNat_natCast, Int.toNat_natCast]
theorem med_ord {s : Bk} (hs : BkT s) : s.medals.length ≤ 6 ∧ OrdOk s.medals.length (bitsOf s.above) := by
 have hal := hs.bk.1.abv
 obtain ⟨ht1, ht2⟩ := hs.bk.2.bits
 rw [hal] at ht2
 exact ⟨hs.bk.1.med, ht2⟩
theorem getD_of {l : List ByteArray} {i : Nat} {x : ByteArray} (h : l[i]? = some x) : l.getD i ByteArray.empty = x := by rw [List.getD_eq_getElem?_getD, h]; rfl
/-- The roll's names. -/
def rolN (s : Bk) : List ByteArray := (lineO s.medals.length (bitsOf s.above)).map fun i => s.medals.getD i ByteArray.empty
theorem rolN_idx {s : Bk} (hs : BkT s) {i : Nat} (hi : i < s.medals.length) : ∃ k, (lineO s.medals.length (bitsOf s.above))[k]? = some i ∧ idxZ (rolN s) (s.medals.getD i ByteArray.empty) = (k : Nat) := by
 obtain ⟨hn, ho⟩ := med_ord hs
 obtain ⟨l1, l2, l3, l4⟩ := lineO_all hn ho
 obtain ⟨k, hk, he⟩ := line_idx hn ho hi
 exact ⟨k, he, idx_map hs.nm.mn l2 (fun i hi => (l1 i).1 hi) he⟩
theorem rolN_has {s : Bk} (hs : BkT s) {x : ByteArray} (hx : x ∈ s.medals) : x ∈ rolN s := by
 obtain ⟨i, hi⟩ := List.getElem?_of_mem hx
 obtain ⟨k, h1, h2⟩ := rolN_idx hs (List.getElem?_eq_some_iff.1 hi).1
 rw [getD_of hi] at h2
 exact idxZ_mem (by omega)
theorem prI_line {s : Bk} (hs : BkT s) {P : List (ByteArray × ByteArray)} (h : PrI s P) {p : ByteArray × ByteArray} (hp : p ∈ P) : (∃ k1 k2 : Nat, idxZ (rolN s) p.1 = k1 ∧ idxZ (rolN s) p.2 = k2 ∧ k1 < k2) ∧ p.1.size ≤ 100 ∧ p.2.size ≤ 100 := by
 obtain ⟨i, j, hi, hj, e1, e2, e3⟩ := h p hp
 obtain ⟨hn, ho⟩ := med_ord hs
 obtain ⟨k1, a1, a2⟩ := rolN_idx hs hi
 obtain ⟨k2, b1, b2⟩ := rolN_idx hs hj
 rw [getD_of e1] at a2
 rw [getD_of e2] at b2
 exact ⟨⟨k1, k2, a2, b2, line_lt hn ho hi hj e3 a1 b1⟩, nm_size hs.nm.md _ (List.mem_of_getElem? e1), nm_size hs.nm.md _ (List.mem_of_getElem? e2)⟩
theorem prI_sure {s : Bk} (hs : BkT s) {P : List (ByteArray × ByteArray)} (h : PrI s P) {i j : Nat} (hi : i < s.medals.length) (hj : j < s.medals.length) (h0 : 0 ≤ idxZ (P.map jnP) (jnP (s.medals.getD i ByteArray.empty, s.medals.getD j ByteArray.empty))) : chaN s.medals.length (bitsOf s.above) i j = (1, 1) := by
 obtain ⟨hn, ho⟩ := med_ord hs
 obtain ⟨p, hp, he⟩ := List.mem_map.1 (idxZ_mem h0)
 obtain ⟨i', j', hi', hj', e1, e2, e3⟩ := h p hp
 have gi : s.medals[i]? = some (s.medals.getD i ByteArray.empty) := by rw [List.getD_eq_getElem?_getD, List.getElem?_eq_getElem hi]; rfl
 have gj : s.medals[j]? = some (s.medals.getD j ByteArray.empty) := by rw [List.getD_eq_getElem?_getD, List.getElem?_eq_getElem hj]; rfl
 have hpe := jn_inj (nm_blank (hs.nm.md _ (List.mem_of_getElem? e1))) (nm_blank (hs.nm.md _ (List.mem_of_getElem? gi))) he
 rw [hpe] at e1 e2
 have ei := (List.getElem?_inj hi' hs.nm.mn).1 (e1.trans gi.symm)
 have ej := (List.getElem?_inj hj' hs.nm.mn).1 (e2.trans gj.symm)
 rw [ei, ej] at e3
 exact cha_sure hn ho e3
set_option maxRecDepth 100000 in
set_option maxHeartbeats 40000000 in
theorem mintRoll_walk (w : World) (U : Option Addr) (n c0 : Nat) (l : List ByteArray) (an am : Int) (he : EnvN w) (hT : Tab w) (hs : Sl w U n c0 (strV l)) (hl : ∀ x ∈ l, x.size ≤ 100000000) :
 Calls Tryz.prog 4 #[.slice U n c0, .int .i64 an, .int .i64 am] w fun e w' => e = .returned (.bool true) ∧ Below w.heap.size w w' := by
 have HOF := hid (openedF w U n c0 l he hT hs hl)
 have HEN := hid he
 have HT := hid hT
 have hjl : (runD bk0 [] (l.take 60)).2.length ≤ 60 := by
  have := runD_len (l.take 60) bk0 []
  rw [List.length_take, List.length_nil] at this
  omega
 have HJL := hid hjl
 have hrun := runD_runs (l.take 60) bk0 [] rfl
 generalize (runD bk0 [] (l.take 60)).1 = s at *
 generalize (runD bk0 [] (l.take 60)).2 = J at *
 obtain ⟨hbt, f, f0, fl, hf⟩ := run_at J bk0 s BkT.begin hrun
 have HBT := hid hbt
 have HF := hid hf
 have HFL := hid fl
 have HF0 := hid f0
 have HRQ := hid fun (W : World) K m A c L (hW : OpdS w W K m A c L 1 s J (likeC 1 J) false) => show Calls Tryz.prog 11 #[.pointer (some ⟨m, 0, none⟩), .string ⟨#[114, 111, 108, 108]⟩] W (AskR W (replyRoll s)) from by
  obtain ⟨R, d, hmm, _⟩ := hW.mm
  exact mintRollAll R m d L 1 s J false W hmm hbt (he.keep hW.low) (hT.below hW.low)
 have HWQ := hid fun (W : World) K m A c L (hW : OpdS w W K m A c L 1 s J (likeC 1 J) false) => show Calls Tryz.prog 11 #[.pointer (some ⟨m, 0, none⟩), .string ⟨#[119, 97, 121, 115]⟩] W (AskR W (replyWays s)) from by
  obtain ⟨R, d, hmm, _⟩ := hW.mm
  exact mintWaysQ R m d L 1 s J false W hmm hbt (he.keep hW.low) (hT.below hW.low)
 have HCQ := hid fun (x y : ByteArray) (hx : isNm x = true) (hy : isNm y = true) (W : World) K m A c L (hW : OpdS w W K m A c L 1 s J (likeC 1 J) false) => show Calls Tryz.prog 11 #[.pointer (some ⟨m, 0, none⟩), .string (chaX x y)] W (AskR W (replyChance s x y)) from by
  obtain ⟨R, d, hmm, _⟩ := hW.mm
  exact mintChaQ x y hx hy R m d L 1 s J false W hmm hbt (he.keep hW.low) (hT.below hW.low)
 have HPT := hid fun (x : ByteArray) (hx : x.size ≤ 1000) (W : World) (hW : Below w.heap.size w W) => parts_parts (s := x) (by omega) W (he.keep hW).max
 clear he hT hs hl hjl hrun hbt hf fl f0
 go_enter Tryz.func4, Tryz.ntmps4
 go_wp2_with fail
 refine (HOF.out).mono ?_; rintro e w1 ⟨K, m, A, cA, L, rfl, hop⟩
 have HOP := hid hop
 obtain ⟨R, d, hmm, hft⟩ := hop.mm
 obtain ⟨D0, dc0, rfl⟩ := own_form hmm.own
 obtain ⟨sb, A1, ca1, m1, m2, m3, m4⟩ := hmm.ex
 have HJO := hid (mintJournal m _ 1 sb D0 J.length dc0 J false w1 (by have := HJL.out; omega) m1 (Sl.of_own hmm.own))
 clear hop hmm hft m1 m2 m3 m4 HOF
 go_wp2_with fail
 refine (HJO.out).mono ?_; rintro e w3 ⟨D, dc, rfl, ho, b3⟩
 have HDO := hid ho
 have HOP := hid (HOP.out.below b3)
 have HSD := hid fun (W : World) (h : Below w3.heap.size w3 W) => (Sl.of_own HDO.out).below h
 have HOW := hid fun (W : World) (h : Below w3.heap.size w3 W) => HOP.out.below h
 have hcap := (Sl.of_own HDO.out).cap
 have hcapm := (Sl.of_own HDO.out).capm
 have hj60 := HJL.out
 have hf0 : (f 0).medals = [] := by rw [HF0.out]; rfl
 have HF0M := hid hf0
 have RL0 := hid (show RlS w3 w3 none 0 (f 0).medals none 0 [] from by
  rw [hf0]
  exact ⟨Below.refl _ _, World.ownsRow_nil _ _ _ _, World.ownsRow_nil _ _ _ _⟩)
 have PR0 := hid (show PrI (f 0) [] from fun p hp => by simp at hp)
 clear ho b3 HJO hf0
 go_wp2
 go_loopg [10, 11, 42] J.length (fun gk nv pv i wr => ∃ (k : Nat) (N : Option Addr) (nc : Nat) (Q : Option Addr) (qc : Nat) (P : List (ByteArray × ByteArray)), gk + k = J.length ∧ i = .int .i64 k ∧ nv = .slice N (f k).medals.length nc ∧ pv = .slice Q P.length qc ∧ P.length ≤ k ∧ Hid (RlS w3 wr N nc (f k).medals Q qc P) ∧ Hid (PrI (f k) P))
 case atStart => exact ⟨0, none, 0, none, 0, [], by omega, rfl, by rw [HF0M.out]; rfl, rfl, Nat.le_refl _, RL0, PR0⟩
 case round =>
  clear RL0 PR0
  obtain ⟨k, N, nc, Q, qc, P, hk, rfl, rfl, rfl, hpk, HC, HPI⟩ := hrel
  have HK := hid hk
  have HPK := hid hpk
  by_cases hlt : k < J.length
  · have HLT := hid hlt
    obtain ⟨db, dof, u, rfl, lbd, ed, cad⟩ := (HSD.out wr HC.out.low).at hlt
    obtain ⟨x, hx, rfl⟩ := strV_at ed
    obtain ⟨hbk, hkd⟩ := HF.out k x hx
    have hsz := kind_size hkd
    have HCR := hid (rollLn hbk hkd)
    have HBK := hid hbk
    have HP := hid (HPT.out x (by omega) wr (HOW.out wr HC.out.low).low)
    clear hk ed hx hbk hkd hsz lbd hpk
    go_wp2_with fail
    refine (HP.out).mono ?_; rintro e wp ⟨rfl, rfl⟩
    have HCV := hid (HC.out.below ((Below.refl _ wr).alloc (Nat.le_refl _) (.cells (strV (parts x)).toArray 9)))
    have HPB := hid (Blk.new wr 9 (strV (parts x)).toArray)
    obtain ⟨pb, hpb⟩ : ∃ b, b = wr.heap.size := ⟨_, rfl⟩
    rw [← hpb] at HPB ⊢
    have HGP := hid fun g (hg : (Value.slice N (f k).medals.length nc).ownBlock = some g) => show g < pb from by have := (HC.out.nm.lt g hg).2; omega
    have HGQ := hid fun g (hg : (Value.slice Q P.length qc).ownBlock = some g) => show g < pb from by have := (HC.out.pr.lt g hg).2; omega
    clear HC HP hpb cad
    have hbk := HBK.out
    have hml := hbk.bk.1.med
    have hHC := HCR.out
    clear HCR
    generalize wr.alloc (.cells (strV (parts x)).toArray 9) = V at *
    cases hHC with
    | other hw1 hw2 hme hab =>
     rw [parts_head x] at HPB ⊢
     have c0 := HPB.out.cell 0
     simp only [strV, List.map_cons, List.getElem?_toArray, List.getElem?_cons_zero] at c0
     generalize wordOf x = wd at *
     have q1 : ¬ wd.toList = [109, 101, 100, 97, 108] := fun e => hw1 (toList_inj (e.trans (by unfold sMedal; simp)))
     have q2 : ¬ wd.toList = [97, 98, 111, 118, 101] := fun e => hw2 (toList_inj (e.trans (by unfold sAbove; simp)))
     have q3 : (wd.toList == [109, 101, 100, 97, 108]) = false := by rw [beq_eq_false_iff_ne]; exact q1
     have q4 : (wd.toList == [97, 98, 111, 118, 101]) = false := by rw [beq_eq_false_iff_ne]; exact q2
     have HCW := hid (show RlS w3 V N nc (f (k + 1)).medals Q qc P from by rw [hme]; exact HCV.out)
     have HPJ := hid (HPI.out.other hme hab)
     have hml2 : (f k).medals.length = (f (k + 1)).medals.length := by rw [hme]
     clear hw1 hw2 hme hab
     go_wp2
     go_roundg (J.length - (k + 1))
     case measure => have := HK.out; have := HLT.out; omega
     case rel => exact ⟨k + 1, N, nc, Q, qc, P, by have := HK.out; have := HLT.out; omega, by have := HLT.out; have := HJL.out; go_num, by first | rfl | rw [hml2], rfl, by have := HPK.out; omega, HCW, HPJ⟩
    | medal v hw hp hn6 hme hab =>
     rw [hp] at HPB ⊢
     unfold sMedal at HPB
     have c0 := HPB.out.cell 0
     have c1 := HPB.out.cell 1
     simp only [strV, List.map_cons, List.map_nil, List.getElem?_toArray, List.getElem?_cons_zero, List.getElem?_cons_succ] at c0 c1
     have q1 : ((⟨#[109, 101, 100, 97, 108]⟩ : ByteArray).toList == (⟨#[109, 101, 100, 97, 108]⟩ : ByteArray).toList) = true := by simp
     have q2 : ((⟨#[109, 101, 100, 97, 108]⟩ : ByteArray).toList == (⟨#[97, 98, 111, 118, 101]⟩ : ByteArray).toList) = false := by rw [beq_eq_false_iff_ne]; exact fun e => absurd (toList_inj e) (by decide)
     have HML := hid hme
     have HPJ := hid (HPI.out.medal hbk.bk.1.abv hme hab)
     obtain ⟨names, hnm⟩ : ∃ l, l = (f k).medals := ⟨_, rfl⟩
     rw [← hnm] at HCV hn6 HML HGP ⊢
     clear hw hp hme hab hnm hbk hml
     go_wp2_with (at_builtin; refine push1L TS22 V #[.string v] w3.heap.size _ _ _ HCV.out.nm _ _ V.heap.size rfl rfl rfl rfl rfl rfl (by simp [Value.oneCell']) (by omega) (by omega) HCV.out.low.size ?_; intro v1 w8 hown1 hgr hap; obtain ⟨N8, nc8, rfl⟩ := own_form hown1; have hp8 := HPB.out.grown hgr (fun e => by have := HGP.out pb e.symm; omega); have c0 := hp8.cell 0; simp only [strV, List.map_cons, List.map_nil, List.getElem?_toArray, List.getElem?_cons_zero] at c0; have HC8 := hid (HCV.out.pushN (v := v) (N' := N8) (nc' := nc8) hgr hown1); clear hown1 hgr hap hp8 c1)
     go_roundg (J.length - (k + 1))
     case measure => have := HK.out; have := HLT.out; omega
     case rel => exact ⟨k + 1, N8, nc8, Q, qc, P, by have := HK.out; have := HLT.out; omega, by have := HLT.out; have := HJL.out; go_num, by rw [HML.out, List.length_append, List.length_singleton], rfl, by have := HPK.out; omega, by rw [HML.out]; exact HC8, HPJ⟩
    | above v kk i j hw hp hi hj hil hjl hij b1 b2 hme hab =>
     rw [hp] at HPB ⊢
     unfold sAbove at HPB
     have c0 := HPB.out.cell 0
     have c1 := HPB.out.cell 1
     have c2 := HPB.out.cell 2
     simp only [strV, List.map_cons, List.map_nil, List.getElem?_toArray, List.getElem?_cons_zero, List.getElem?_cons_succ] at c0 c1 c2
     have q1 : ((⟨#[97, 98, 111, 118, 101]⟩ : ByteArray).toList == (⟨#[109, 101, 100, 97, 108]⟩ : ByteArray).toList) = false := by rw [beq_eq_false_iff_ne]; exact fun e => absurd (toList_inj e) (by decide)
     have q2 : ((⟨#[97, 98, 111, 118, 101]⟩ : ByteArray).toList == (⟨#[97, 98, 111, 118, 101]⟩ : ByteArray).toList) = true := by simp
     have HPJ := hid (HPI.out.above (v := v) (k := kk) (i := i) (j := j) (idxZ_get hi) (idxZ_get hj) hme hab)
     have HML := hid hme
     have HP60 := hid (show P.length ≤ 60 from by have := HPK.out; have := HLT.out; have := HJL.out; omega)
     have HP1 := hid c1
     have HP2 := hid c2
     have HPN := hid (show ∀ g, (Value.slice Q P.length qc).ownBlock = some g → g ≠ pb from fun g hg e => by have := HGQ.out g hg; omega)
     clear hw hp hi hj hil hjl hij b1 b2 hme hab hbk hml
     go_wp2_with fail
     clear c0 c1 c2 q1 q2
     refine wp_region_held_drew (S := (fun w' => w'.cell? ⟨pb, 2, none⟩ = some (.string kk) ∧ w'.cell? ⟨pb, 1, none⟩ = some (.string v))) (by kernel_rfl) (by (try dsimp only); (exact ⟨HP2.out, HP1.out⟩)) (fun hHeld => ?_)
     have HCV := hid (HCV.out.below (Below.refl _ V).drew)
     have HP1 := hid (show V.drew.cell? ⟨pb, 1, none⟩ = _ from HP1.out)
     have HP2 := hid (show V.drew.cell? ⟨pb, 2, none⟩ = _ from HP2.out)
     generalize V.drew = X1 at *
     obtain ⟨X, rfl⟩ : ∃ Y, Y = X1 := ⟨X1, rfl⟩
     refine tk ?_ 0 (some 72) rfl rfl ?_ ?_; rotate_left; · (intro w hSw; (try dsimp only at hSw); go_simp <;> with_reducible rfl)
     try simp only [Act.put, pA0, pA1, pA2]
     refine tk ?_ 1 (some 73) rfl rfl ?_ ?_; rotate_left; · (intro w hSw; (try dsimp only at hSw); go_simp <;> with_reducible rfl)
     try simp only [Act.put, pA0, pA1, pA2]
     refine tk ?_ 2 (some 74) rfl rfl ?_ ?_; rotate_left; · (intro w hSw; (try dsimp only at hSw); go_simp <;> with_reducible rfl)
     try simp only [Act.put, pA0, pA1, pA2]
     refine tk ?_ 3 (some 75) rfl rfl ?_ ?_; rotate_left; · (intro w hSw; (try dsimp only at hSw); go_simp <;> with_reducible rfl)
     try simp only [Act.put, pA0, pA1, pA2]
     refine tk ?_ 4 (some 76) rfl rfl ?_ ?_; rotate_left; · (intro w hSw; (try dsimp only at hSw); go_simp <;> with_reducible rfl)
     try simp only [Act.put, pA0, pA1, pA2]
     refine tk ?_ 5 (some 77) rfl rfl ?_ ?_; rotate_left; · (intro w hSw; (try dsimp only at hSw); go_simp <;> with_reducible rfl)
     try simp only [Act.put, pA0, pA1, pA2]
     refine tk ?_ 6 (some 78) rfl rfl ?_ ?_; rotate_left; · (intro w hSw; (try dsimp only at hSw); go_simp <;> with_reducible rfl)
     try simp only [Act.put, pA0, pA1, pA2]
     refine tk ?_ 7 (some 79) rfl rfl ?_ ?_; rotate_left; · (intro w hSw; (try dsimp only at hSw); go_simp <;> with_reducible rfl)
     try simp only [Act.put, pA0, pA1, pA2]
     refine wpAnyH_ready (rs := [8]) (by kernel_rfl) (by simp) ?_
     refine AllReadyH.cons rfl (fun K hK => ?_) AllReadyH.nil
     go_simp
     have HXA := hid HCV.out.pr
     have HP1 := hid (cell_keep ((Below.refl X.heap.size X).alloc (Nat.le_refl _) (.cells #[.string kk, .string v] 54)) HP1.out)
     have HP2 := hid (cell_keep ((Below.refl X.heap.size X).alloc (Nat.le_refl _) (.cells #[.string kk, .string v] 54)) HP2.out)
     have HCV := hid (HCV.out.below ((Below.refl X.heap.size X).alloc (Nat.le_refl _) (.cells #[.string kk, .string v] 54)))
     clear hHeld
     refine hK.out _ _ ?_ (fun hHeld => ?_); · ((try dsimp only); (exact ⟨HP2.out, HP1.out⟩))
     clear hK K
     try simp only [Act.put, pA0, pA1, pA2]
     refine wpAnyH_ready (rs := [9]) (by kernel_rfl) (by simp) ?_
     refine AllReadyH.cons rfl (fun K hK => ?_) AllReadyH.nil
     obtain ⟨i0, hi0, hz0, hz1, hzz⟩ := info_parts TPS.inf
     refine step_append_lies _ rfl (.tmp 72) (.tmp 80) 53 rfl w3.heap.size 54 i0 (.agg #[.string ⟨#[]⟩, .string ⟨#[]⟩]) 2 32 TPS.und hi0 hz0 hz1 hzz TPS.zc TPS.sz (.slice Q P.length qc) P.length (prV P) rfl HCV.out.pr _ 1 1 (#[.string kk, .string v] : Array Value).toList rfl rfl (cells_new _ _ _) (by simp [Value.oneCell']) (by decide) (by have := HP60.out; unfold maxLen; omega) (by have := HP60.out; omega) HCV.out.low.size _ rfl ?_; intro g cap wA howA hgA hatA hltA
     have HC8 := hid (HCV.out.pushP (p := (kk, v)) hgA howA)
     have HP1 := hid (hgA.cell HP1.out (fun e => HPN.out pb e.symm rfl))
     have HP2 := hid (hgA.cell HP2.out (fun e => HPN.out pb e.symm rfl))
     clear howA hgA hatA hltA hHeld HCV
     refine hK.out _ _ ?_ (fun hHeld => ?_); · ((try dsimp only); (exact ⟨HP2.out, HP1.out⟩))
     clear hK K
     try simp only [Act.put, List.setIfInBounds_toArray]
     refine tk ?_ 10 (some 11) rfl rfl ?_ ?_; rotate_left; · (intro w hSw; (try dsimp only at hSw); go_simp <;> with_reducible rfl)
     try simp only [Act.put]
     refine wpAnyH_done (by kernel_rfl) ?_ _
     have c0 := True.intro
     go_wp2
     go_roundg (J.length - (k + 1))
     case measure => have := HK.out; have := HLT.out; omega
     case rel => exact ⟨k + 1, N, nc, some ⟨g, 0, none⟩, cap, P ++ [(kk, v)], by have := HK.out; have := HLT.out; omega, by have := HLT.out; have := HJL.out; go_num, by rw [HML.out], by rw [List.length_append, List.length_singleton], by rw [List.length_append, List.length_singleton]; have := HPK.out; omega, by rw [HML.out]; exact HC8, HPJ⟩
  · have hkj : k = J.length := by have := HK.out; omega
    subst hkj
    rw [HFL.out] at HC HPI ⊢
    have HOP := hid (HOW.out wr HC.out.low)
    have hrq := HRQ.out wr K m A cA L HOP.out
    unfold AskR replyRoll at hrq
    simp only at hrq
    obtain ⟨hn6, hok⟩ := med_ord HBT.out
    obtain ⟨l1, l2, l3, l4⟩ := lineO_all hn6 hok
    have hz := nmd_size s.medals (nm_size HBT.out.nm.md) (lineO s.medals.length (bitsOf s.above)) sRoll
    have hpo := parts_nmd sRoll (by decide) s.medals HBT.out.nm.md (lineO s.medals.length (bitsOf s.above)) (fun i hi => (l1 i).1 hi)
    have hsz : sRoll.size = 4 := rfl
    have HPR := hid fun (W : World) (hW : Below w.heap.size w W) => HPT.out (nmd sRoll s.medals (lineO s.medals.length (bitsOf s.above))) (by omega) W hW
    rw [hpo] at HPR
    have HLN := hid (show (rolN s).length = s.medals.length from by unfold rolN; rw [List.length_map]; exact l4)
    have HYS := hid (show ((lineO s.medals.length (bitsOf s.above)).map fun i => s.medals.getD i ByteArray.empty) = rolN s from rfl)
    rw [HYS.out] at HPR
    have HQ1 := hid hrq
    have HHAS := hid fun x hx => rolN_has HBT.out (x := x) hx
    have HPL := hid fun p hp => prI_line HBT.out HPI.out (p := p) hp
    generalize rolN s = ys at *
    generalize nmd sRoll s.medals (lineO s.medals.length (bitsOf s.above)) = rp at *
    obtain ⟨n, hn⟩ : ∃ n, n = s.medals.length := ⟨_, rfl⟩
    have HN := hid hn
    have HN6 := hid hn6
    have HPK := hid (show P.length ≤ 60 from by have := HJL.out; omega)
    rw [List.length_cons, HLN.out, ← hn] at HPR
    rw [← hn] at HLN HN6 ⊢
    clear hk hlt HK HSD HOW HDO hcap hcapm HF0 HFL HF hrq hz hpo hsz l1 l2 l3 l4 hn hn6 hok HRQ hpk
    have hn1 : (1 : Int) ≤ (n : Int) + 1 := by omega
    have hne : ((n : Int) != (n : Int)) = false := by simp
    go_wp2_with fail
    refine (HQ1.out).mono ?_; rintro e w4 ⟨rfl, b4⟩
    have HC := hid (HC.out.below b4)
    have HOP := hid (HOP.out.below b4)
    have HP4 := hid (HPR.out w4 HOP.out.low)
    clear HQ1 b4 HPR
    go_wp2_with fail
    refine (HP4.out).mono ?_; rintro e w5 ⟨rfl, rfl⟩
    have bP := (Below.refl w4.heap.size w4).alloc (Nat.le_refl _) (.cells (strV (sRoll :: ys)).toArray 9)
    have HPB := hid (Blk.new w4 9 (strV (sRoll :: ys)).toArray)
    have HC := hid (HC.out.below bP)
    have HOP := hid (HOP.out.below bP)
    obtain ⟨pb, hpb⟩ : ∃ b, b = w4.heap.size := ⟨_, rfl⟩
    rw [← hpb] at HPB ⊢
    clear bP HP4 hpb
    generalize w4.alloc (.cells (strV (sRoll :: ys)).toArray 9) = V at *
    have HSY := hid (show Sl V (some ⟨pb, 1, none⟩) n n (strV ys) from by have := sl_tail HPB.out (by have := HLN.out; have := HN6.out; omega); rwa [HLN.out] at this)
    have HNS := hid (Sl.of_own HC.out.nm)
    have HNN := HN.out
    rw [← HNN] at HNS
    clear HNN
    by_cases h0 : n = 0
    · have hP : P.length = 0 := by
       cases hpp : P with
       | nil => rfl
       | cons p t =>
        obtain ⟨x1, x2, x3, _⟩ := HPI.out p (by rw [hpp]; exact List.mem_cons_self)
        have := HN.out
        omega
      have hwq := HWQ.out V K m A cA L HOP.out
      unfold AskR replyWays at hwq
      rw [if_pos (by rw [← HN.out]; exact h0)] at hwq
      have HW1 := hid hwq
      have HP0 := hid hP
      rw [hP]
      clear hwq hP
      subst h0
      go_wp2
      go_loopg [102] 0 (fun gk i wx => i = .int .i64 0 ∧ V = wx)
      case atStart => exact ⟨rfl, rfl⟩
      case round =>
       obtain ⟨rfl, rfl⟩ := hrel
       go_wp2
       go_loopg [113] 0 (fun gk i wx => i = .int .i64 0 ∧ V = wx)
       case atStart => exact ⟨rfl, rfl⟩
       case round =>
        obtain ⟨rfl, rfl⟩ := hrel
        go_wp2_with fail
        refine (HW1.out).mono ?_; rintro e w6 ⟨rfl, b6⟩
        have HOP := hid (HOP.out.below b6)
        have HAW := hid (awakeG w6 (HEN.out.keep HOP.out.low) (HT.out.below HOP.out.low))
        clear HW1 b6
        go_wp2_with fail
        refine (HAW.out).mono ?_; rintro e w7 ⟨rfl, b7⟩
        have HB7 := hid (below_call HOP.out.low b7 HOP.out.low.size)
        clear b7
        go_wp2
        go_ret
        exact ⟨rfl, HB7.out⟩
    · have hnz : ((n : Int) == 0) = false := by rw [beq_eq_false_iff_ne]; omega
      have hnz2 : (n == 0) = false := by rw [beq_eq_false_iff_ne]; exact h0
      go_wp2
      clear hn1 hne
      go_loopg [102] n (fun gk i wx => ∃ q : Nat, gk + q = n ∧ i = .int .i64 q ∧ V = wx)
      case atStart => exact ⟨0, by omega, rfl, rfl⟩
      case round =>
       obtain ⟨q, hq, rfl, rfl⟩ := hrel
       have HQ := hid hq
       by_cases hlq : q < n
       · have HLQ := hid hlq
         obtain ⟨nb, no, u, rfl, lb, en, cn⟩ := HNS.out.at hlq
         obtain ⟨x, hx, rfl⟩ := strV_at en
         have HWR := hid (show wrap64 ((q : Int) + 1) = ((q + 1 : Nat) : Int) from by have := HN6.out; simp only [wrap64]; omega)
         have HHX := hid (strHas (some ⟨pb, 1, none⟩) n n ys x true V HSY.out ⟨fun _ => HHAS.out x (List.mem_of_getElem? hx), fun _ => rfl⟩)
         clear hq lb en hx
         go_wp2_with fail
         refine (HHX.out).mono ?_; rintro e w8 ⟨rfl, rfl⟩
         go_wp2
         go_roundg (n - (q + 1))
         case measure => have := HQ.out; have := HLQ.out; omega
         case rel => exact ⟨q + 1, by have := HQ.out; have := HLQ.out; omega, by rw [HWR.out], rfl⟩
       · have hqe : n = q := by have := HQ.out; omega
         subst hqe
         clear hq hlq HQ
         have HB0 := hid (Below.refl V.heap.size V)
         have hqc := (Sl.of_own HC.out.nm).cap
         have hpc := (SlP.of_own HC.out.pr).cap
         have hpcm := (SlP.of_own HC.out.pr).capm
         have hp60 := HPK.out
         go_wp2
         go_loopg [113] P.length (fun gk i wx => ∃ q : Nat, gk + q = P.length ∧ i = .int .i64 q ∧ Hid (Below V.heap.size V wx))
         case atStart => exact ⟨0, by omega, rfl, HB0⟩
         case round =>
          clear HB0
          obtain ⟨q, hq, rfl, HB⟩ := hrel
          have HQ := hid hq
          by_cases hlq : q < P.length
          · have HLQ := hid hlq
            obtain ⟨b, o, rfl, lb, hc⟩ := (SlP.of_own (HC.out.below HB.out).pr).pos (by omega)
            have hpk : P[q]? = some P[q] := List.getElem?_eq_getElem hlq
            obtain ⟨c1, c2⟩ := hc q _ hpk
            obtain ⟨⟨k1, k2, i1, i2, hk12⟩, _, _⟩ := HPL.out P[q] (List.getElem_mem hlq)
            generalize P[q] = pk at *
            obtain ⟨x, y⟩ := pk
            simp only at c1 c2 i1 i2
            have HI1 := hid fun W (hW : Below V.heap.size V W) => strIdxE (some ⟨pb, 1, none⟩) n n ys x W (HSY.out.below hW)
            have HI2 := hid fun W (hW : Below V.heap.size V W) => strIdxE (some ⟨pb, 1, none⟩) n n ys y W (HSY.out.below hW)
            rw [i1] at HI1
            rw [i2] at HI2
            have g12 : decide ((k2 : Int) ≤ (k1 : Int)) = false := decide_eq_false (by omega)
            have g13 : decide (k2 ≤ k1) = false := decide_eq_false (by omega)
            have HBX := hid (Blk.new wr 54 #[.string x, .string y])
            have HB1 := hid (HB.out.alloc HB.out.size (.cells #[.string x, .string y] 54))
            clear hq lb hc hpk i1 i2 hk12
            go_wp2_with fail
            clear c1 c2
            generalize wr.alloc (.cells #[.string x, .string y] 54) = V2 at *
            obtain ⟨bx, hbx⟩ : ∃ b, b = wr.heap.size := ⟨_, rfl⟩
            rw [← hbx] at HBX ⊢
            clear hbx
            refine wp_region_held_drew (S := (fun w' => w'.cell? ⟨bx, 0, none⟩ = some (.string x) ∧ w'.cell? ⟨bx, 1, none⟩ = some (.string y))) (by kernel_rfl) (by (try dsimp only); (first | exact ⟨HBX.out.cell 0, HBX.out.cell 1⟩ | exact ⟨HBX.out.drew.cell 0, HBX.out.drew.cell 1⟩)) (fun hHeld => ?_)
            have HBX := hid HBX.out.drew; have HB1 := hid HB1.out.drew
            generalize V2.drew = X1 at *
            obtain ⟨X, rfl⟩ : ∃ Y, Y = X1 := ⟨X1, rfl⟩
            refine tk ?_ 0 (some 117) rfl rfl ?_ ?_; rotate_left; · (intro w hSw; (try dsimp only at hSw); go_simp <;> with_reducible rfl)
            try simp only [Act.put, pA0, pA1, pA2]
            refine tk ?_ 1 (some 118) rfl rfl ?_ ?_; rotate_left; · (intro w hSw; (try dsimp only at hSw); go_simp <;> with_reducible rfl)
            try simp only [Act.put, pA0, pA1, pA2]
            refine tk ?_ 2 (some 119) rfl rfl ?_ ?_; rotate_left; · (intro w hSw; (try dsimp only at hSw); go_simp <;> with_reducible rfl)
            try simp only [Act.put, pA0, pA1, pA2]
            refine tk ?_ 4 (some 121) rfl rfl ?_ ?_; rotate_left; · (intro w hSw; (try dsimp only at hSw); go_simp <;> with_reducible rfl)
            try simp only [Act.put, pA0, pA1, pA2]
            refine tk ?_ 5 (some 122) rfl rfl ?_ ?_; rotate_left; · (intro w hSw; (try dsimp only at hSw); go_simp <;> with_reducible rfl)
            try simp only [Act.put, pA0, pA1, pA2]
            refine tk ?_ 6 (some 123) rfl rfl ?_ ?_; rotate_left; · (intro w hSw; (try dsimp only at hSw); go_simp <;> with_reducible rfl)
            try simp only [Act.put, pA0, pA1, pA2]
            refine wpAnyH_ready (rs := [3]) (by kernel_rfl) (by simp) ?_
            refine AllReadyH.cons rfl (fun K hK => ?_) AllReadyH.nil
            go_simp
            refine (HI1.out _ HB1.out).mono ?_; rintro e X2 ⟨rfl, rfl⟩
            clear hHeld
            refine hK.out _ _ ?_ (fun hHeld => ?_); · ((try dsimp only); (first | exact ⟨HBX.out.cell 0, HBX.out.cell 1⟩ | exact ⟨HBX.out.drew.cell 0, HBX.out.drew.cell 1⟩))
            clear hK K
            try simp only [Act.put, pA0, pA1, pA2]
            refine wpAnyH_ready (rs := [7]) (by kernel_rfl) (by simp) ?_
            refine AllReadyH.cons rfl (fun K hK => ?_) AllReadyH.nil
            go_simp
            refine (HI2.out _ HB1.out).mono ?_; rintro e X2 ⟨rfl, rfl⟩
            clear hHeld
            refine hK.out _ _ ?_ (fun hHeld => ?_); · ((try dsimp only); (first | exact ⟨HBX.out.cell 0, HBX.out.cell 1⟩ | exact ⟨HBX.out.drew.cell 0, HBX.out.drew.cell 1⟩))
            clear hK K
            try simp only [Act.put, pA0, pA1, pA2]
            refine tk ?_ 8 (some 125) rfl rfl ?_ ?_; rotate_left; · (intro w hSw; (try dsimp only at hSw); go_simp <;> with_reducible rfl)
            try simp only [Act.put, pA0, pA1, pA2]
            refine wpAnyH_done (by kernel_rfl) ?_ _
            go_wp2
            go_roundg (P.length - (q + 1))
            case measure => have := HQ.out; have := HLQ.out; omega
            case rel => exact ⟨q + 1, by have := HQ.out; have := HLQ.out; omega, by have := HLQ.out; have := HPK.out; go_num, HB1⟩
          · have hqe : P.length = q := by have := HQ.out; omega
            subst hqe
            have HC := hid (HC.out.below HB.out)
            have HOP := hid (HOP.out.below HB.out)
            have HPZ := hid fun p hp => (HPL.out p hp).2
            clear hq hlq HQ HB HSY HPB HNS hqc hpc hpcm hp60 HHAS HPL
            have hn0 : 0 < n := by omega
            have hnI : ¬ (n : Int) = 0 := by omega
            have hn6 := HN6.out
            have hun : IntKind.u64.wrap (n : Int) = (n : Int) := by rw [IntKind.wrap_u64]; omega
            have hix : ∀ av : Int, ∃ i0 : Nat, i0 < n ∧ wrap64 ((IntKind.u64.wrap av).tmod (n : Int)) = (i0 : Int) := fun av => by
             have h0 : 0 ≤ IntKind.u64.wrap av := by rw [IntKind.wrap_u64]; omega
             have h1 : 0 ≤ IntKind.u64.wrap av % (n : Int) := Int.emod_nonneg _ hnI
             have h2 : IntKind.u64.wrap av % (n : Int) < n := Int.emod_lt_of_pos _ (by omega)
             rw [Int.tmod_eq_emod_of_nonneg h0]
             refine ⟨(IntKind.u64.wrap av % (n : Int)).toNat, by omega, ?_⟩
             generalize IntKind.u64.wrap av % (n : Int) = z at *
             simp only [wrap64]
             omega
            obtain ⟨i0, hi0, he0⟩ := hix an
            obtain ⟨i1, hi1, he1⟩ := hix am
            have he0b : IntKind.i64.wrap ((IntKind.u64.wrap an).tmod (n : Int)) = (i0 : Int) := by rw [← he0]; first | rfl | (simp only [wrap64, IntKind.wrap_i64]; done)
            have he1b : IntKind.i64.wrap ((IntKind.u64.wrap am).tmod (n : Int)) = (i1 : Int) := by rw [← he1]; first | rfl | (simp only [wrap64, IntKind.wrap_i64]; done)
            have hmn := HN.out
            have HNS := hid (show Sl wr N n nc (strV s.medals) from by rw [hmn]; exact Sl.of_own HC.out.nm)
            obtain ⟨nb, no, rfl, lb, hnc⟩ := HNS.out.pos hn0
            have hg : ∀ i, i < n → s.medals[i]? = some (s.medals.getD i ByteArray.empty) := fun i hi => by rw [List.getD_eq_getElem?_getD, List.getElem?_eq_getElem (by omega)]; rfl
            have hsv : ∀ i, i < n → (strV s.medals)[i]? = some (.string (s.medals.getD i ByteArray.empty)) := fun i hi => by unfold strV; rw [List.getElem?_map, hg i hi]; rfl
            have cn0 := hnc i0 _ (hsv i0 hi0)
            have cn1 := hnc i1 _ (hsv i1 hi1)
            have hm0 := HBT.out.nm.md _ (List.mem_of_getElem? (hg i0 hi0))
            have hm1 := HBT.out.nm.md _ (List.mem_of_getElem? (hg i1 hi1))
            have hz0 := (nm_ok hm0).2.2
            have hz1 := (nm_ok hm1).2.2
            have hr01 := cha_rep HBT.out (i := i0) (j := i1) (by omega) (by omega)
            have hr10 := cha_rep HBT.out (i := i1) (j := i0) (by omega) (by omega)
            have hsu := cha_sum (n := n) (a := bitsOf s.above) hn6 (by rw [hmn]; exact (med_ord HBT.out).2) hi0 hi1
            have hsu2 := cha_sum (n := n) (a := bitsOf s.above) hn6 (by rw [hmn]; exact (med_ord HBT.out).2) hi1 hi0
            have hsure := fun h => prI_sure HBT.out HPI.out (i := i0) (j := i1) (by omega) (by omega) h
            have hinj : (s.medals.getD i0 ByteArray.empty).toList = (s.medals.getD i1 ByteArray.empty).toList → i0 = i1 := fun h => by
             have h1 := hg i0 hi0
             rw [toList_inj h] at h1
             exact (List.getElem?_inj (by omega) HBT.out.nm.mn).1 (h1.trans (hg i1 hi1).symm)
            have HCA := hid fun W hW => HCQ.out _ _ hm0 hm1 W K m A cA L hW
            have HCB := hid fun W hW => HCQ.out _ _ hm1 hm0 W K m A cA L hW
            rw [← hmn] at hr01 hr10 hsure
            rw [hr01] at HCA
            rw [hr10] at HCB
            have HR := hid (And.intro hi0 hi1)
            have HSU := hid hsu
            have HSU2 := hid hsu2
            have HSURE := hid hsure
            have HINJ := hid hinj
            have HC01 := hid (And.intro cn0 cn1)
            have hx0eq : ∀ u, u = i0 → s.medals.getD i0 ByteArray.empty = s.medals.getD u ByteArray.empty := fun u e => by rw [e]
            have HX01 := hid (fun e : i1 = i0 => hx0eq i1 e)
            have c7 : (ByteArray.mk #[99, 104, 97, 110, 99, 101, 32]).size = 7 := rfl
            have sp : (ByteArray.mk #[32]).size = 1 := rfl
            unfold AskR chaX at HCA HCB
            generalize s.medals.getD i0 ByteArray.empty = x0 at *
            generalize s.medals.getD i1 ByteArray.empty = x1 at *
            have ca1 := catS2 ⟨#[99, 104, 97, 110, 99, 101, 32]⟩ x0 (by omega) (by omega)
            have ca2 := catS2 (⟨#[99, 104, 97, 110, 99, 101, 32]⟩ ++ x0) ⟨#[32]⟩ (by rw [ByteArray.size_append]; omega) (by omega)
            have ca3 := catS2 (⟨#[99, 104, 97, 110, 99, 101, 32]⟩ ++ x0 ++ ⟨#[32]⟩) x1 (by rw [ByteArray.size_append, ByteArray.size_append]; omega) (by omega)
            have cb1 := catS2 ⟨#[99, 104, 97, 110, 99, 101, 32]⟩ x1 (by omega) (by omega)
            have cb2 := catS2 (⟨#[99, 104, 97, 110, 99, 101, 32]⟩ ++ x1) ⟨#[32]⟩ (by rw [ByteArray.size_append]; omega) (by omega)
            have cb3 := catS2 (⟨#[99, 104, 97, 110, 99, 101, 32]⟩ ++ x1 ++ ⟨#[32]⟩) x0 (by rw [ByteArray.size_append, ByteArray.size_append]; omega) (by omega)
            have cc1 := catS2 x0 ⟨#[32]⟩ (by omega) (by omega)
            have cc2 := catS2 (x0 ++ ⟨#[32]⟩) x1 (by rw [ByteArray.size_append]; omega) (by omega)
            have HZ := hid (And.intro hz0 hz1)
            have hi0I : (i0 : Int) < (n : Int) := by omega
            have hi1I : (i1 : Int) < (n : Int) := by omega
            clear hix hnc hsv hg hm0 hm1 hz0 hz1 hr01 hr10 hsu hsu2 hsure hinj hx0eq c7 sp HNS lb hmn HCQ HWQ
            go_wp2_with fail
            refine wp_region_held_drew (S := (fun w' => w'.cell? ⟨nb, no + i0, none⟩ = some (.string x0) ∧ w'.cell? ⟨nb, no + i1, none⟩ = some (.string x1))) (by kernel_rfl) (by (try dsimp only); (exact HC01.out)) (fun hHeld => ?_)
            have HC := hid (HC.out.below (Below.refl _ wr).drew); have HOP := hid (HOP.out.below (Below.refl _ wr).drew)
            generalize wr.drew = X1 at *
            obtain ⟨X, rfl⟩ : ∃ Y, Y = X1 := ⟨X1, rfl⟩
            refine tk ?_ 0 (some 140) rfl rfl ?_ ?_; rotate_left; · (intro w hSw; (try dsimp only at hSw); go_simp <;> with_reducible rfl)
            try simp only [Act.put, pA0, pA1, pA2]
            refine tk ?_ 1 (some 141) rfl rfl ?_ ?_; rotate_left; · (intro w hSw; (try dsimp only at hSw); go_simp <;> with_reducible rfl)
            try simp only [Act.put, pA0, pA1, pA2]
            refine tk ?_ 2 (some 142) rfl rfl ?_ ?_; rotate_left; · (intro w hSw; (try dsimp only at hSw); go_simp <;> with_reducible rfl)
            try simp only [Act.put, pA0, pA1, pA2]
            refine tk ?_ 3 (some 143) rfl rfl ?_ ?_; rotate_left; · (intro w hSw; (try dsimp only at hSw); go_simp <;> with_reducible rfl)
            try simp only [Act.put, pA0, pA1, pA2]
            refine tk ?_ 4 (some 144) rfl rfl ?_ ?_; rotate_left; · (intro w hSw; (try dsimp only at hSw); go_simp <;> with_reducible rfl)
            try simp only [Act.put, pA0, pA1, pA2]
            refine tk ?_ 5 (some 145) rfl rfl ?_ ?_; rotate_left; · (intro w hSw; (try dsimp only at hSw); go_simp <;> with_reducible rfl)
            try simp only [Act.put, pA0, pA1, pA2]
            refine tk ?_ 6 (some 146) rfl rfl ?_ ?_; rotate_left; · (intro w hSw; (try dsimp only at hSw); go_simp <;> with_reducible rfl)
            try simp only [Act.put, pA0, pA1, pA2]
            refine tk ?_ 7 (some 147) rfl rfl ?_ ?_; rotate_left; · (intro w hSw; (try dsimp only at hSw); go_simp <;> with_reducible rfl)
            try simp only [Act.put, pA0, pA1, pA2]
            refine tk ?_ 8 (some 148) rfl rfl ?_ ?_; rotate_left; · (intro w hSw; (try dsimp only at hSw); go_simp <;> with_reducible rfl)
            try simp only [Act.put, pA0, pA1, pA2]
            refine tk ?_ 9 (some 149) rfl rfl ?_ ?_; rotate_left; · (intro w hSw; (try dsimp only at hSw); go_simp <;> with_reducible rfl)
            try simp only [Act.put, pA0, pA1, pA2]
            refine tk ?_ 10 (some 150) rfl rfl ?_ ?_; rotate_left; · (intro w hSw; (try dsimp only at hSw); go_simp <;> with_reducible rfl)
            try simp only [Act.put, pA0, pA1, pA2]
            refine tk ?_ 11 (some 151) rfl rfl ?_ ?_; rotate_left; · (intro w hSw; (try dsimp only at hSw); go_simp <;> with_reducible rfl)
            try simp only [Act.put, pA0, pA1, pA2]
            refine tk ?_ 12 (some 152) rfl rfl ?_ ?_; rotate_left; · (intro w hSw; (try dsimp only at hSw); go_simp <;> with_reducible rfl)
            try simp only [Act.put, pA0, pA1, pA2]
            refine tk ?_ 13 (some 153) rfl rfl ?_ ?_; rotate_left; · (intro w hSw; (try dsimp only at hSw); go_simp <;> with_reducible rfl)
            try simp only [Act.put, pA0, pA1, pA2]
            refine tk ?_ 14 (some 154) rfl rfl ?_ ?_; rotate_left; · (intro w hSw; (try dsimp only at hSw); go_simp <;> with_reducible rfl)
            try simp only [Act.put, pA0, pA1, pA2]
            refine tk ?_ 15 (some 155) rfl rfl ?_ ?_; rotate_left; · (intro w hSw; (try dsimp only at hSw); go_simp <;> with_reducible rfl)
            try simp only [Act.put, pA0, pA1, pA2]
            refine tk ?_ 16 (some 156) rfl rfl ?_ ?_; rotate_left; · (intro w hSw; (try dsimp only at hSw); go_simp <;> with_reducible rfl)
            try simp only [Act.put, pA0, pA1, pA2]
            refine tk ?_ 17 (some 157) rfl rfl ?_ ?_; rotate_left; · (intro w hSw; (try dsimp only at hSw); go_simp <;> with_reducible rfl)
            try simp only [Act.put, pA0, pA1, pA2]
            refine tk ?_ 18 (some 158) rfl rfl ?_ ?_; rotate_left; · (intro w hSw; (try dsimp only at hSw); go_simp <;> with_reducible rfl)
            try simp only [Act.put, pA0, pA1, pA2]
            refine tk ?_ 19 (some 159) rfl rfl ?_ ?_; rotate_left; · (intro w hSw; (try dsimp only at hSw); go_simp <;> with_reducible rfl)
            try simp only [Act.put, pA0, pA1, pA2]
            refine tk ?_ 20 (some 24) rfl rfl ?_ ?_; rotate_left; · (intro w hSw; (try dsimp only at hSw); go_simp <;> with_reducible rfl)
            try simp only [Act.put, pA0, pA1, pA2]
            refine tk ?_ 21 (some 25) rfl rfl ?_ ?_; rotate_left; · (intro w hSw; (try dsimp only at hSw); go_simp <;> with_reducible rfl)
            try simp only [Act.put, pA0, pA1, pA2]
            refine wpAnyH_done (by kernel_rfl) ?_ _
            clear hHeld cn0 cn1 HC01
            by_cases hij : i0 = i1
            · have hx := HX01.out hij.symm
              rw [if_pos hij] at HCA
              rw [if_pos hij.symm] at HCB
              subst hx
              have hxx : (x0.toList == x0.toList) = true := by simp
              clear HSU HSU2 HSURE HINJ HX01
              go_wp2_with fail
              refine (HCA.out X HOP.out).mono ?_; rintro e w7 ⟨rfl, b7⟩
              have HOP := hid (HOP.out.below b7)
              clear b7 HCA
              go_wp2_with fail
              refine (HCB.out w7 HOP.out).mono ?_; rintro e w8 ⟨rfl, b8⟩
              have HOP := hid (HOP.out.below b8)
              have HAW := hid (awakeG w8 (HEN.out.keep HOP.out.low) (HT.out.below HOP.out.low))
              clear b8 HCB
              go_wp2_with fail
              refine (HAW.out).mono ?_; rintro e w9 ⟨rfl, b9⟩
              have HB9 := hid (below_call HOP.out.low b9 HOP.out.low.size)
              clear b9
              go_wp2
              go_ret
              exact ⟨rfl, HB9.out⟩
            · rw [if_neg hij] at HCA
              rw [if_neg (fun e => hij e.symm)] at HCB
              have hxx : (x0.toList == x1.toList) = false := by rw [beq_eq_false_iff_ne]; exact fun e => hij (HINJ.out e)
              obtain ⟨f1, f2, f3, f4⟩ := HSU.out hij
              obtain ⟨g1, g2, g3, g4⟩ := HSU2.out (fun e => hij e.symm)
              obtain ⟨cp, hcp⟩ : ∃ cp, cp = chaN n (bitsOf s.above) i0 i1 := ⟨_, rfl⟩
              obtain ⟨cq, hcq⟩ : ∃ cq, cq = chaN n (bitsOf s.above) i1 i0 := ⟨_, rfl⟩
              rw [← hcp] at HCA HSURE f1 f2 f3 f4
              rw [← hcq] at HCB g1 g2 g3 f4
              clear hcp hcq g4 HSU HSU2 HX01 HINJ
              obtain ⟨p0, p1⟩ := cp
              obtain ⟨q0, q1⟩ := cq
              simp only at f1 f2 f3 f4 g1 g2 g3 HCA HCB
              have HF0 := hid fun W (hW : Below w.heap.size w W) => fractionF p0 p1 f3 f2 W (HEN.out.keep hW)
              have HF1 := hid fun W (hW : Below w.heap.size w W) => fractionF q0 q1 g3 g2 W (HEN.out.keep hW)
              generalize chaT p0 p1 = t0 at *
              generalize chaT q0 q1 = t1 at *
              have HNUM := hid (And.intro f1 (And.intro f2 (And.intro f3 (And.intro f4 (And.intro g1 (And.intro g2 g3))))))
              clear f1 f2 f3 f4 g1 g2 g3
              go_wp2_with fail
              refine (HCA.out X HOP.out).mono ?_; rintro e w7 ⟨rfl, b7⟩
              have HOP := hid (HOP.out.below b7); have HC := hid (HC.out.below b7)
              clear b7 HCA ca1 ca2 ca3
              go_wp2_with fail
              refine (HCB.out w7 HOP.out).mono ?_; rintro e w8 ⟨rfl, b8⟩
              have HOP := hid (HOP.out.below b8); have HC := hid (HC.out.below b8)
              clear b8 HCB cb1 cb2 cb3
              go_wp2_with fail
              refine (HF0.out w8 HOP.out.low).mono ?_; rintro e w9 ⟨rfl, b9⟩
              have HOP := hid (HOP.out.below b9); have HC := hid (HC.out.below b9)
              clear b9 HF0 hxx
              go_wp2_with fail
              refine (HF1.out w9 HOP.out.low).mono ?_; rintro e w10 ⟨rfl, b10⟩
              have HOP := hid (HOP.out.below b10); have HC := hid (HC.out.below b10)
              clear b10 HF1
              go_wp2_with fail
              have bb := ((Below.refl w10.heap.size w10).alloc (Nat.le_refl _) (.cells #[.int .i64 (p0 : Nat), .int .i64 (p1 : Nat)] 31)).alloc (by simp) (.cells #[.int .i64 (q0 : Nat), .int .i64 (q1 : Nat)] 31)
              have HOP := hid (HOP.out.below bb); have HC := hid (HC.out.below bb)
              have HB0 := hid ((Blk.new w10 31 #[.int .i64 (p0 : Nat), .int .i64 (p1 : Nat)]).alloc (.cells #[.int .i64 (q0 : Nat), .int .i64 (q1 : Nat)] 31))
              have HB1 := hid (Blk.new_at (w10.alloc (.cells #[.int .i64 (p0 : Nat), .int .i64 (p1 : Nat)] 31)) 31 #[.int .i64 (q0 : Nat), .int .i64 (q1 : Nat)] (n := w10.heap.size + 1) (by simp))
              clear bb
              generalize ((w10.alloc (.cells #[.int .i64 (p0 : Nat), .int .i64 (p1 : Nat)] 31)).alloc (.cells #[.int .i64 (q0 : Nat), .int .i64 (q1 : Nat)] 31)) = V3 at *
              have HPF := hid (prsF P Q P.length qc V3 (SlP.of_own HC.out.pr) (by have := HPK.out; omega) HPZ.out)
              refine (HPF.out).mono ?_; rintro e w11 ⟨O, oc, rfl, ho, b11⟩
              have HOP := hid (HOP.out.below b11)
              have HB0 := hid (HB0.out.keep b11); have HB1 := hid (HB1.out.keep b11)
              have HIX := hid (strIdxE O P.length oc (P.map jnP) (x0 ++ ⟨#[32]⟩ ++ x1) w11 (Sl.of_own ho))
              have hsure := HSURE.out
              unfold jnP at hsure
              simp only at hsure
              have hjn : (P.map fun p => p.1 ++ ⟨#[32]⟩ ++ p.2) = P.map jnP := rfl
              rw [hjn] at hsure
              have HSURE := hid hsure
              clear HPF ho b11 hsure hjn
              generalize idxZ (P.map jnP) (x0 ++ ⟨#[32]⟩ ++ x1) = z at *
              obtain ⟨f1, f2, f3, f4, g1, g2, g3⟩ := HNUM.out
              have p0c := HB0.out.cell 0
              have p1c := HB0.out.cell 1
              have q0c := HB1.out.cell 0
              have q1c := HB1.out.cell 1
              simp only [List.getElem?_toArray, List.getElem?_cons_zero, List.getElem?_cons_succ] at p0c p1c q0c q1c
              have HAW := hid (awakeG w11 (HEN.out.keep HOP.out.low) (HT.out.below HOP.out.low))
              by_cases hz : 0 ≤ z
              · have he := HSURE.out hz
                simp only [Prod.mk.injEq] at he
                obtain ⟨rfl, rfl⟩ := he
                have hq0 : q0 = 0 := zero_of f4
                subst hq0
                have w1 : wrap64 (q1 : Int) = (q1 : Int) := wr_nat (Nat.le_trans g2 (by decide))
                have d1 : decide ((0 : Int) < (q1 : Int)) = true := pos_c g1
                have d3 : decide (0 < q1) = true := decide_eq_true g1
                have hzd : decide (0 ≤ z) = true := decide_eq_true hz
                clear hz HSURE f1 f2 f3 f4 g1 g2 g3
                have e11 := eq11 w11
                simp only [Int.natCast_one, Int.natCast_zero] at p0c p1c q0c
                go_wp2_with fail
                refine (HIX.out).mono ?_; rintro e w12 ⟨rfl, rfl⟩
                go_wp2_with fail
                refine (HAW.out).mono ?_; rintro e w13 ⟨rfl, b13⟩
                have HB13 := hid (below_call HOP.out.low b13 HOP.out.low.size)
                clear b13
                go_wp2
                go_ret
                exact ⟨rfl, HB13.out⟩
              · have hzd : decide (0 ≤ z) = false := decide_eq_false hz
                have a0 : p0 * q1 ≤ 720 * 720 := Nat.mul_le_mul (Nat.le_trans f3 f2) g2
                have a1 : q0 * p1 ≤ 720 * 720 := Nat.mul_le_mul (Nat.le_trans g3 g2) f2
                have a2 : p1 * q1 ≤ 720 * 720 := Nat.mul_le_mul f2 g2
                have m0 : (p0 : Int) * (q1 : Int) = ((p0 * q1 : Nat) : Int) := by rw [Int.natCast_mul]
                have m1 : (q0 : Int) * (p1 : Int) = ((q0 * p1 : Nat) : Int) := by rw [Int.natCast_mul]
                have m2 : (p1 : Int) * (q1 : Int) = ((p1 * q1 : Nat) : Int) := by rw [Int.natCast_mul]
                generalize p0 * q1 = A0 at *
                generalize q0 * p1 = B0 at *
                generalize p1 * q1 = C0 at *
                have n0 : wrap64 ((p0 : Int) * (q1 : Int)) = (A0 : Int) := by rw [m0]; exact wr_nat a0
                have n1 : wrap64 ((q0 : Int) * (p1 : Int)) = (B0 : Int) := by rw [m1]; exact wr_nat a1
                have n2 : wrap64 ((p1 : Int) * (q1 : Int)) = (C0 : Int) := by rw [m2]; exact wr_nat a2
                have n3 : wrap64 ((A0 : Int) + (B0 : Int)) = (C0 : Int) := by rw [← Int.natCast_add, f4]; exact wr_nat a2
                have n4 : wrap64 ((p0 : Int) * (q1 : Int) + (q0 : Int) * (p1 : Int)) = (C0 : Int) := by rw [m0, m1]; exact n3
                have d0 : decide ((0 : Int) < (p1 : Int)) = true := pos_c f1
                have d1 : decide ((0 : Int) < (q1 : Int)) = true := pos_c g1
                have d2 : decide (0 < p1) = true := decide_eq_true f1
                have d3 : decide (0 < q1) = true := decide_eq_true g1
                clear m0 m1 m2 a0 a1 a2 f1 f2 f3 f4 g1 g2 g3
                clear hz HSURE
                go_wp2_with fail
                refine (HIX.out).mono ?_; rintro e w12 ⟨rfl, rfl⟩
                go_wp2_with fail
                refine (HAW.out).mono ?_; rintro e w13 ⟨rfl, b13⟩
                have HB13 := hid (below_call HOP.out.low b13 HOP.out.low.size)
                clear b13
                go_wp2
                go_ret
                exact ⟨rfl, HB13.out⟩
end Go.Proofs.YtnibidmlkbcfkaaGreatDoor
