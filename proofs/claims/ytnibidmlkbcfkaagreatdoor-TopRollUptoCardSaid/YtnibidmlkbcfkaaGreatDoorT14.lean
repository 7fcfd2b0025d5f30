/- Texts of this proof, one behind the other; each says its condition at its head. -/
import Derived.Test.YtnibidmlkbcfkaaGreatDoorT13
import Derived.Deep.AppendLies
namespace Go.Proofs.YtnibidmlkbcfkaaGreatDoor
/- A state of the call's own: its lists written anew; append and where the new row lies; enter on all its roads. No condition. -/
section
open Go.RowKit Go.Maps
/-- Behind an append of one element onto a row of the call's own: the new row is the old one's block, or a block made now. -/
theorem push1L {P : Program} {ops : Array Oper} {rest : List Oper} {o : Oper} {a : Act} {Q : Exit → Act → World → Prop} {t e : TypeId} {size bytes : Nat} {z : Value}
 (T : TS P t e size bytes z) (w : World) (cs : Array Value) (base n : Nat) (v : Value) (xs : List Value) (hown : w.ownsRow base e size v n xs)
 (s x : Operand) (K : Nat) (hK : w.heap.size = K) (hgd : o.guard = none) (ho : o.op = .call { callee := .builtin .append, args := #[s, x], argTypes := #[t, t] })
 (hs : a.eval s = v) (hx : a.eval x = .slice (some ⟨K, 0, none⟩) 1 1) (hcs : cs.size = size) (h1 : ∀ u ∈ cs.toList, u.oneCell' = true)
 (hn : (n + 1) * bytes ≤ 140737488355328) (hn2 : n < 1000000000000) (hb : base ≤ w.heap.size)
 (h : ∀ v' w', w'.ownsRow base e size v' (n + 1) (xs ++ cs.toList) → w.grownBy w' v.ownBlock → (v'.ownBlock = v.ownBlock ∨ ∀ g, v'.ownBlock = some g → w.heap.size ≤ g) → wpList P ops Q rest (a.put o.dst v') w') :
 wpList P ops Q (o :: rest) a (w.alloc (.cells cs e)) := by
 subst hK
 obtain ⟨i, hi, hz0, hz1, hz2⟩ := info_parts T.inf
 refine wpList_append_lies _ hgd s x t ho base e i z size bytes T.und hi hz0 hz1 hz2 T.zc T.sz v n xs hs (hown.alloc _) _ 1 1 cs.toList hx (by simpa using hcs) (cells_new _ _ _) h1
  (by omega) (by unfold maxLen; omega) hn (by simp; omega) (w.heap.size + 1) (by simp) fun g cap w' a1 a2 a3 _ => h _ _ a1 ?_ ?_
 · exact ⟨a2.os, a2.tape, a2.output, by have := a2.size; simp at this; omega, fun k hk hne => (a2.block k (by simp; omega) hne).trans (heap_alloc_old w _ hk)⟩
 · rcases a3 with h3 | h3
   · left; rw [h3]; rfl
   · right
     intro g' hg'
     simp [Value.ownBlock] at hg'
     omega
theorem grown_refl (w : World) (r : Option Nat) : w.grownBy w r := ⟨rfl, rfl, rfl, Nat.le_refl _, fun _ _ _ => rfl⟩
theorem ap_new {X : World} {B n size : Nat} {e : TypeId} {m m' p : Value} {xs : List Value} (hp : X.ownsRow B e size p n xs) (hap : ApV m p) (hpa : ApV p m) (hn : m'.ownBlock = m.ownBlock ∨ ∀ g, m'.ownBlock = some g → X.heap.size ≤ g) : ApV m' p ∧ ApV p m' := by
 rcases hn with h | h
 · unfold ApV at *
   rw [h]
   exact ⟨hap, hpa⟩
 · unfold ApV
   cases hv : m'.ownBlock with
   | none =>
    refine ⟨.inl rfl, ?_⟩
    cases hq : p.ownBlock with
    | none => exact .inl rfl
    | some q => right; intro e; cases e
   | some g =>
    have h1 := h g hv
    cases hq : p.ownBlock with
    | none => exact ⟨.inr (fun e => by cases e), .inl rfl⟩
    | some q =>
     have h2 := (hp.lt q hq).2
     exact ⟨.inr (fun e => by cases e; omega), .inr (fun e => by cases e; omega)⟩
section
variable {X W : World} {B b : Nat} {m u p t e v' : Value} {s : Bk}
theorem StO.putMed {l : List ByteArray} (h : StO X B b m u p t e s) (hg : X.grownBy W m.ownBlock) (ho : W.ownsRow B 9 1 v' l.length (strV l)) (hn : v'.ownBlock = m.ownBlock ∨ ∀ g, v'.ownBlock = some g → X.heap.size ≤ g) :
 Blk W b 149 (stV m u p t e s) ∧ StO (W.setCell ⟨b, 0, none⟩ v') B b v' u p t e { s with medals := l } := by
 have hb := h.blk.grown hg (own_ne_blk h.med h.blk (by decide))
 have ap := ap_new h.pla h.mp h.pm hn
 exact ⟨hb, hb.set 0 v', own_grown ho hb (by decide) (setGrown W _ v'), own_grown (h.abv.kept hg (own_apart2 h.abv h.med (by decide))) hb (by decide) (setGrown W _ v'), own_grown (h.pla.kept hg h.pm) hb (by decide) (setGrown W _ v'), own_grown (h.bea.kept hg (own_apart2 h.bea h.med (by decide))) hb (by decide) (setGrown W _ v'), own_grown (h.bet.kept hg (own_apart2 h.bet h.med (by decide))) hb (by decide) (setGrown W _ v'), h.low, ap.1, ap.2, h.ut, h.tu⟩
theorem StO.putAbv {l : List Int} (h : StO X B b m u p t e s) (hg : X.grownBy W u.ownBlock) (ho : W.ownsRow B 3 1 v' l.length (intV l)) (hn : v'.ownBlock = u.ownBlock ∨ ∀ g, v'.ownBlock = some g → X.heap.size ≤ g) :
 Blk W b 149 (stV m u p t e s) ∧ StO (W.setCell ⟨b, 1, none⟩ v') B b m v' p t e { s with above := l } := by
 have hb := h.blk.grown hg (own_ne_blk h.abv h.blk (by decide))
 have ap := ap_new h.bea h.ut h.tu hn
 exact ⟨hb, hb.set 1 v', own_grown (h.med.kept hg (own_apart2 h.med h.abv (by decide))) hb (by decide) (setGrown W _ v'), own_grown ho hb (by decide) (setGrown W _ v'), own_grown (h.pla.kept hg (own_apart2 h.pla h.abv (by decide))) hb (by decide) (setGrown W _ v'), own_grown (h.bea.kept hg h.tu) hb (by decide) (setGrown W _ v'), own_grown (h.bet.kept hg (own_apart2 h.bet h.abv (by decide))) hb (by decide) (setGrown W _ v'), h.low, h.mp, h.pm, ap.1, ap.2⟩
theorem StO.putPla {l : List ByteArray} (h : StO X B b m u p t e s) (hg : X.grownBy W p.ownBlock) (ho : W.ownsRow B 9 1 v' l.length (strV l)) (hn : v'.ownBlock = p.ownBlock ∨ ∀ g, v'.ownBlock = some g → X.heap.size ≤ g) :
 Blk W b 149 (stV m u p t e s) ∧ StO (W.setCell ⟨b, 2, none⟩ v') B b m u v' t e { s with players := l } := by
 have hb := h.blk.grown hg (own_ne_blk h.pla h.blk (by decide))
 have ap := ap_new h.med h.pm h.mp hn
 exact ⟨hb, hb.set 2 v', own_grown (h.med.kept hg h.mp) hb (by decide) (setGrown W _ v'), own_grown (h.abv.kept hg (own_apart2 h.abv h.pla (by decide))) hb (by decide) (setGrown W _ v'), own_grown ho hb (by decide) (setGrown W _ v'), own_grown (h.bea.kept hg (own_apart2 h.bea h.pla (by decide))) hb (by decide) (setGrown W _ v'), own_grown (h.bet.kept hg (own_apart2 h.bet h.pla (by decide))) hb (by decide) (setGrown W _ v'), h.low, ap.2, ap.1, h.ut, h.tu⟩
theorem StO.putBea {l : List Int} (h : StO X B b m u p t e s) (hg : X.grownBy W t.ownBlock) (ho : W.ownsRow B 3 1 v' l.length (intV l)) (hn : v'.ownBlock = t.ownBlock ∨ ∀ g, v'.ownBlock = some g → X.heap.size ≤ g) :
 Blk W b 149 (stV m u p t e s) ∧ StO (W.setCell ⟨b, 3, none⟩ v') B b m u p v' e { s with beats := l } := by
 have hb := h.blk.grown hg (own_ne_blk h.bea h.blk (by decide))
 have ap := ap_new h.abv h.tu h.ut hn
 exact ⟨hb, hb.set 3 v', own_grown (h.med.kept hg (own_apart2 h.med h.bea (by decide))) hb (by decide) (setGrown W _ v'), own_grown (h.abv.kept hg h.ut) hb (by decide) (setGrown W _ v'), own_grown (h.pla.kept hg (own_apart2 h.pla h.bea (by decide))) hb (by decide) (setGrown W _ v'), own_grown ho hb (by decide) (setGrown W _ v'), own_grown (h.bet.kept hg (own_apart2 h.bet h.bea (by decide))) hb (by decide) (setGrown W _ v'), h.low, h.mp, h.pm, ap.2, ap.1⟩
theorem StO.putBet {l : List (Int × Int)} (h : StO X B b m u p t e s) (hg : X.grownBy W e.ownBlock) (ho : W.ownsRow B 182 2 v' l.length (flat l)) :
 Blk W b 149 (stV m u p t e s) ∧ StO (W.setCell ⟨b, 9, none⟩ v') B b m u p t v' { s with bets := l } := by
 have hb := h.blk.grown hg (own_ne_blk h.bet h.blk (by decide))
 exact ⟨hb, hb.set 9 v', own_grown (h.med.kept hg (own_apart2 h.med h.bet (by decide))) hb (by decide) (setGrown W _ v'), own_grown (h.abv.kept hg (own_apart2 h.abv h.bet (by decide))) hb (by decide) (setGrown W _ v'), own_grown (h.pla.kept hg (own_apart2 h.pla h.bet (by decide))) hb (by decide) (setGrown W _ v'), own_grown (h.bea.kept hg (own_apart2 h.bea h.bet (by decide))) hb (by decide) (setGrown W _ v'), own_grown ho hb (by decide) (setGrown W _ v'), h.low, h.mp, h.pm, h.ut, h.tu⟩
end
instance memDec (x : ByteArray) (l : List ByteArray) : Decidable (x ∈ l) := decidable_of_iff (l.any (fun y => decide (y = x)) = true) (by simp)
/-- A name added to a list of so many names at most; and the answer's number. -/
def enterL (l : List ByteArray) (x : ByteArray) (most : Nat) : List ByteArray × Nat := if x ∈ l then (l, 5) else if l.length = most then (l, 7) else (l ++ [x], 0)
set_option maxRecDepth 100000 in
set_option maxHeartbeats 1000000 in
theorem enterAny (B : Nat) (v : Value) (l : List ByteArray) (x : ByteArray) (most : Nat) (w : World) (hB : B ≤ w.heap.size) (ho : w.ownsRow B 9 1 v l.length (strV l)) (hl : l.length ≤ most) (hm : most ≤ 1000) :
 Calls Tryz.prog 161 #[v, .string x, .int .i64 (most : Nat)] w fun r w' => ∃ v', r = .returned (.tuple #[v', .int .i64 ((enterL l x most).2 : Nat)]) ∧ w'.ownsRow B 9 1 v' (enterL l x most).1.length (strV (enterL l x most).1) ∧ w.grownBy w' v.ownBlock ∧ (v'.ownBlock = v.ownBlock ∨ ∀ g, v'.ownBlock = some g → w.heap.size ≤ g) := by
 obtain ⟨A, c, rfl⟩ := own_form ho
 obtain ⟨q, hq⟩ : ∃ q : Bool, (q = true ↔ x ∈ l) := by
  by_cases h : x ∈ l
  · exact ⟨true, by simp [h]⟩
  · exact ⟨false, by simp [h]⟩
 have HH := hid (strHas A l.length c l x q w (Sl.of_own ho) hq)
 have HO := hid ho
 cases q with
 | true =>
  have HE := hid (show enterL l x most = (l, 5) by unfold enterL; rw [if_pos (hq.1 rfl)])
  clear ho hq
  go_enter Tryz.func161, Tryz.ntmps161
  go_wp2_with fail
  refine (HH.out).mono ?_; rintro r w' ⟨rfl, rfl⟩
  go_wp2
  go_ret2
  rw [HE.out]
  exact ⟨_, rfl, HO.out, grown_refl _ _, .inl rfl⟩
 | false =>
  have hno : x ∉ l := fun h => by have := hq.2 h; cases this
  by_cases hfull : l.length = most
  · have HE := hid (show enterL l x most = (l, 7) by unfold enterL; rw [if_neg hno, if_pos hfull])
    subst hfull
    clear ho hq hno
    go_enter Tryz.func161, Tryz.ntmps161
    go_wp2_with fail
    refine (HH.out).mono ?_; rintro r w' ⟨rfl, rfl⟩
    go_wp2
    go_ret2
    rw [HE.out]
    exact ⟨_, rfl, HO.out, grown_refl _ _, .inl rfl⟩
  · have HE := hid (show enterL l x most = (l ++ [x], 0) by unfold enterL; rw [if_neg hno, if_neg hfull])
    have q1 : ((l.length : Int) == (most : Int)) = false := by rw [beq_eq_false_iff_ne]; omega
    have q2 : (l.length == most) = false := by rw [beq_eq_false_iff_ne]; omega
    have q3 : decide (l.length = most) = false := decide_eq_false (by omega)
    clear ho hq hno
    go_enter Tryz.func161, Tryz.ntmps161
    go_wp2_with fail
    refine (HH.out).mono ?_; rintro r w' ⟨rfl, rfl⟩
    go_wp2_with (at_builtin; refine push1L TS22 w #[.string x] B _ _ _ HO.out _ _ w.heap.size rfl rfl rfl rfl rfl rfl (by simp [Value.oneCell']) (by omega) (by omega) hB ?_; intro v1 w8 hown1 hgr hap)
    have HO8 := hid hown1
    have HG := hid hgr
    have HAP := hid hap
    obtain ⟨A8, c8, rfl⟩ := own_form hown1
    clear hown1 hgr hap
    go_wp2
    go_ret2
    rw [HE.out]
    refine ⟨_, rfl, ?_, HG.out, HAP.out⟩
    simp only [List.length_append, List.length_singleton]
    unfold strV at *
    rw [List.map_append]
    exact HO8.out
end
/- Walk of medal at any state of a call's own. Condition: the line's name lies below it. -/
section
open Go.RowKit Go.Maps
/-- medal on a mint's books; and the answer's number. -/
def medalL (s : Bk) (x : ByteArray) : Bk × Nat :=
 if (enterL s.medals x 6).2 = 0 then ({ s with medals := (enterL s.medals x 6).1, above := s.above ++ [0] }, 0) else (s, (enterL s.medals x 6).2)
theorem enterL_err {l : List ByteArray} {x : ByteArray} {k : Nat} (h : (enterL l x k).2 ≠ 0) : (enterL l x k).1 = l := by
 unfold enterL at *
 split
 · rfl
 · split
   · rfl
   · rename_i h1 h2
     rw [if_neg h1, if_neg h2] at h
     exact absurd rfl h
set_option maxRecDepth 100000 in
set_option maxHeartbeats 4000000 in
theorem medalAny (w : World) (B b : Nat) (m u p t e : Value) (s : Bk) (x : ByteArray) (A : Option Addr) (n c : Nat) (ln : Value) (h : StO w B b m u p t e s) (hsm : BkS s) (hs : Sl w A n c [.string x]) (hln : ln = .slice none 0 0 ∨ ∃ a k d, ln = .slice a k d) (hA : ∀ a, A = some a → a.block < B) :
 Calls Tryz.prog 120 #[.pointer (some ⟨b, 0, none⟩), .agg #[.slice A n c, ln]] w fun r w' => ∃ m' u', r = .returned (.int .i64 ((medalL s x).2 : Nat)) ∧ StO w' B b m' u' p t e (medalL s x).1 ∧ Below B w w' := by
 obtain rfl : n = 1 := by have := hs.len; simp at this; exact this.symm
 obtain ⟨ab, ao, y, rfl, lb, e1, ca⟩ := hs.at (k := 0) (by omega)
 simp only [List.getElem?_cons_zero, Option.some.injEq, Nat.add_zero] at e1 ca
 subst e1
 obtain ⟨la, lk, ld, rfl⟩ : ∃ a k d, ln = .slice a k d := by
  rcases hln with h | h
  · exact ⟨_, _, _, h⟩
  · exact h
 have hab : ab < B := hA _ rfl
 have hBw : B ≤ w.heap.size := by have := h.low; have := h.blk.lt; omega
 have HS := hid h
 have HSM := hid hsm
 have HAB := hid hab
 have HX := hid ((Below.refl w.heap.size w).alloc (Nat.le_refl _) (.cells #[.slice (some ⟨ab, ao, none⟩) 1 c, .slice la lk ld] 124))
 have HBX := hid (Blk.new w 124 #[.slice (some ⟨ab, ao, none⟩) 1 c, .slice la lk ld])
 have HS := hid (HS.out.below HX.out)
 have HNE := hid (show ¬ w.heap.size = b from by have := h.blk.lt; omega)
 have HNB := hid (show ¬ ab = b from by have := h.low; omega)
 have HCA := hid (cell_keep HX.out ca)
 have HBW := hid hBw
 clear h hsm hs hln hA lb ca hab hBw
 go_enter Tryz.func120, Tryz.ntmps120
 go_wp2_with fail
 generalize w.alloc (.cells #[.slice (some ⟨ab, ao, none⟩) 1 c, .slice la lk ld] 124) = X at *
 have HX := hid (HX.out.mono HBW.out)
 go_cut [4] from 5 to 19 (fun q wx => q = .int .i64 ((enterL s.medals x 6).2 : Nat) ∧ ∃ v', Hid (StO wx B b v' u p t e { s with medals := (enterL s.medals x 6).1 }) ∧ Hid (Below B w wx))
 case first =>
  refine wp_region_held_drew (S := (fun w' => w'.cell? ⟨w.heap.size, 0, none⟩ = some (.slice (some ⟨ab, ao, none⟩) 1 c) ∧ w'.cell? ⟨ab, ao, none⟩ = some (.string x))) (by kernel_rfl) (by (try dsimp only); (exact ⟨HBX.out.cell 0, HCA.out⟩)) (fun hHeld => ?_)
  have HS := hid (HS.out.below (Below.refl _ X).drew); have HBX := hid HBX.out.drew; have HX := hid HX.out.drew
  have HCA := hid (cell_keep (Below.refl _ X).drew HCA.out)
  generalize X.drew = X1 at *
  obtain ⟨X, rfl⟩ : ∃ Y, Y = X1 := ⟨X1, rfl⟩
  refine tk ?_ 0 (some 6) rfl rfl ?_ ?_; rotate_left; · (intro w hSw; (try dsimp only at hSw); go_simp <;> with_reducible rfl)
  try simp only [Act.put,qA,qB,qC]
  refine tk ?_ 1 (some 7) rfl rfl ?_ ?_; rotate_left; · (intro w hSw; (try dsimp only at hSw); go_simp <;> with_reducible rfl)
  try simp only [Act.put,qA,qB,qC]
  refine tk ?_ 2 (some 8) rfl rfl ?_ ?_; rotate_left; · (intro w hSw; (try dsimp only at hSw); go_simp <;> with_reducible rfl)
  try simp only [Act.put,qA,qB,qC]
  refine tk ?_ 3 (some 9) rfl rfl ?_ ?_; rotate_left; · (intro w hSw; (try dsimp only at hSw); go_simp <;> with_reducible rfl)
  try simp only [Act.put,qA,qB,qC]
  refine tk ?_ 5 (some 11) rfl rfl ?_ ?_; rotate_left; · (intro w hSw; (try dsimp only at hSw); go_simp <;> with_reducible rfl)
  try simp only [Act.put,qA,qB,qC]
  refine tk ?_ 6 (some 12) rfl rfl ?_ ?_; rotate_left; · (intro w hSw; (try dsimp only at hSw); go_simp <;> with_reducible rfl)
  try simp only [Act.put,qA,qB,qC]
  refine tk ?_ 7 (some 13) rfl rfl ?_ ?_; rotate_left; · (intro w hSw; (try dsimp only at hSw); go_simp <;> with_reducible rfl)
  try simp only [Act.put,qA,qB,qC]
  refine tk ?_ 8 (some 14) rfl rfl ?_ ?_; rotate_left; · (intro w hSw; (try dsimp only at hSw); go_simp <;> with_reducible rfl)
  try simp only [Act.put,qA,qB,qC]
  refine st 4 rfl fun K hK => ?_
  have z0 := HS.out.blk.cell 0
  simp only [stV, List.getElem?_toArray, List.getElem?_cons_zero] at z0
  go_simp
  clear z0
  refine hK.out _ _ ?_ (fun hHeld => ?_); · ((try dsimp only); (exact ⟨HBX.out.cell 0, HCA.out⟩))
  clear hK K
  try simp only [Act.put,qA,qB,qC]
  refine st 9 rfl fun K hK => ?_
  go_simp
  refine (enterAny B m s.medals x 6 X (by have := HS.out.low; have := HS.out.blk.lt; omega) HS.out.med HSM.out.1 (by omega)).mono ?_; rintro e' X1 ⟨v', rfl, ho, hg, hn⟩
  obtain ⟨A', c', rfl⟩ := own_form ho
  have HP := hid (HS.out.putMed hg ho hn)
  have HBX := hid (HBX.out.grown hg (own_ne_blk HS.out.med HBX.out (by decide)))
  have HCA := hid (hg.cell HCA.out (by intro e; have := (HS.out.med.lt _ e.symm).1; have := HAB.out; simp at *; omega))
  have HX := hid (HX.out.grown hg (Nat.le_trans (by have := HS.out.low; have := HS.out.blk.lt; omega) (Nat.le_refl _)) (fun k hk => (HS.out.med.lt k hk).1))
  have HLB := hid HS.out.low
  clear hg ho hn HS hHeld
  obtain ⟨X, rfl⟩ : ∃ Y, Y = X1 := ⟨X1, rfl⟩
  refine hK.out _ _ ?_ (fun hHeld => ?_); · ((try dsimp only); (exact ⟨HBX.out.cell 0, HCA.out⟩))
  clear hK K
  try simp only [Act.put,qA,qB,qC]
  refine tk ?_ 10 (some 5) rfl rfl ?_ ?_; rotate_left; · (intro w hSw; (try dsimp only at hSw); go_simp <;> with_reducible rfl)
  try simp only [Act.put,qA,qB,qC]
  refine tk ?_ 11 (some 16) rfl rfl ?_ ?_; rotate_left; · (intro w hSw; (try dsimp only at hSw); go_simp <;> with_reducible rfl)
  try simp only [Act.put,qA,qB,qC]
  refine tk ?_ 12 (some 17) rfl rfl ?_ ?_; rotate_left; · (intro w hSw; (try dsimp only at hSw); go_simp <;> with_reducible rfl)
  try simp only [Act.put,qA,qB,qC]
  refine tk ?_ 13 (some 18) rfl rfl ?_ ?_; rotate_left; · (intro w hSw; (try dsimp only at hSw); go_simp <;> with_reducible rfl)
  try simp only [Act.put,qA,qB,qC]
  refine tk ?_ 14 (some 19) rfl rfl ?_ ?_; rotate_left; · (intro w hSw; (try dsimp only at hSw); go_simp <;> with_reducible rfl)
  try simp only [Act.put,qA,qB,qC]
  refine st 15 rfl fun K hK => ?_
  have z0 := HP.out.1.cell 0
  have f0 := HP.out.1.free 0
  simp only [stV, List.getElem?_toArray, List.getElem?_cons_zero] at z0
  go_simp
  have HS := hid HP.out.2
  have HBX := hid (HBX.out.far (p := ⟨b, 0, none⟩) HNE.out (.slice A' (enterL s.medals x 6).1.length c'))
  have HCA := hid (cell_far X (p := ⟨b, 0, none⟩) (u := .slice A' (enterL s.medals x 6).1.length c') HNB.out HCA.out)
  have HX := hid (HX.out.setCell (p := ⟨b, 0, none⟩) HLB.out (.slice A' (enterL s.medals x 6).1.length c'))
  clear z0 f0 HP hHeld
  generalize X.setCell ⟨b, 0, none⟩ (.slice A' (enterL s.medals x 6).1.length c') = X1 at *
  obtain ⟨X, rfl⟩ : ∃ Y, Y = X1 := ⟨X1, rfl⟩
  refine hK.out _ _ ?_ (fun hHeld => ?_); · ((try dsimp only); (exact ⟨HBX.out.cell 0, HCA.out⟩))
  clear hK K
  try simp only [Act.put,qA,qB,qC]
  refine tk ?_ 16 (some 4) rfl rfl ?_ ?_; rotate_left; · (intro w hSw; (try dsimp only at hSw); go_simp <;> with_reducible rfl)
  try simp only [Act.put,qA,qB,qC]
  refine wpAnyH_done (by kernel_rfl) ?_ _
  go_wp2_with fail
  go_meet
  case rel => exact ⟨rfl, _, HS, HX⟩
 case rest =>
  obtain ⟨rfl, v', HS, HX⟩ := hcut
  by_cases hz : (enterL s.medals x 6).2 = 0
  · have HM := hid (show medalL s x = ({ s with medals := (enterL s.medals x 6).1, above := s.above ++ [0] }, 0) by unfold medalL; rw [if_pos hz])
    rw [hz]
    have z1 := HS.out.blk.cell 1
    simp only [stV, List.getElem?_toArray, List.getElem?_cons_zero, List.getElem?_cons_succ] at z1
    have HLN := hid HSM.out.2.1
    have hln : s.above.length ≤ 6 := HLN.out
    have HU := hid (show wc.ownsRow B 3 1 u s.above.length (intV s.above) from HS.out.abv)
    have HBx := hid (show B ≤ wc.heap.size from by have := HS.out.low; have := HS.out.blk.lt; omega)
    clear hz
    go_wp2_with (at_builtin; refine push1L TI27 wc #[.int .i64 0] B _ _ _ HU.out _ _ wc.heap.size rfl rfl rfl rfl rfl rfl (by simp [Value.oneCell']) (by omega) (by omega) HBx.out ?_; intro v1 w8 hown1 hgr hap; obtain ⟨A8, c8, rfl⟩ := own_form hown1; have HP := hid (HS.out.putAbv (l := s.above ++ [0]) hgr (by simpa [intV] using hown1) hap); have HX8 := hid (HX.out.grown hgr HBx.out (fun k hk => (HS.out.abv.lt k hk).1)); have z8 := HP.out.1.cell 1; have f8 := HP.out.1.free 1; simp only [stV, List.getElem?_toArray, List.getElem?_cons_zero, List.getElem?_cons_succ] at z8; clear hown1 hgr hap)
    go_ret
    rw [HM.out]
    exact ⟨rfl, ⟨_, _, HP.out.2⟩, HX8.out.setCell (p := ⟨b, 1, none⟩) HS.out.low _⟩
  · have HM := hid (show medalL s x = (s, (enterL s.medals x 6).2) by unfold medalL; rw [if_neg hz])
    have HEQ := hid (enterL_err hz)
    have hz2 : ¬ ((enterL s.medals x 6).2 : Int) = 0 := by omega
    obtain ⟨k, hk⟩ : ∃ k, k = (enterL s.medals x 6).2 := ⟨_, rfl⟩
    rw [← hk] at hz2 ⊢
    have HK := hid hk
    clear hz hk
    go_wp2
    go_ret
    have h2 := HS.out
    rw [HEQ.out] at h2
    rw [HM.out, ← HK.out]
    exact ⟨v', u, rfl, h2, HX.out⟩
end
/- Walk of player at any state of a call's own. Condition: the line's name lies below it. -/
section
open Go.RowKit Go.Maps
attribute [local go_sem ↓] shl_p2 shr_v and_shr
/-- player on a mint's books; and the answer's number. -/
def playerL (s : Bk) (x : ByteArray) : Bk × Nat :=
 if (enterL s.players x 8).2 = 0 then ({ s with players := (enterL s.players x 8).1, beats := s.beats.map (fun v => bits .or .i64 v (p2 s.beats.length)) ++ [0] }, 0) else (s, (enterL s.players x 8).2)
section
variable {X : World} {B b g c : Nat} {m u p t e : Value} {s : Bk}
theorem StO.setBea {n : Nat} (h : StO X B b m u p (.slice (some ⟨g, 0, none⟩) n c) e s) {i : Nat} (hi : i < s.beats.length) (y : Int) :
 StO (X.setCell ⟨g, i, none⟩ (.int .i64 y)) B b m u p (.slice (some ⟨g, 0, none⟩) n c) e { s with beats := s.beats.set i y } := by
 have hn : n = s.beats.length := by
  rcases h.bea.2 with ⟨hv, _⟩ | ⟨g', c', cur, hv, _⟩
  · simp at hv
  · simp at hv
    exact hv.2.1
 subst hn
 have hbg : b ≠ g := fun e' => by
  have := blk_ne_own h.blk h.bea (by decide)
  exact this (by simp [Value.ownBlock, e'])
 have hne : ∀ {v : Value} , (v.ownBlock = none ∨ v.ownBlock ≠ (Value.slice (some ⟨g, 0, none⟩) s.beats.length c).ownBlock) → ∀ k, v.ownBlock = some k → k ≠ (⟨g, i, none⟩ : Addr).block := fun hv k hk e' => by
  rcases hv with h1 | h1
  · rw [hk] at h1; cases h1
  · exact h1 (by rw [hk, e']; rfl)
 have hb2 : (X.setCell ⟨g, i, none⟩ (.int .i64 y)).ownsRow B 3 1 (.slice (some ⟨g, 0, none⟩) s.beats.length c) (s.beats.set i y).length (intV (s.beats.set i y)) := by
  have := own_set h.bea (i := i) (.int .i64 y) (by simpa [intV] using hi)
  rw [List.length_set]
  unfold intV at *
  rw [List.map_set]
  exact this
 exact ⟨h.blk.far (p := ⟨g, i, none⟩) hbg _, own_other h.med _ _ (hne (own_apart2 h.med h.bea (by decide))), own_other h.abv _ _ (hne h.ut), own_other h.pla _ _ (hne (own_apart2 h.pla h.bea (by decide))), hb2, own_other h.bet _ _ (hne (own_apart2 h.bet h.bea (by decide))), h.low, h.mp, h.pm, h.ut, h.tu⟩
theorem StO.beaAt (h : StO X B b m u p t e s) {i : Nat} (hi : i < s.beats.length) : ∃ g c, t = .slice (some ⟨g, 0, none⟩) s.beats.length c ∧ X.cell? ⟨g, i, none⟩ = some (.int .i64 (s.beats[i]'hi)) ∧ X.frozen? ⟨g, i, none⟩ = false ∧ B ≤ g ∧ g ≠ b ∧ s.beats.length ≤ c ∧ c ≤ maxLen := by
 rcases h.bea.2 with ⟨_, h0⟩ | ⟨g, c, cur, rfl, hg, _⟩
 · omega
 · refine ⟨g, c, rfl, own_at h.bea (by unfold intV; rw [List.getElem?_map, List.getElem?_eq_getElem hi]; rfl), own_free h.bea i, hg, fun e' => ?_, own_cap h.bea⟩
   exact blk_ne_own h.blk h.bea (by decide) (by simp [Value.ownBlock, e'])
end
theorem own_freeV {w : World} {B : Nat} {e : TypeId} {size n g : Nat} {v : Value} {xs : List Value} (h : w.ownsRow B e size v n xs) (hv : v.ownBlock = some g) (i : Nat) : w.frozen? ⟨g, i, none⟩ = false := by
 obtain ⟨cs, hc⟩ := own_kind2 h g hv
 simp [World.frozen?, hc]
theorem step_map (f : Int → Int) (l k : List Int) (d : Nat) (hd : d < l.length) (hk : k = (l.take d).map f ++ l.drop d) (hl : d < k.length) : k.set d (f (k[d]'hl)) = (l.take (d + 1)).map f ++ l.drop (d + 1) := by
 subst hk
 have e0 : ((l.take d).map f).length = d := by rw [List.length_map, List.length_take]; omega
 have e1 : ((l.take d).map f ++ l.drop d)[d]'hl = l[d] := by
  rw [List.getElem_append_right (by omega), List.getElem_drop]
  simp only [e0, Nat.sub_self, Nat.add_zero]
 rw [e1, List.set_append_right _ _ (by omega), e0, Nat.sub_self, List.drop_eq_getElem_cons hd, List.set_cons_zero, List.take_add_one, List.getElem?_eq_getElem hd, List.map_append, List.append_assoc]
 rfl
set_option maxRecDepth 100000 in
set_option maxHeartbeats 4000000 in
theorem playerAny (w : World) (B b : Nat) (m u p t e : Value) (s : Bk) (x : ByteArray) (A : Option Addr) (n c : Nat) (ln : Value) (h : StO w B b m u p t e s) (hsm : BkS s) (hs : Sl w A n c [.string x]) (hln : ln = .slice none 0 0 ∨ ∃ a k d, ln = .slice a k d) (hA : ∀ a, A = some a → a.block < B) :
 Calls Tryz.prog 122 #[.pointer (some ⟨b, 0, none⟩), .agg #[.slice A n c, ln]] w fun r w' => ∃ p' t', r = .returned (.int .i64 ((playerL s x).2 : Nat)) ∧ StO w' B b m u p' t' e (playerL s x).1 ∧ Below B w w' := by
 obtain rfl : n = 1 := by have := hs.len; simp at this; exact this.symm
 obtain ⟨ab, ao, y, rfl, lb, e1, ca⟩ := hs.at (k := 0) (by omega)
 simp only [List.getElem?_cons_zero, Option.some.injEq, Nat.add_zero] at e1 ca
 subst e1
 obtain ⟨la, lk, ld, rfl⟩ : ∃ a k d, ln = .slice a k d := by
  rcases hln with h | h
  · exact ⟨_, _, _, h⟩
  · exact h
 have hab : ab < B := hA _ rfl
 have hBw : B ≤ w.heap.size := by have := h.low; have := h.blk.lt; omega
 have HS := hid h
 have HSM := hid hsm
 have HAB := hid hab
 have HX := hid ((Below.refl w.heap.size w).alloc (Nat.le_refl _) (.cells #[.slice (some ⟨ab, ao, none⟩) 1 c, .slice la lk ld] 124))
 have HBX := hid (Blk.new w 124 #[.slice (some ⟨ab, ao, none⟩) 1 c, .slice la lk ld])
 have HS := hid (HS.out.below HX.out)
 have HNE := hid (show ¬ w.heap.size = b from by have := h.blk.lt; omega)
 have HNB := hid (show ¬ ab = b from by have := h.low; omega)
 have HCA := hid (cell_keep HX.out ca)
 have HBW := hid hBw
 clear h hsm hs hln hA lb ca hab hBw
 go_enter Tryz.func122, Tryz.ntmps122
 go_wp2_with fail
 generalize w.alloc (.cells #[.slice (some ⟨ab, ao, none⟩) 1 c, .slice la lk ld] 124) = X at *
 have HX := hid (HX.out.mono HBW.out)
 go_cut [4] from 6 to 20 (fun q wx => q = .int .i64 ((enterL s.players x 8).2 : Nat) ∧ ∃ v', Hid (StO wx B b m u v' t e { s with players := (enterL s.players x 8).1 }) ∧ Hid (Below B w wx))
 case first =>
  refine wp_region_held_drew (S := (fun w' => w'.cell? ⟨w.heap.size, 0, none⟩ = some (.slice (some ⟨ab, ao, none⟩) 1 c) ∧ w'.cell? ⟨ab, ao, none⟩ = some (.string x))) (by kernel_rfl) (by (try dsimp only); (exact ⟨HBX.out.cell 0, HCA.out⟩)) (fun hHeld => ?_)
  have HS := hid (HS.out.below (Below.refl _ X).drew); have HBX := hid HBX.out.drew; have HX := hid HX.out.drew
  have HCA := hid (cell_keep (Below.refl _ X).drew HCA.out)
  generalize X.drew = X1 at *
  obtain ⟨X, rfl⟩ : ∃ Y, Y = X1 := ⟨X1, rfl⟩
  refine tk ?_ 0 (some 7) rfl rfl ?_ ?_; rotate_left; · (intro w hSw; (try dsimp only at hSw); go_simp <;> with_reducible rfl)
  try simp only [Act.put,qA,qB,qC]
  refine tk ?_ 1 (some 8) rfl rfl ?_ ?_; rotate_left; · (intro w hSw; (try dsimp only at hSw); go_simp <;> with_reducible rfl)
  try simp only [Act.put,qA,qB,qC]
  refine tk ?_ 2 (some 9) rfl rfl ?_ ?_; rotate_left; · (intro w hSw; (try dsimp only at hSw); go_simp <;> with_reducible rfl)
  try simp only [Act.put,qA,qB,qC]
  refine tk ?_ 3 (some 10) rfl rfl ?_ ?_; rotate_left; · (intro w hSw; (try dsimp only at hSw); go_simp <;> with_reducible rfl)
  try simp only [Act.put,qA,qB,qC]
  refine tk ?_ 5 (some 12) rfl rfl ?_ ?_; rotate_left; · (intro w hSw; (try dsimp only at hSw); go_simp <;> with_reducible rfl)
  try simp only [Act.put,qA,qB,qC]
  refine tk ?_ 6 (some 13) rfl rfl ?_ ?_; rotate_left; · (intro w hSw; (try dsimp only at hSw); go_simp <;> with_reducible rfl)
  try simp only [Act.put,qA,qB,qC]
  refine tk ?_ 7 (some 14) rfl rfl ?_ ?_; rotate_left; · (intro w hSw; (try dsimp only at hSw); go_simp <;> with_reducible rfl)
  try simp only [Act.put,qA,qB,qC]
  refine tk ?_ 8 (some 15) rfl rfl ?_ ?_; rotate_left; · (intro w hSw; (try dsimp only at hSw); go_simp <;> with_reducible rfl)
  try simp only [Act.put,qA,qB,qC]
  refine st 4 rfl fun K hK => ?_
  have z0 := HS.out.blk.cell 2
  simp only [stV, List.getElem?_toArray, List.getElem?_cons_zero, List.getElem?_cons_succ] at z0
  go_simp
  clear z0
  refine hK.out _ _ ?_ (fun hHeld => ?_); · ((try dsimp only); (exact ⟨HBX.out.cell 0, HCA.out⟩))
  clear hK K
  try simp only [Act.put,qA,qB,qC]
  refine st 9 rfl fun K hK => ?_
  go_simp
  refine (enterAny B p s.players x 8 X (by have := HS.out.low; have := HS.out.blk.lt; omega) HS.out.pla HSM.out.2.2.1 (by omega)).mono ?_; rintro e' X1 ⟨v', rfl, ho, hg, hn⟩
  obtain ⟨A', c', rfl⟩ := own_form ho
  have HP := hid (HS.out.putPla hg ho hn)
  have HBX := hid (HBX.out.grown hg (own_ne_blk HS.out.pla HBX.out (by decide)))
  have HCA := hid (hg.cell HCA.out (by intro e; have := (HS.out.pla.lt _ e.symm).1; have := HAB.out; simp at *; omega))
  have HX := hid (HX.out.grown hg (Nat.le_trans (by have := HS.out.low; have := HS.out.blk.lt; omega) (Nat.le_refl _)) (fun k hk => (HS.out.pla.lt k hk).1))
  have HLB := hid HS.out.low
  clear hg ho hn HS hHeld
  obtain ⟨X, rfl⟩ : ∃ Y, Y = X1 := ⟨X1, rfl⟩
  refine hK.out _ _ ?_ (fun hHeld => ?_); · ((try dsimp only); (exact ⟨HBX.out.cell 0, HCA.out⟩))
  clear hK K
  try simp only [Act.put,qA,qB,qC]
  refine tk ?_ 10 (some 6) rfl rfl ?_ ?_; rotate_left; · (intro w hSw; (try dsimp only at hSw); go_simp <;> with_reducible rfl)
  try simp only [Act.put,qA,qB,qC]
  refine tk ?_ 11 (some 17) rfl rfl ?_ ?_; rotate_left; · (intro w hSw; (try dsimp only at hSw); go_simp <;> with_reducible rfl)
  try simp only [Act.put,qA,qB,qC]
  refine tk ?_ 12 (some 18) rfl rfl ?_ ?_; rotate_left; · (intro w hSw; (try dsimp only at hSw); go_simp <;> with_reducible rfl)
  try simp only [Act.put,qA,qB,qC]
  refine tk ?_ 13 (some 19) rfl rfl ?_ ?_; rotate_left; · (intro w hSw; (try dsimp only at hSw); go_simp <;> with_reducible rfl)
  try simp only [Act.put,qA,qB,qC]
  refine tk ?_ 14 (some 20) rfl rfl ?_ ?_; rotate_left; · (intro w hSw; (try dsimp only at hSw); go_simp <;> with_reducible rfl)
  try simp only [Act.put,qA,qB,qC]
  refine st 15 rfl fun K hK => ?_
  have z0 := HP.out.1.cell 2
  have f0 := HP.out.1.free 2
  simp only [stV, List.getElem?_toArray, List.getElem?_cons_zero, List.getElem?_cons_succ] at z0
  go_simp
  have HS := hid HP.out.2
  have HBX := hid (HBX.out.far (p := ⟨b, 2, none⟩) HNE.out (.slice A' (enterL s.players x 8).1.length c'))
  have HCA := hid (cell_far X (p := ⟨b, 2, none⟩) (u := .slice A' (enterL s.players x 8).1.length c') HNB.out HCA.out)
  have HX := hid (HX.out.setCell (p := ⟨b, 2, none⟩) HLB.out (.slice A' (enterL s.players x 8).1.length c'))
  clear z0 f0 HP hHeld
  generalize X.setCell ⟨b, 2, none⟩ (.slice A' (enterL s.players x 8).1.length c') = X1 at *
  obtain ⟨X, rfl⟩ : ∃ Y, Y = X1 := ⟨X1, rfl⟩
  refine hK.out _ _ ?_ (fun hHeld => ?_); · ((try dsimp only); (exact ⟨HBX.out.cell 0, HCA.out⟩))
  clear hK K
  try simp only [Act.put,qA,qB,qC]
  refine tk ?_ 16 (some 4) rfl rfl ?_ ?_; rotate_left; · (intro w hSw; (try dsimp only at hSw); go_simp <;> with_reducible rfl)
  try simp only [Act.put,qA,qB,qC]
  refine wpAnyH_done (by kernel_rfl) ?_ _
  go_wp2_with fail
  go_meet
  case rel => exact ⟨rfl, _, HS, HX⟩
 case rest =>
  obtain ⟨rfl, v', HS, HX⟩ := hcut
  by_cases hz : (enterL s.players x 8).2 = 0
  · have HM := hid (show playerL s x = ({ s with players := (enterL s.players x 8).1, beats := s.beats.map (fun v => bits .or .i64 v (p2 s.beats.length)) ++ [0] }, 0) by unfold playerL; rw [if_pos hz])
    rw [hz]
    have z3 := HS.out.blk.cell 3
    simp only [stV, List.getElem?_toArray, List.getElem?_cons_zero, List.getElem?_cons_succ] at z3
    have HLN := hid HSM.out.2.2.2.1
    have hbl : s.beats.length ≤ 8 := HLN.out
    obtain ⟨ta, tc, rfl⟩ : ∃ ta tc, t = .slice ta s.beats.length tc := own_form HS.out.bea
    clear hz
    go_wp2_with fail
    clear z3
    go_loopg [28] s.beats.length (fun gk i wr => ∃ (d : Nat), gk + d = s.beats.length ∧ i = .int .i64 d ∧ Hid (StO wr B b m u v' (.slice ta s.beats.length tc) e { s with players := (enterL s.players x 8).1, beats := (s.beats.take d).map (fun v => bits .or .i64 v (p2 s.beats.length)) ++ s.beats.drop d }) ∧ Hid (Below B w wr))
    case atStart => exact ⟨0, by omega, rfl, by simpa using HS, HX⟩
    case round =>
     obtain ⟨d, hd, rfl, HS, HX⟩ := hrel
     have HD := hid hd
     obtain ⟨l', hl'⟩ : ∃ l', l' = (s.beats.take d).map (fun v => bits .or .i64 v (p2 s.beats.length)) ++ s.beats.drop d := ⟨_, rfl⟩
     rw [← hl'] at HS
     have HLE := hid hl'
     by_cases hlt : d < s.beats.length
     · have HLT := hid hlt
       have hdl : d < l'.length := by rw [hl']; simp; omega
       have HDL := hid hdl
       obtain ⟨g, c', ht, hc, hf, hBg, hgb, hlc, hcm⟩ := HS.out.beaAt hdl
       simp only [Value.slice.injEq] at ht
       obtain ⟨rfl, ht2, rfl⟩ := ht
       have HC := hid hc
       have HF := hid hf
       have HGB := hid hgb
       have HG := hid hBg
       obtain ⟨y, hy⟩ : ∃ y, y = l'[d]'hdl := ⟨_, rfl⟩
       rw [← hy] at HC
       have HY := hid hy
       have fit : Fits (s.beats.length : Int) := ⟨by omega, by omega⟩
       have hdt : (d : Int) < s.beats.length := by omega
       clear hd hl' hc hf hgb hlc hcm hBg hy ht2
       obtain ⟨X, rfl⟩ : ∃ Y, Y = wr := ⟨wr, rfl⟩
       go_wp2_with fail
       refine wp_region_held_drew (S := (fun w' => w'.cell? ⟨b, 3, none⟩ = some (.slice (some ⟨g, 0, none⟩) s.beats.length tc))) (by kernel_rfl) (by (try dsimp only); (exact HS.out.blk.cell 3)) (fun hHeld => ?_)
       have HS := hid (HS.out.below (Below.refl _ X).drew); have HX := hid HX.out.drew
       have HC := hid (cell_keep (Below.refl _ X).drew HC.out)
       generalize X.drew = X1 at *
       obtain ⟨X, rfl⟩ : ∃ Y, Y = X1 := ⟨X1, rfl⟩
       refine tk ?_ 0 (some 31) rfl rfl ?_ ?_; rotate_left; · (intro w hSw; (try dsimp only at hSw); go_simp <;> with_reducible rfl)
       try simp only [Act.put,qA,qB,qC]
       refine tk ?_ 1 (some 32) rfl rfl ?_ ?_; rotate_left; · (intro w hSw; (try dsimp only at hSw); go_simp <;> with_reducible rfl)
       try simp only [Act.put,qA,qB,qC]
       refine tk ?_ 2 (some 33) rfl rfl ?_ ?_; rotate_left; · (intro w hSw; (try dsimp only at hSw); go_simp <;> with_reducible rfl)
       try simp only [Act.put,qA,qB,qC]
       refine tk ?_ 3 (some 34) rfl rfl ?_ ?_; rotate_left; · (intro w hSw; (try dsimp only at hSw); go_simp <;> with_reducible rfl)
       try simp only [Act.put,qA,qB,qC]
       refine tk ?_ 4 (some 35) rfl rfl ?_ ?_; rotate_left; · (intro w hSw; (try dsimp only at hSw); go_simp <;> with_reducible rfl)
       try simp only [Act.put,qA,qB,qC]
       refine tk ?_ 5 (some 36) rfl rfl ?_ ?_; rotate_left; · (intro w hSw; (try dsimp only at hSw); go_simp <;> with_reducible rfl)
       try simp only [Act.put,qA,qB,qC]
       refine tk ?_ 7 (some 38) rfl rfl ?_ ?_; rotate_left; · (intro w hSw; (try dsimp only at hSw); go_simp <;> with_reducible rfl)
       try simp only [Act.put,qA,qB,qC]
       refine tk ?_ 8 (some 39) rfl rfl ?_ ?_; rotate_left; · (intro w hSw; (try dsimp only at hSw); go_simp <;> with_reducible rfl)
       try simp only [Act.put,qA,qB,qC]
       refine tk ?_ 9 (some 40) rfl rfl ?_ ?_; rotate_left; · (intro w hSw; (try dsimp only at hSw); go_simp <;> with_reducible rfl)
       try simp only [Act.put,qA,qB,qC]
       refine tk ?_ 10 (some 41) rfl rfl ?_ ?_; rotate_left; · (intro w hSw; (try dsimp only at hSw); go_simp <;> with_reducible rfl)
       try simp only [Act.put,qA,qB,qC]
       refine tk ?_ 11 (some 42) rfl rfl ?_ ?_; rotate_left; · (intro w hSw; (try dsimp only at hSw); go_simp <;> with_reducible rfl)
       try simp only [Act.put,qA,qB,qC]
       refine tk ?_ 12 (some 43) rfl rfl ?_ ?_; rotate_left; · (intro w hSw; (try dsimp only at hSw); go_simp <;> with_reducible rfl)
       try simp only [Act.put,qA,qB,qC]
       refine st 6 rfl fun K hK => ?_
       have z0 := HC.out
       go_simp
       clear z0
       refine hK.out _ _ ?_ (fun hHeld => ?_); · ((try dsimp only); (exact HS.out.blk.cell 3))
       clear hK K
       try simp only [Act.put,qA,qB,qC]
       refine tk ?_ 13 (some 44) rfl rfl ?_ ?_; rotate_left; · (intro w hSw; (try dsimp only at hSw); go_simp <;> with_reducible rfl)
       try simp only [Act.put,qA,qB,qC]
       refine tk ?_ 14 (some 45) rfl rfl ?_ ?_; rotate_left; · (intro w hSw; (try dsimp only at hSw); go_simp <;> with_reducible rfl)
       try simp only [Act.put,qA,qB,qC]
       refine st 15 rfl fun K hK => ?_
       have z0 := HC.out
       have f0 : X.frozen? ⟨g, d, none⟩ = false := own_freeV HS.out.bea rfl d
       go_simp
       have HS := hid (HS.out.setBea HDL.out (bits .or .i64 y (p2 s.beats.length)))
       have HX := hid (HX.out.setCell (p := ⟨g, d, none⟩) HG.out (.int .i64 (bits .or .i64 y (p2 s.beats.length))))
       clear z0 f0 hHeld HC
       generalize X.setCell ⟨g, d, none⟩ (.int .i64 (bits .or .i64 y (p2 s.beats.length))) = X1 at *
       obtain ⟨X, rfl⟩ : ∃ Y, Y = X1 := ⟨X1, rfl⟩
       refine hK.out _ _ ?_ (fun hHeld => ?_); · ((try dsimp only); (exact HS.out.blk.cell 3))
       clear hK K
       try simp only [Act.put,qA,qB,qC]
       refine wpAnyH_done (by kernel_rfl) ?_ _
       go_wp2_with fail
       go_roundg (gk - 1)
       case measure => have := HD.out; have := HLT.out; omega
       case rel => exact ⟨d + 1, by have := HD.out; have := HLT.out; omega, by go_num, by have h2 := HS.out; rw [HY.out, step_map _ s.beats l' d HLT.out HLE.out HDL.out] at h2; exact h2, HX⟩
     · obtain rfl : d = s.beats.length := by have := HLE.out; have := HD.out; omega
       have hl2 : l' = s.beats.map (fun v => bits .or .i64 v (p2 s.beats.length)) := by rw [hl', List.take_length, List.drop_length, List.append_nil]
       have hll : l'.length = s.beats.length := by rw [hl2]; simp
       have HL2 := hid hl2
       have HT := hid (show wr.ownsRow B 3 1 (.slice ta s.beats.length tc) s.beats.length (intV l') from by have h2 : wr.ownsRow B 3 1 (.slice ta s.beats.length tc) l'.length (intV l') := HS.out.bea; rwa [hll] at h2)
       have z3 := HS.out.blk.cell 3
       simp only [stV, List.getElem?_toArray, List.getElem?_cons_zero, List.getElem?_cons_succ] at z3
       have HBx := hid (show B ≤ wr.heap.size from by have := HS.out.low; have := HS.out.blk.lt; omega)
       clear hd hl' hl2 hll hlt
       go_wp2_with (at_builtin; refine push1L TI27 wr #[.int .i64 0] B _ _ _ HT.out _ _ wr.heap.size rfl rfl rfl rfl rfl rfl (by simp [Value.oneCell']) (by omega) (by omega) HBx.out ?_; intro v1 w8 hown1 hgr hap; obtain ⟨A8, c8, rfl⟩ := own_form hown1; have HP := hid (HS.out.putBea (l := l' ++ [0]) hgr (by have hll : l'.length = s.beats.length := (by rw [HL2.out]; simp); simpa [intV, hll] using hown1) hap); have HX8 := hid (HX.out.grown hgr HBx.out (fun k hk => (HS.out.bea.lt k hk).1)); have z8 := HP.out.1.cell 3; have f8 := HP.out.1.free 3; simp only [stV, List.getElem?_toArray, List.getElem?_cons_zero, List.getElem?_cons_succ] at z8; clear hown1 hgr hap)
       go_ret
       rw [HM.out]
       exact ⟨rfl, ⟨_, _, by have h2 := HP.out.2; rw [HL2.out] at h2; exact h2⟩, HX8.out.setCell (p := ⟨b, 3, none⟩) HS.out.low _⟩
  · have HM := hid (show playerL s x = (s, (enterL s.players x 8).2) by unfold playerL; rw [if_neg hz])
    have HEQ := hid (enterL_err hz)
    have hz2 : ¬ ((enterL s.players x 8).2 : Int) = 0 := by omega
    obtain ⟨k, hk⟩ : ∃ k, k = (enterL s.players x 8).2 := ⟨_, rfl⟩
    rw [← hk] at hz2 ⊢
    have HK := hid hk
    clear hz hk
    go_wp2
    go_ret
    have h2 := HS.out
    rw [HEQ.out] at h2
    rw [HM.out, ← HK.out]
    exact ⟨v', t, rfl, h2, HX.out⟩
end
end Go.Proofs.YtnibidmlkbcfkaaGreatDoor
