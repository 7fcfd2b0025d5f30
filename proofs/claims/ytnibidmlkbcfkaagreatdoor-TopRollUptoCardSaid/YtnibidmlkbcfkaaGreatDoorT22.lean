/- Walk of bets' corners. Condition: bets that a table of three worlds takes. -/
import Derived.Test.YtnibidmlkbcfkaaGreatDoorT21
import Derived.Deep.AppendLies
namespace Go.Proofs.YtnibidmlkbcfkaaGreatDoor
open Go.RowKit Go.Maps
attribute [local go_sem ↓] shl_p2 shr_v and_shr
theorem TQ : TS Tryz.prog 333 219 1 24 (.slice none 0 0) := ⟨Tryz.underlying333, by kernel_rfl, rfl, by decide⟩
theorem TL : TS Tryz.prog 288 290 1 24 (.slice none 0 0) := ⟨Tryz.underlying288, by kernel_rfl, rfl, by decide⟩
def rowV (k : Nat) (p : Nat × Nat) : Value := .slice (some ⟨p.1, 0, none⟩) (k + 1) p.2
/-- Rows that are being made. -/
structure QR (w : World) (B : Nat) (v : Value) (k : Nat) (gl : List (Nat × Nat)) (F : Mx) : Prop where
 hd : w.ownsRow B 219 1 v gl.length (gl.map (rowV k))
 row : ∀ i p, gl[i]? = some p → w.ownsRow B 48 2 (rowV k p) (k + 1) (rowC k (F i))
 nod : (gl.map (·.1)).Nodup
section
variable {w w' : World} {B k : Nat} {v : Value} {gl : List (Nat × Nat)} {F : Mx}
theorem QR.below (h : QR w B v k gl F) (hb : Below w.heap.size w w') : QR w' B v k gl F := ⟨own_below h.hd hb, fun i p hp => own_below (h.row i p hp) hb, h.nod⟩
theorem QR.lt (h : QR w B v k gl F) {p : Nat × Nat} (hp : p ∈ gl) : B ≤ p.1 ∧ p.1 < w.heap.size := by
 obtain ⟨i, hi⟩ := List.getElem?_of_mem hp
 exact (h.row i p hi).lt p.1 rfl
theorem QR.push (h : QR w B v k gl F) {p : Nat × Nat} {v1 : Value} (hr : w.ownsRow B 48 2 (rowV k p) (k + 1) (rowC k (F gl.length))) (hnew : ∀ q ∈ gl, q.1 ≠ p.1)
 (ho : w'.ownsRow B 219 1 v1 (gl.length + 1) (gl.map (rowV k) ++ [rowV k p])) (hg : (w.alloc (.cells #[rowV k p] 219)).grownBy w' v.ownBlock) : QR w' B v1 k (gl ++ [p]) F := by
 have key : ∀ {x : Value} {xs : List Value}, w.ownsRow B 48 2 x (k + 1) xs → w'.ownsRow B 48 2 x (k + 1) xs := fun {x xs} hx =>
  World.ownsRow.kept (hx.alloc _) hg (own_apart2 (hx.alloc (.cells #[rowV k p] 219)) (h.hd.alloc _) (by decide))
 refine ⟨by simpa using ho, fun i q hq => ?_, ?_⟩
 · rw [List.getElem?_append] at hq
   split at hq
   · exact key (h.row i q hq)
   · rename_i hi
     have : i = gl.length := by
      have := (List.getElem?_eq_some_iff.1 hq).1
      simp at this
      omega
     subst this
     simp at hq
     subst hq
     exact key hr
 · rw [List.map_append, List.nodup_append]
   refine ⟨h.nod, by simp, fun a ha b hb => ?_⟩
   obtain ⟨q, hq, rfl⟩ := List.mem_map.1 ha
   simp at hb
   subst hb
   exact hnew q hq
theorem QR.mat {hb mc : Nat} (h : QR w B (.slice (some ⟨hb, 0, none⟩) gl.length mc) k gl F) : MatR w B hb mc gl.length k (fun i => (gl.getD i (0, 0)).1) (fun i => (gl.getD i (0, 0)).2) F := by
 have hget : ∀ i, i < gl.length → gl[i]? = some (gl.getD i (0, 0)) := fun i hi => by rw [List.getD_eq_getElem?_getD, List.getElem?_eq_getElem hi]; rfl
 refine ⟨?_, fun i hi => h.row i _ (hget i hi), fun i j hi hj e => ?_⟩
 · have e : (List.range gl.length).map (fun i => Value.slice (some ⟨(gl.getD i (0, 0)).1, 0, none⟩) (k + 1) (gl.getD i (0, 0)).2) = gl.map (rowV k) := by
    apply List.ext_getElem?
    intro i
    rw [List.getElem?_map, List.getElem?_map]
    by_cases hi : i < gl.length
    · rw [List.getElem?_range hi, hget i hi]; rfl
    · rw [List.getElem?_eq_none (by simp; omega), List.getElem?_eq_none (by omega)]; rfl
   rw [e]
   exact h.hd
 · have h1 : (gl.map (·.1))[i]? = some (gl.getD i (0, 0)).1 := by rw [List.getElem?_map, hget i hi]; rfl
   have h2 : (gl.map (·.1))[j]? = some (gl.getD i (0, 0)).1 := by rw [List.getElem?_map, hget j hj, e]; rfl
   exact (List.getElem?_inj (List.getElem?_eq_some_iff.1 h1).1 h.nod).1 (h1.trans h2.symm)
end
/-- Beliefs in memory. -/
def BelR (w : World) (vs : List Value) (bs : List (List Int)) : Prop := vs.length = bs.length ∧ ∀ (i : Nat) v b, vs[i]? = some v → bs[i]? = some b → ∃ g, v = .slice (some ⟨g, 0, none⟩) 3 3 ∧ Blk w g 48 (flat (b.map tw)).toArray ∧ b.length = 3
theorem BelR.below {w w' : World} {vs : List Value} {bs : List (List Int)} (h : BelR w vs bs) (hb : Below w.heap.size w w') : BelR w' vs bs := ⟨h.1, fun i v b h1 h2 => by
 obtain ⟨g, e, hg, hs⟩ := h.2 i v b h1 h2
 exact ⟨g, e, hg.keep hb, hs⟩⟩
theorem BelR.snoc {w : World} {vs : List Value} {bs : List (List Int)} (h : BelR w vs bs) {g : Nat} {b : List Int} (hg : Blk w g 48 (flat (b.map tw)).toArray) (hs : b.length = 3) : BelR w (vs ++ [.slice (some ⟨g, 0, none⟩) 3 3]) (bs ++ [b]) := by
 refine ⟨by simp [h.1], fun i v c h1 h2 => ?_⟩
 rw [List.getElem?_append] at h1 h2
 by_cases hi : i < vs.length
 · rw [if_pos hi] at h1
   rw [if_pos (by have := h.1; omega)] at h2
   exact h.2 i v c h1 h2
 · rw [if_neg hi] at h1
   rw [if_neg (by have := h.1; omega)] at h2
   have e1 := (List.getElem?_eq_some_iff.1 h1).1
   have e2 := (List.getElem?_eq_some_iff.1 h2).1
   simp at e1 e2
   have a1 : i - vs.length = 0 := by omega
   have a2 : i - bs.length = 0 := by omega
   rw [a1] at h1; rw [a2] at h2
   simp at h1 h2
   subst h1 h2
   exact ⟨g, rfl, hg, hs⟩
theorem BelR.grow {w w' : World} {vs : List Value} {bs : List (List Int)} {B n : Nat} {v : Value} {xs : List Value} {u : Value} (h : BelR w vs bs) (ho : w.ownsRow B 290 1 v n xs) (hg : (w.alloc (.cells #[u] 290)).grownBy w' v.ownBlock) : BelR w' vs bs := ⟨h.1, fun i v' b h1 h2 => by
 obtain ⟨g, e, hb, hs⟩ := h.2 i v' b h1 h2
 exact ⟨g, e, (hb.alloc _).grown hg (own_ne_blk ho hb (by decide)), hs⟩⟩
theorem bit_test (s v : Nat) : bitV (s : Nat) (v : Nat) = if s.testBit v = true then 1 else 0 := by
 unfold bitV
 have e : ((s : Int) / 2 ^ (v : Int).toNat % 2) = ((s / 2 ^ v % 2 : Nat) : Int) := by simp
 rw [e]
 have h := Nat.testBit_eq_decide_div_mod_eq (x := s) (i := v)
 rw [h]
 by_cases e2 : s / 2 ^ v % 2 = 1
 · simp [e2]
 · have e3 : s / 2 ^ v % 2 = 0 := by omega
   simp [e3]
set_option maxRecDepth 100000 in
set_option maxHeartbeats 8000000 in
theorem cornersS (A : Option Addr) (n c : Nat) (l : List (Int × Int)) (w : World) (hs : Sl2 w A n c l) (hl : BetOk l) :
 Calls Tryz.prog 204 #[.agg #[.int .i64 3, .slice A n c]] w fun e w' => ∃ O oc vs, e = .returned (.slice O (cornersL l).length oc) ∧ w'.ownsRow w.heap.size 290 1 (.slice O (cornersL l).length oc) (cornersL l).length vs ∧ BelR w' vs (cornersL l) ∧ Below w.heap.size w w' := by
 have HT := hid (Blk.new w 287 #[.int .i64 3, .slice A n c])
 have HB := hid ((Below.refl w.heap.size w).alloc (Nat.le_refl _) (.cells #[.int .i64 3, .slice A n c] 287))
 have HS := hid (hs.below HB.out)
 have HL := hid hs.len
 have HLB := hid hl
 clear hs hl
 go_enter Tryz.func204, Tryz.ntmps204
 go_wp2_with fail
 generalize w.alloc (.cells #[.int .i64 3, .slice A n c] 287) = W0 at *
 have HT0 := hid (show w.heap.size < W0.heap.size from HT.out.lt)
 generalize hb1 : w.heap.size = b1 at *
 have HBE := hid hb1
 clear hb1
 go_loopg [3, 4] 7 (fun gk o s wr => ∃ (d : Nat) (O : Option Addr) (oc : Nat) (vs : List Value), gk + d = 7 ∧ s = .int .i64 ((d : Int) + 1) ∧ o = .slice O (cornersTo l d).length oc ∧ Hid (wr.ownsRow W0.heap.size 290 1 (.slice O (cornersTo l d).length oc) (cornersTo l d).length vs) ∧ Hid (BelR wr vs (cornersTo l d)) ∧ Hid (Below W0.heap.size W0 wr))
 case atStart => exact ⟨0, none, 0, [], by omega, rfl, rfl, hid (World.ownsRow_nil _ _ _ _), hid ⟨rfl, fun i v b h => by simp at h⟩, hid (Below.refl _ _)⟩
 case round =>
  obtain ⟨d, O, oc, vs, hd, rfl, rfl, HO, HV, HW⟩ := hrel
  obtain ⟨gj, rfl⟩ : ∃ x, x = gk := ⟨gk, rfl⟩
  obtain ⟨Wi, rfl⟩ : ∃ x, x = wr := ⟨wr, rfl⟩
  have HD := hid hd
  have t0 := (HT.out.keep HW.out).cell 0
  simp only [List.getElem?_toArray, List.getElem?_cons_zero] at t0
  by_cases hlt : d < 7
  · have HLT := hid hlt
    have hws := wsOf_len ⟨d + 1, by omega⟩ (by simp)
    simp only at hws
    have g0 : decide ((d : Int) + 1 < 8) = true := decide_eq_true (by omega)
    have HB5 := hid (Blk.new Wi 36 #[.slice none 0 0])
    have HBI := hid ((Below.refl Wi.heap.size Wi).alloc (Nat.le_refl _) (.cells #[.slice none 0 0] 36))
    have t1 := cell_keep HBI.out t0
    clear hd
    go_wp2_with fail
    generalize Wi.alloc (.cells #[.slice none 0 0] 36) = W5 at *
    have HWI := hid (show Wi.heap.size < W5.heap.size from HB5.out.lt)
    have HKT := hid (show b1 < Wi.heap.size from Nat.lt_of_lt_of_le HT0.out HW.out.size)
    generalize hb5 : Wi.heap.size = b5 at *
    have HB5E := hid hb5
    clear hb5 t0 t1 g0
    go_loopg [25] 3 (fun gk i wx => ∃ (v : Nat) (R : Option Addr) (rc : Nat) (ws : List Nat), gk + v = 3 ∧ i = .int .i64 v ∧ Hid (ws = (List.range v).filter fun v => (d + 1).testBit v) ∧ Hid (Blk wx b5 36 #[.slice R ws.length rc]) ∧ Hid (wx.ownsRow W5.heap.size 3 1 (.slice R ws.length rc) ws.length (ws.map fun v : Nat => Value.int .i64 v)) ∧ Hid (Below b5 Wi wx) ∧ Hid (W5.heap.size ≤ wx.heap.size))
    case atStart => exact ⟨0, none, 0, [], by omega, rfl, hid rfl, HB5, hid (World.ownsRow_nil _ _ _ _), HBI, hid (Nat.le_refl _)⟩
    case round =>
     clear HB5 HBI
     obtain ⟨v, R, rc, ws, hv, rfl, HWS, HB5, HOW, HBI, HZ5⟩ := hrel
     have HVV := hid hv
     by_cases hv3 : v < 3
     · have HV3 := hid hv3
       have hfit : Fits (v : Int) := ⟨by omega, by omega⟩
       have hwl : ws.length ≤ 3 := by
        rw [HWS.out]
        have := List.length_filter_le (fun v => (d + 1).testBit v) (List.range v)
        simp at this
        omega
       have HBE5 := hid (show b5 ≤ wr.heap.size from Nat.le_of_lt HB5.out.lt)
       have c0 := HB5.out.cell 0
       have f0 := HB5.out.free 0
       simp only [List.getElem?_toArray, List.getElem?_cons_zero] at c0
       have hbit := bit_test (d + 1) v
       have ecast : (((d + 1 : Nat)) : Int) = (d : Int) + 1 := by omega
       rw [ecast] at hbit
       clear hv ecast
       by_cases hb : (d + 1).testBit v = true
       · have b0 : (bitV ((d : Int) + 1) v == 1) = true := by rw [hbit, if_pos hb]; rfl
         have b1' : bitV ((d : Int) + 1) v = 1 := by rw [hbit, if_pos hb]
         have HWS2 := hid (show ws ++ [v] = (List.range (v + 1)).filter fun v => (d + 1).testBit v from by rw [List.range_succ, List.filter_append, ← HWS.out]; simp [hb])
         clear hb hbit
         go_wp2_with (at_builtin; refine push1P TI27 wr #[.int .i64 v] W5.heap.size _ _ _ HOW.out _ _ wr.heap.size rfl rfl rfl rfl rfl rfl (by simp [Value.oneCell']) (by omega) (by omega) HZ5.out ?_; intro v1 w8 hown1 hgr; obtain ⟨A8, c8, rfl⟩ := own_form hown1; have HB8 := hid (below_push HBI.out HOW.out hgr HBE5.out (Nat.le_of_lt HWI.out)); have HX8 := hid ((HB5.out.alloc (.cells #[.int .i64 v] 3)).grown hgr (own_ne_blk HOW.out HB5.out (by decide))); have HO8 := hid (show w8.ownsRow W5.heap.size 3 1 (.slice A8 (ws.length + 1) c8) (ws.length + 1) ((ws ++ [v]).map fun v : Nat => Value.int .i64 v) from by rw [List.map_append]; exact hown1); have HZ8 := hid (show W5.heap.size ≤ w8.heap.size from by have := hgr.size; have := HZ5.out; simp at *; omega); have x0 := HX8.out.cell 0; have y0 := HX8.out.free 0; simp only [List.getElem?_toArray, List.getElem?_cons_zero] at x0; clear hown1 hgr)
         go_roundg (gk - 1)
         case measure => have := HVV.out; have := HV3.out; omega
         case rel => exact ⟨v + 1, A8, c8, ws ++ [v], by have := HVV.out; have := HV3.out; omega, by go_num, HWS2, hid (by rw [List.length_append]; exact HX8.out.set 0 _), hid (by rw [List.length_append]; exact own_grown HO8.out HX8.out (by decide) (setGrown w8 ⟨b5, 0, none⟩ (.slice A8 (ws.length + 1) c8))), hid (HB8.out.setCell (p := ⟨b5, 0, none⟩) (Nat.le_refl _) _), hid (by have := HZ8.out; simpa using this)⟩
       · have b0 : (bitV ((d : Int) + 1) v == 1) = false := by rw [hbit, if_neg hb]; rfl
         have HWS2 := hid (show ws = (List.range (v + 1)).filter fun v => (d + 1).testBit v from by rw [List.range_succ, List.filter_append, ← HWS.out]; simp [hb])
         clear hb hbit
         go_wp2
         go_roundg (gk - 1)
         case measure => have := HVV.out; have := HV3.out; omega
         case rel => exact ⟨v + 1, R, rc, ws, by have := HVV.out; have := HV3.out; omega, by go_num, HWS2, HB5, HOW, HBI, HZ5⟩
     · obtain rfl : v = 3 := by have := HVV.out; omega
       have hwsE : ws = wsOf (d + 1) := HWS.out
       clear hv hv3 HWS
       subst hwsE
       have hwlt := wsOf_lt (d + 1)
       generalize hwse : wsOf (d + 1) = ws at *
       have HWE := hid hwse
       clear hwse
       have HWL := hid hws
       have HWLT := hid hwlt
       have HEI := hid (eqF_inv HLB.out hwlt)
       have HQT := hid (show wr.cell? ⟨b1, 0, none⟩ = some (.int .i64 3) from by
        have h1 := (HT.out.keep HW.out).cell 0
        simp only [List.getElem?_toArray, List.getElem?_cons_zero] at h1
        exact (HBI.out.cell (p := ⟨b1, 0, none⟩) HKT.out).trans h1)
       have HQL := hid (show wr.cell? ⟨b1, 1, none⟩ = some (.slice A n c) from by
        have h1 := (HT.out.keep HW.out).cell 1
        simp only [List.getElem?_toArray, List.getElem?_cons_zero, List.getElem?_cons_succ] at h1
        exact (HBI.out.cell (p := ⟨b1, 1, none⟩) HKT.out).trans h1)
       have HSQ := hid (show Sl2 wr A n c l from by
        have h1 := HS.out.below HW.out
        have h2 := HB5E.out
        subst h2
        exact h1.below HBI.out)
       have HSW := hid (Sl.of_own HOW.out)
       have he : ∀ args W, (callFunc 237 args).run Tryz.prog W = .ok (.enter 237 args) W := fun args W => enters Tryz.func237 (by kernel_rfl) rfl args W
       have HW1 := hid fun W => whole_tw 1 W
       have HRW := hid fun (event right : Int) (W : World) (hb : Below wr.heap.size wr W) => rowF event right b5 R ws.length rc ws W (HB5.out.keep hb) (HSW.out.below hb) HWLT.out HWL.out.2
       rw [show (12 : Int) * 1 = 12 from rfl] at HW1
       unfold frV at HW1 HRW
       obtain ⟨Wq, rfl⟩ : ∃ x, x = wr := ⟨wr, rfl⟩
       have hws1 := HWL.out.1
       have hws2 := HWL.out.2
       go_wp2_with fail
       go_cut [8] from 39 to 46 (fun q wx => ∃ (p : Nat × Nat) (v1 : Value), q = v1 ∧ Hid (QR wx Wq.heap.size v1 ws.length [p] (eqF l ws)) ∧ Hid (Below Wq.heap.size Wq wx))
       case first =>
        refine wp_region_held_drew (S := (fun X => X.cell? ⟨b1, 0, none⟩ = some (.int .i64 3))) (by kernel_rfl) (by (try dsimp only); (first | exact HQT.out | exact cell_keep HX.out HQT.out)) (fun hHeld => ?_)
        have HX := hid (Below.refl Wq.heap.size Wq).drew
        generalize Wq.drew = X at *
        refine tk ?_ 0 (some 39) rfl rfl ?_ ?_; rotate_left; · (intro w hSw; (try dsimp only at hSw); go_simp <;> with_reducible rfl)
        try simp only [Act.put,qA,qB,qC]
        refine tk ?_ 1 (some 40) rfl rfl ?_ ?_; rotate_left; · (intro w hSw; (try dsimp only at hSw); go_simp <;> with_reducible rfl)
        try simp only [Act.put,qA,qB,qC]
        refine tk ?_ 2 (some 41) rfl rfl ?_ ?_; rotate_left; · (intro w hSw; (try dsimp only at hSw); go_simp <;> with_reducible rfl)
        try simp only [Act.put,qA,qB,qC]
        refine tk ?_ 3 (some 42) rfl rfl ?_ ?_; rotate_left; · (intro w hSw; (try dsimp only at hSw); go_simp <;> with_reducible rfl)
        try simp only [Act.put,qA,qB,qC]
        refine tk ?_ 4 (some 43) rfl rfl ?_ ?_; rotate_left; · (intro w hSw; (try dsimp only at hSw); go_simp <;> with_reducible rfl)
        try simp only [Act.put,qA,qB,qC]
        refine st 5 rfl fun K hK => ?_
        go_simp
        refine (HW1.out _).mono ?_; rintro e X1 ⟨rfl, bb⟩
        have HX := hid (below_call HX.out bb HX.out.size)
        clear bb hHeld
        obtain ⟨X, rfl⟩ : ∃ Y, Y = X1 := ⟨X1, rfl⟩
        refine hK.out _ _ ?_ (fun hHeld => ?_); · ((try dsimp only); (first | exact HQT.out | exact cell_keep HX.out HQT.out))
        clear hK K
        try simp only [Act.put,qA,qB,qC]
        refine st 6 rfl fun K hK => ?_
        go_simp
        refine (HRW.out 7 12 _ HX.out).mono ?_; rintro e X1 ⟨g, gc, rfl, ho, bb⟩
        have HG := hid (own_more ho HX.out.size)
        have HX := hid (below_call HX.out bb HX.out.size)
        rw [row_eq l ws 0 7 12 rfl rfl] at HG
        clear bb hHeld ho
        obtain ⟨X, rfl⟩ : ∃ Y, Y = X1 := ⟨X1, rfl⟩
        refine hK.out _ _ ?_ (fun hHeld => ?_); · ((try dsimp only); (first | exact HQT.out | exact cell_keep HX.out HQT.out))
        clear hK K
        try simp only [Act.put,qA,qB,qC]
        refine st 7 rfl fun K hK => ?_
        go_simp
        have bb := (Below.refl X.heap.size X).alloc (Nat.le_refl _) (.cells #[.slice (some ⟨g, 0, none⟩) (ws.length + 1) gc] 219)
        have HQ := hid (show QR (X.alloc (.cells #[.slice (some ⟨g, 0, none⟩) (ws.length + 1) gc] 219)) Wq.heap.size (.slice (some ⟨X.heap.size, 0, none⟩) 1 1) ws.length [(g, gc)] (eqF l ws) from
         ⟨blk_own (Blk.new X _ _) HX.out.size rfl (by decide), fun i p hp => by
          have hi : i = 0 := by
           have := (List.getElem?_eq_some_iff.1 hp).1
           simpa using this
          subst hi
          simp only [List.getElem?_cons_zero, Option.some.injEq] at hp
          subst hp
          exact own_below HG.out bb, by simp⟩)
        have HX := hid (below_call HX.out bb HX.out.size)
        clear bb hHeld HG
        generalize X.alloc (.cells #[.slice (some ⟨g, 0, none⟩) (ws.length + 1) gc] 219) = X1 at *
        generalize X.heap.size = hq at *
        obtain ⟨X, rfl⟩ : ∃ Y, Y = X1 := ⟨X1, rfl⟩
        refine hK.out _ _ ?_ (fun hHeld => ?_); · ((try dsimp only); (first | exact HQT.out | exact cell_keep HX.out HQT.out))
        clear hK K
        try simp only [Act.put,qA,qB,qC]
        refine tk ?_ 8 (some 8) rfl rfl ?_ ?_; rotate_left; · (intro w hSw; (try dsimp only at hSw); go_simp <;> with_reducible rfl)
        try simp only [Act.put,qA,qB,qC]
        refine wpAnyH_done (by kernel_rfl) ?_ _
        go_wp2_with fail
        go_meet
        case rel => exact ⟨(g, gc), _, rfl, HQ, HX⟩
       case rest =>
        obtain ⟨p0, q0, rfl, HQ0, HX0⟩ := hcut
        have x1 := cell_keep HX0.out HQL.out
        clear HW1
        go_wp2_with fail
        clear x1
        obtain ⟨Wl, rfl⟩ : ∃ x, x = wc := ⟨wc, rfl⟩
        go_loopg [8, 50] n (fun gk q i wx => ∃ (e : Nat) (gl : List (Nat × Nat)), gk + e = n ∧ i = .int .i64 e ∧ Hid (gl.length = e + 1) ∧ Hid (QR wx Wq.heap.size q ws.length gl (eqF l ws)) ∧ Hid (Below Wq.heap.size Wq wx))
        case atStart => exact ⟨0, [p0], by omega, rfl, hid rfl, HQ0, HX0⟩
        case round =>
         clear HQ0 HX0
         obtain ⟨e, gl, hee, rfl, HGL, HQ, HX⟩ := hrel
         rename_i q8 _
         have HEE := hid hee
         have hn6 : n ≤ 6 := by have := HLB.out.2.1; have := HL.out; omega
         by_cases hen : e < n
         · have HEN := hid hen
           obtain ⟨b, o, u, hA, lb1, e1, ca, cb⟩ := (HSQ.out.below HX.out).at hen
           have e2 : o + e * 2 + 1 = o + (e * 2 + 1) := by omega
           rw [← e2] at cb
           have HU := hid e1
           have hub := HLB.out.2.2.1 u (List.mem_of_getElem? e1)
           have HEV := hid (show u.1 = (if e + 1 = 0 then 7 else (l.getD (e + 1 - 1) (0, 0)).1) ∧ u.2 = (if e + 1 = 0 then 12 else (l.getD (e + 1 - 1) (0, 0)).2) from by
            rw [if_neg (by omega), if_neg (by omega), Nat.add_sub_cancel, List.getD_eq_getElem?_getD, e1]
            exact ⟨rfl, rfl⟩)
           have HFR := hid fun W => frac_tw u.2 (by unfold rg; omega) W
           unfold frV at HFR
           have HBu := hid (Blk.new wr 182 #[.int .i64 u.1, .int .i64 u.2])
           have bu := (Below.refl wr.heap.size wr).alloc (Nat.le_refl _) (.cells #[.int .i64 u.1, .int .i64 u.2] 182)
           have HX1 := hid (below_call HX.out bu HX.out.size)
           have HQ1 := hid (HQ.out.below bu)
           obtain ⟨i0, hi0, hz0, hz1, hzz⟩ := info_parts TQ.inf
           have hgl := HGL.out
           clear bu e2 e1 lb1 hee hub
           subst hA
           go_wp2_with fail
           clear ca cb
           generalize wr.alloc (.cells #[.int .i64 u.1, .int .i64 u.2] 182) = X0 at *
           generalize wr.heap.size = b10 at *
           refine wp_region_held_drew (S := (fun X => X.cell? ⟨b10, 0, none⟩ = some (.int .i64 u.1) ∧ X.cell? ⟨b10, 1, none⟩ = some (.int .i64 u.2))) (by kernel_rfl) (by (try dsimp only); (first | exact ⟨HBu.out.cell 0, HBu.out.cell 1⟩ | exact ⟨HBa.out.cell 0, HBa.out.cell 1⟩ | exact ⟨HBb.out.cell 0, HBb.out.cell 1⟩)) (fun hHeld => ?_)
           have HY := hid (Below.refl X0.heap.size X0).drew
           have HBu := hid HBu.out.drew
           have HX2 := hid (below_call HX1.out HY.out HX1.out.size)
           have HQ2 := hid (HQ1.out.below HY.out)
           generalize X0.drew = X at *
           refine tk ?_ 0 (some 54) rfl rfl ?_ ?_; rotate_left; · (intro w hSw; (try dsimp only at hSw); go_simp <;> with_reducible rfl)
           try simp only [Act.put,qA,qB,qC]
           refine tk ?_ 1 (some 55) rfl rfl ?_ ?_; rotate_left; · (intro w hSw; (try dsimp only at hSw); go_simp <;> with_reducible rfl)
           try simp only [Act.put,qA,qB,qC]
           refine tk ?_ 2 (some 56) rfl rfl ?_ ?_; rotate_left; · (intro w hSw; (try dsimp only at hSw); go_simp <;> with_reducible rfl)
           try simp only [Act.put,qA,qB,qC]
           refine tk ?_ 3 (some 57) rfl rfl ?_ ?_; rotate_left; · (intro w hSw; (try dsimp only at hSw); go_simp <;> with_reducible rfl)
           try simp only [Act.put,qA,qB,qC]
           refine tk ?_ 4 (some 58) rfl rfl ?_ ?_; rotate_left; · (intro w hSw; (try dsimp only at hSw); go_simp <;> with_reducible rfl)
           try simp only [Act.put,qA,qB,qC]
           refine tk ?_ 5 (some 59) rfl rfl ?_ ?_; rotate_left; · (intro w hSw; (try dsimp only at hSw); go_simp <;> with_reducible rfl)
           try simp only [Act.put,qA,qB,qC]
           refine st 6 rfl fun K hK => ?_
           go_simp
           refine (HFR.out _).mono ?_; rintro e' X1 ⟨rfl, bb⟩
           have HY := hid (below_call HY.out bb HY.out.size)
           have HBu := hid (HBu.out.keep bb)
           have HX2 := hid (below_call HX2.out bb HX2.out.size)
           have HQ2 := hid (HQ2.out.below bb)
           clear bb hHeld
           obtain ⟨X, rfl⟩ : ∃ Y, Y = X1 := ⟨X1, rfl⟩
           refine hK.out _ _ ?_ (fun hHeld => ?_); · ((try dsimp only); (first | exact ⟨HBu.out.cell 0, HBu.out.cell 1⟩ | exact ⟨HBa.out.cell 0, HBa.out.cell 1⟩ | exact ⟨HBb.out.cell 0, HBb.out.cell 1⟩))
           clear hK K
           try simp only [Act.put,qA,qB,qC]
           refine st 7 rfl fun K hK => ?_
           go_simp
           refine (HRW.out u.1 u.2 _ HX2.out).mono ?_; rintro e' X1 ⟨g, gc, rfl, ho, bb⟩
           have HNW := hid (show ∀ q ∈ gl, q.1 ≠ g from fun q hq => by have h1 := (HQ2.out.lt hq).2; have h2 := (ho.lt g rfl).1; omega)
           have HG := hid (own_more ho HX2.out.size)
           have HY := hid (below_call HY.out bb HY.out.size)
           have HBu := hid (HBu.out.keep bb)
           have HX2 := hid (below_call HX2.out bb HX2.out.size)
           have HQ2 := hid (HQ2.out.below bb)
           rw [row_eq l ws (e + 1) u.1 u.2 HEV.out.1 HEV.out.2, ← HGL.out] at HG
           clear bb hHeld ho
           obtain ⟨X, rfl⟩ : ∃ Y, Y = X1 := ⟨X1, rfl⟩
           refine hK.out _ _ ?_ (fun hHeld => ?_); · ((try dsimp only); (first | exact ⟨HBu.out.cell 0, HBu.out.cell 1⟩ | exact ⟨HBa.out.cell 0, HBa.out.cell 1⟩ | exact ⟨HBb.out.cell 0, HBb.out.cell 1⟩))
           clear hK K
           try simp only [Act.put,qA,qB,qC]
           refine st 8 rfl fun K hK => ?_
           go_simp
           have HBa := hid (HBu.out.alloc (.cells #[.slice (some ⟨g, 0, none⟩) (ws.length + 1) gc] 219))
           refine hK.out _ _ ?_ (fun hHeld => ?_); · ((try dsimp only); (first | exact ⟨HBu.out.cell 0, HBu.out.cell 1⟩ | exact ⟨HBa.out.cell 0, HBa.out.cell 1⟩ | exact ⟨HBb.out.cell 0, HBb.out.cell 1⟩))
           clear hK K
           try simp only [Act.put,qA,qB,qC]
           refine st 9 rfl fun K hK => ?_
           refine step_append_lies _ rfl (.tmp 54) (.tmp 62) 333 rfl Wq.heap.size 219 i0 (.slice none 0 0) 1 24 TQ.und hi0 hz0 hz1 hzz TQ.zc TQ.sz _ gl.length (gl.map (rowV ws.length)) rfl (HQ2.out.hd.alloc _) _ 1 1 (#[.slice (some ⟨g, 0, none⟩) (ws.length + 1) gc] : Array Value).toList rfl rfl (cells_new _ _ _) (by simp [Value.oneCell']) (by decide) (by unfold maxLen; omega) (by omega) (Nat.le_trans HX2.out.size (by simp)) _ rfl ?_
           intro hg hgc X1 how hgr _ _
           have HQ3 := hid (HQ2.out.push (p := (g, gc)) HG.out HNW.out how hgr)
           have HX3 := hid (below_push HX2.out HQ2.out.hd hgr HX2.out.size (Nat.le_refl _))
           have HBb := hid (HBa.out.grown hgr (own_ne_blk HQ2.out.hd HBu.out (by decide)))
           clear how hgr hHeld
           refine hK.out _ _ ?_ (fun hHeld => ?_); · ((try dsimp only); (first | exact ⟨HBu.out.cell 0, HBu.out.cell 1⟩ | exact ⟨HBa.out.cell 0, HBa.out.cell 1⟩ | exact ⟨HBb.out.cell 0, HBb.out.cell 1⟩))
           clear hK K
           try simp only [Act.put, List.setIfInBounds_toArray]
           refine tk ?_ 10 (some 8) rfl rfl ?_ ?_; rotate_left; · (intro w hSw; (try dsimp only at hSw); go_simp <;> with_reducible rfl)
           try simp only [Act.put]
           refine wpAnyH_done (by kernel_rfl) ?_ _
           go_wp2_with fail
           go_roundg (gk - 1)
           case measure => have := HEE.out; have := HEN.out; omega
           case rel => exact ⟨e + 1, gl ++ [(g, gc)], by have := HEE.out; have := HEN.out; omega, by go_num, hid (by rw [List.length_append, HGL.out]; rfl), hid (by have := HQ3.out; rwa [HGL.out] at this), HX3⟩
         · obtain rfl : e = n := by have := HEE.out; omega
           clear hee hen
           obtain ⟨hA, mc, rfl⟩ := own_form HQ.out.hd
           obtain ⟨hq, rfl⟩ := own_some HQ.out.hd (by have := HGL.out; omega)
           have HMT := hid HQ.out.mat
           have hgl := HGL.out
           rw [hgl] at HMT
           rw [hgl]
           have HSV := hid (solveS Wq.heap.size hq mc (e + 1) ws.length _ _ _ wr HMT.out (by have := HLB.out.1; have := HL.out; omega) (by omega) hws1 hws2 (by have := HEI.out; rwa [HL.out] at this) HX.out.size)
           have c5 := (HB5.out.keep HX.out).cell 0
           simp only [List.getElem?_toArray, List.getElem?_cons_zero] at c5
           clear HQ HMT hgl
           go_wp2_with fail
           refine (HSV.out).mono ?_; intro ex X1 hsr
           have HXs := hid (hsr.2.below HX.out HX.out.size (fun i h => h))
           have HSR := hid hsr.1
           clear hsr HSV c5
           cases hsv : solveF (e + 1) ws.length (eqF l ws) with
           | none =>
            rw [hsv] at HSR
            obtain rfl : ex = .returned (.tuple #[.slice none 0 0, .bool false]) := HSR.out
            have HCN := hid (show cornersTo l (d + 1) = cornersTo l d from by
             rw [cornersTo_succ, show cornerOf l (d + 1) = none from by unfold cornerOf; rw [HWE.out, HL.out, hsv], List.append_nil])
            have HIX := hid (show Below Wi.heap.size Wi X1 from by
             have h2 := HB5E.out
             rw [h2]
             exact below_call HBI.out HXs.out (by have := HBI.out.size; omega))
            have HVn := hid (show BelR X1 vs (cornersTo l (d + 1)) from by rw [HCN.out]; exact HV.out.below HIX.out)
            have HOn := hid (show X1.ownsRow W0.heap.size 290 1 (.slice O (cornersTo l (d + 1)).length oc) (cornersTo l (d + 1)).length vs from by rw [HCN.out]; exact own_below HO.out HIX.out)
            have HWn := hid (below_call HW.out HIX.out HW.out.size)
            clear hsv
            dsimp only
            go_wp2
            go_roundg (gj - 1)
            case measure => have := HD.out; have := HLT.out; omega
            case rel => exact ⟨d + 1, O, oc, vs, by have := HD.out; have := HLT.out; omega, by go_num, by rw [HCN.out], HOn, HVn, HWn⟩
           | some xs =>
            rw [hsv] at HSR
            obtain ⟨XA, xc, rfl, hxo⟩ := HSR.out
            have hrg := solveF_rg hws2 (solveF_le (by omega) hsv) (by have := HEI.out; rwa [HL.out] at this) hsv
            have he2 : ∀ args W, (callFunc 241 args).run Tryz.prog W = .ok (.enter 241 args) W := fun args W => enters Tryz.func241 (by kernel_rfl) rfl args W
            have HXA := hid (Sl2.of_own hxo)
            have HFA := hid (fracAny 241 [] XA ws.length xc (xs.map tw) (fun u => decide (u.1 < 0)) X1 _ rfl HXA.out (fun v _ W _ => negF v W) he2 (Nat.zero_le 1))
            rw [any_tw hrg.2] at HFA
            have HRG := hid hrg
            have HSO := hid hsv
            clear hrg he2 hxo hsv HSR
            dsimp only
            cases hany : xs.any fun x => decide (x < 0) with
            | true =>
             rw [hany] at HFA
             have HCN := hid (show cornersTo l (d + 1) = cornersTo l d from by
              rw [cornersTo_succ, show cornerOf l (d + 1) = none from by unfold cornerOf; rw [HWE.out, HL.out, HSO.out]; simp only [hany, if_true], List.append_nil])
             clear hany
             go_wp2_with fail
             refine (HFA.out).mono ?_; rintro e' X2 ⟨rfl, b2⟩
             have HXs := hid (below_call HXs.out b2 HXs.out.size)
             clear b2
             have HIX := hid (show Below Wi.heap.size Wi X2 from by
              have h2 := HB5E.out
              rw [h2]
              exact below_call HBI.out HXs.out (by have := HBI.out.size; omega))
             have HVn := hid (show BelR X2 vs (cornersTo l (d + 1)) from by rw [HCN.out]; exact HV.out.below HIX.out)
             have HOn := hid (show X2.ownsRow W0.heap.size 290 1 (.slice O (cornersTo l (d + 1)).length oc) (cornersTo l (d + 1)).length vs from by rw [HCN.out]; exact own_below HO.out HIX.out)
             have HWn := hid (below_call HW.out HIX.out HW.out.size)
             go_wp2
             go_roundg (gj - 1)
             case measure => have := HD.out; have := HLT.out; omega
             case rel => exact ⟨d + 1, O, oc, vs, by have := HD.out; have := HLT.out; omega, by go_num, by rw [HCN.out], HOn, HVn, HWn⟩
            | false =>
             rw [hany] at HFA
             have HCN := hid (show cornersTo l (d + 1) = cornersTo l d ++ [beliefOf ws xs] from by
              rw [cornersTo_succ, show cornerOf l (d + 1) = some (beliefOf ws xs) from by unfold cornerOf; rw [HWE.out, HL.out, HSO.out]; simp only [hany, Bool.false_eq_true, if_false]])
             clear hany
             go_wp2_with fail
             refine (HFA.out).mono ?_; rintro e' X2 ⟨rfl, b2⟩
             have HXs := hid (below_call HXs.out b2 HXs.out.size)
             have HXA2 := hid (HXA.out.below b2)
             clear b2 HFA HXA
             have HXq := hid (show X2.cell? ⟨b1, 0, none⟩ = some (.int .i64 3) from (HXs.out.cell (p := ⟨b1, 0, none⟩) (Nat.lt_of_lt_of_le HKT.out (by have := HBI.out.size; have := HB5E.out; omega))).trans HQT.out)
             have HW0 := hid fun W => whole_tw 0 W
             rw [show (12 : Int) * 0 = 0 from rfl, show tw 0 = (0, 1) from rfl] at HW0
             unfold frV at HW0
             have HRP := hid fun b W h0 h1 => repF b 1 W h0 h1
             go_wp2_with fail
             go_cut [13] from 78 to 82 (fun t wx => ∃ g, t = .slice (some ⟨g, 0, none⟩) 3 3 ∧ Hid (Blk wx g 48 (repC 3)) ∧ Hid (Below X2.heap.size X2 wx) ∧ Hid (X2.heap.size ≤ g))
             case first =>
              refine wp_region_held_drew (S := (fun X => X.cell? ⟨b1, 0, none⟩ = some (.int .i64 3))) (by kernel_rfl) (by (try dsimp only); (first | exact HXq.out | exact cell_keep HY.out HXq.out)) (fun hHeld => ?_)
              have HY := hid (Below.refl X2.heap.size X2).drew
              generalize X2.drew = X at *
              refine tk ?_ 2 (some 80) rfl rfl ?_ ?_; rotate_left; · (intro w hSw; (try dsimp only at hSw); go_simp <;> with_reducible rfl)
              try simp only [Act.put,qA,qB,qC]
              refine tk ?_ 3 (some 81) rfl rfl ?_ ?_; rotate_left; · (intro w hSw; (try dsimp only at hSw); go_simp <;> with_reducible rfl)
              try simp only [Act.put,qA,qB,qC]
              refine st 0 rfl fun K hK => ?_
              go_simp
              refine (HW0.out _).mono ?_; rintro e' X3 ⟨rfl, bb⟩
              have HY := hid (below_call HY.out bb HY.out.size)
              clear bb hHeld
              obtain ⟨X, rfl⟩ : ∃ Y, Y = X3 := ⟨X3, rfl⟩
              refine hK.out _ _ ?_ (fun hHeld => ?_); · ((try dsimp only); (first | exact HXq.out | exact cell_keep HY.out HXq.out))
              clear hK K
              try simp only [Act.put,qA,qB,qC]
              refine st 1 rfl fun K hK => ?_
              go_simp
              have HF0 := hid (Blk.new X 48 #[.int .i64 0, .int .i64 1])
              have HY := hid (below_call HY.out ((Below.refl X.heap.size X).alloc (Nat.le_refl _) (.cells #[.int .i64 0, .int .i64 1] 48)) HY.out.size)
              clear hHeld
              generalize X.alloc (.cells #[.int .i64 0, .int .i64 1] 48) = X3 at *
              generalize X.heap.size = b79 at *
              obtain ⟨X, rfl⟩ : ∃ Y, Y = X3 := ⟨X3, rfl⟩
              refine hK.out _ _ ?_ (fun hHeld => ?_); · ((try dsimp only); (first | exact HXq.out | exact cell_keep HY.out HXq.out))
              clear hK K
              try simp only [Act.put,qA,qB,qC]
              refine st 4 rfl fun K hK => ?_
              go_simp
              refine (HRP.out b79 X (HF0.out.cell 0) (HF0.out.cell 1)).mono ?_; rintro e' X3 ⟨g, rfl, hg, hgl, bb⟩
              have HG := hid hg
              have HGL := hid (Nat.le_trans HY.out.size hgl)
              have HY := hid (below_call HY.out bb HY.out.size)
              clear hg hgl bb hHeld
              obtain ⟨X, rfl⟩ : ∃ Y, Y = X3 := ⟨X3, rfl⟩
              refine hK.out _ _ ?_ (fun hHeld => ?_); · ((try dsimp only); (first | exact HXq.out | exact cell_keep HY.out HXq.out))
              clear hK K
              try simp only [Act.put,qA,qB,qC]
              refine tk ?_ 5 (some 13) rfl rfl ?_ ?_; rotate_left; · (intro w hSw; (try dsimp only at hSw); go_simp <;> with_reducible rfl)
              try simp only [Act.put,qA,qB,qC]
              refine wpAnyH_done (by kernel_rfl) ?_ _
              go_wp2_with fail
              go_meet
              case rel => exact ⟨g, rfl, HG, HY, HGL⟩
             case rest =>
              obtain ⟨g, rfl, HG, HY, HGG⟩ := hcut
              have HB5q := hid ((HB5.out.keep HXs.out).keep HY.out)
              have c5 := HB5q.out.cell 0
              simp only [List.getElem?_toArray, List.getElem?_cons_zero] at c5
              have HSW2 := hid (HSW.out.below HXs.out)
              clear HRP HW0 HXq
              go_wp2_with fail
              clear c5
              go_loopg [85] ws.length (fun gk i wx => ∃ q : Nat, gk + q = ws.length ∧ i = .int .i64 q ∧ Hid (Blk wx g 48 (flat ((beliefTo ws xs q).map tw)).toArray) ∧ Hid (Below X2.heap.size X2 wx))
              case atStart => exact ⟨0, by omega, rfl, hid (by have h := HG.out; rw [show repC 3 = (flat ((beliefTo ws xs 0).map tw)).toArray from by unfold beliefTo; rw [List.take_zero]; rfl] at h; exact h), HY⟩
              case round =>
               clear HG HY HB5q
               obtain ⟨q, hq', rfl, HG, HY⟩ := hrel
               have HQQ := hid hq'
               by_cases hqk : q < ws.length
               · have HQK := hid hqk
                 obtain ⟨b, o, u, hR, lbR, e1, ca⟩ := (HSW2.out.below HY.out).at hqk
                 rw [List.getElem?_map] at e1
                 obtain ⟨v, hv, rfl⟩ := Option.map_eq_some_iff.1 e1
                 have hv3 := HWLT.out v (List.mem_of_getElem? hv)
                 obtain ⟨xb, xo, u2, hXA, lbX, hx, cx0, cx1⟩ := (HXA2.out.below HY.out).at hqk
                 rw [List.getElem?_map] at hx
                 obtain ⟨x, hx2, rfl⟩ := Option.map_eq_some_iff.1 hx
                 have HBT := hid (beliefTo_succ hv hx2)
                 have e2 : xo + q * 2 + 1 = xo + (q * 2 + 1) := by omega
                 rw [← e2] at cx1
                 have hlen : (flat ((beliefTo ws xs q).map tw)).length = 6 := by rw [flat_len, List.length_map, beliefTo_len]
                 obtain ⟨z0, y0⟩ : ∃ z, wr.cell? ⟨g, v * 2, none⟩ = some z := by
                  rw [HG.out.cell, List.getElem?_toArray]
                  exact ⟨_, List.getElem?_eq_getElem (by omega)⟩
                 obtain ⟨z1, y1⟩ : ∃ z, wr.cell? ⟨g, v * 2 + 1, none⟩ = some z := by
                  rw [HG.out.cell, List.getElem?_toArray]
                  exact ⟨_, List.getElem?_eq_getElem (by omega)⟩
                 have f0 := HG.out.free (v * 2)
                 have f1 := HG.out.free (v * 2 + 1)
                 have HG2 := hid ((HG.out.set (v * 2) (.int .i64 (tw x).1)).set (v * 2 + 1) (.int .i64 (tw x).2))
                 have HY2 := hid ((HY.out.setCell (p := ⟨g, v * 2, none⟩) HGG.out (.int .i64 (tw x).1)).setCell (p := ⟨g, v * 2 + 1, none⟩) HGG.out (.int .i64 (tw x).2))
                 rw [List.setIfInBounds_toArray, List.setIfInBounds_toArray, flat_set, ← List.map_set, ← HBT.out] at HG2
                 have hv4 : (v : Int) < 3 := by omega
                 subst hXA
                 subst hR
                 clear hq' e1 hv hx hx2 e2 lbR lbX hlen
                 go_wp2
                 go_roundg (gk - 1)
                 case measure => have := HQQ.out; have := HQK.out; omega
                 case rel => exact ⟨q + 1, by have := HQQ.out; have := HQK.out; omega, by go_num, HG2, HY2⟩
               · obtain rfl : q = ws.length := by have := HQQ.out; omega
                 have HG := hid (show Blk wr g 48 (flat ((beliefOf ws xs).map tw)).toArray from by rw [← beliefTo_all rfl]; exact HG.out)
                 have HXs := hid (below_call HXs.out HY.out HXs.out.size)
                 have HIX := hid (show Below Wi.heap.size Wi wr from by
                  have h2 := HB5E.out
                  rw [h2]
                  exact below_call HBI.out HXs.out (by have := HBI.out.size; omega))
                 have HVn := hid ((HV.out.below HIX.out).snoc HG.out (belief_len ws xs))
                 have HOn := hid (own_below HO.out HIX.out)
                 have HWn := hid (below_call HW.out HIX.out HW.out.size)
                 have hcl : (cornersTo l d).length ≤ d := by
                  unfold cornersTo
                  have := List.length_filterMap_le (cornerOf l) ((List.range d).map (· + 1))
                  simpa using this
                 have HLN := hid (show (cornersTo l (d + 1)).length = (cornersTo l d).length + 1 from by rw [HCN.out]; simp)
                 have hd7 := HLT.out
                 clear hq' hqk HRG
                 go_wp2_with (at_builtin; refine push1P TL wr #[.slice (some ⟨g, 0, none⟩) 3 3] W0.heap.size _ _ _ HOn.out _ _ wr.heap.size rfl rfl rfl rfl rfl rfl (by simp [Value.oneCell']) (by omega) (by omega) HWn.out.size ?_; intro v1 w8 hown1 hgr; obtain ⟨A8, c8, rfl⟩ := own_form hown1; have HB8 := hid (below_push HWn.out HOn.out hgr HWn.out.size (Nat.le_refl _)); have HV8 := hid (HVn.out.grow HOn.out hgr); have HO8 := hid hown1; clear hown1 hgr)
                 go_roundg (gj - 1)
                 case measure => have := HD.out; have := HLT.out; omega
                 case rel => exact ⟨d + 1, A8, c8, vs ++ [.slice (some ⟨g, 0, none⟩) 3 3], by have := HD.out; have := HLT.out; omega, by go_num, by rw [HLN.out], hid (by rw [HLN.out]; exact HO8.out), hid (by rw [HCN.out]; exact HV8.out), HB8⟩
  · obtain rfl : d = 7 := by have := HD.out; omega
    clear hd hlt
    go_wp2
    go_ret
    have h0 := HB.out
    have h1 := HBE.out
    exact ⟨O, oc, vs, rfl, own_more HO.out (by have := h0.size; omega), HV.out, by rw [h1]; exact below_call h0 HW.out (by have := h0.size; omega)⟩
end Go.Proofs.YtnibidmlkbcfkaaGreatDoor
