/- Texts of this proof, one behind the other; each says its condition at its head. -/
import Derived.Test.YtnibidmlkbcfkaaGreatDoorT27
import Derived.Test.YtnibidmlkbcfkaaGreatDoorT25
namespace Go.Proofs.YtnibidmlkbcfkaaGreatDoor
/- Walk of order's add. Condition: an order of six elements at most; the library's table stands. -/
section
open Go.RowKit Go.Shelf
attribute [local go_sem] Oper.semAt_some
attribute [local go_sem ↓] shl_p2 shr_v and_shr
/-- An order with the pair added to some elements. -/
def addK (a : Nat → Nat → Bool) (i j : Nat) (l : List Nat) (p m : Nat) : Bool := if p ∈ l then addA a i j p m else a p m
theorem addK_all {n : Nat} {a : Nat → Nat → Bool} {i j : Nat} {l : List Nat} (h : ∀ x, x ∈ l ↔ (x < n ∧ (a x i || decide (x = i)) = true)) {p : Nat} (hp : p < n) : addK a i j l p = addA a i j p := by
 funext m
 unfold addK
 by_cases hl : p ∈ l
 · rw [if_pos hl]
 · rw [if_neg hl]
   unfold addA
   rw [if_neg]
   intro hc
   refine hl ((h p).2 ⟨hp, ?_⟩)
   simpa [or_comm] using hc
theorem oc_congr {n : Nat} {a b : Nat → Nat → Bool} {p : Nat} (h : p < n → a p = b p) : oc n a p = oc n b p := by
 unfold oc
 by_cases hp : p < n
 · rw [if_pos hp, if_pos hp, h hp]
 · rw [if_neg hp, if_neg hp]
theorem ordC_congr {n : Nat} {a b : Nat → Nat → Bool} (h : ∀ p, p < n → a p = b p) : ordC n a = ordC n b := by
 unfold ordC
 rw [oc_congr (h 0), oc_congr (h 1), oc_congr (h 2), oc_congr (h 3), oc_congr (h 4), oc_congr (h 5)]
theorem ordC_put {n : Nat} {a b : Nat → Nat → Bool} {x : Nat} (hx : x < n) (hn : n ≤ 6) (h : ∀ p, p ≠ x → a p = b p) : (ordC n a).setIfInBounds (1 + x) (.int .i64 (mk n (b x))) = ordC n b := by
 have e : ∀ p, p ≠ x → oc n a p = oc n b p := fun p hp => oc_congr fun _ => h p hp
 have ex : mk n (b x) = oc n b x := by unfold oc; rw [if_pos hx]
 rw [ex]
 unfold ordC
 match x, (show x < 6 by omega), e with
 | 0, _, e => rw [e 1 (by omega), e 2 (by omega), e 3 (by omega), e 4 (by omega), e 5 (by omega)]; rfl
 | 1, _, e => rw [e 0 (by omega), e 2 (by omega), e 3 (by omega), e 4 (by omega), e 5 (by omega)]; rfl
 | 2, _, e => rw [e 0 (by omega), e 1 (by omega), e 3 (by omega), e 4 (by omega), e 5 (by omega)]; rfl
 | 3, _, e => rw [e 0 (by omega), e 1 (by omega), e 2 (by omega), e 4 (by omega), e 5 (by omega)]; rfl
 | 4, _, e => rw [e 0 (by omega), e 1 (by omega), e 2 (by omega), e 3 (by omega), e 5 (by omega)]; rfl
 | 5, _, e => rw [e 0 (by omega), e 1 (by omega), e 2 (by omega), e 3 (by omega), e 4 (by omega)]; rfl
theorem addK_or {n : Nat} {a : Nat → Nat → Bool} {i j x : Nat} {l : List Nat} (hn : n ≤ 6) (hs : (a x i || decide (x = i)) = true) : bits .or .i64 (mk n (addK a i j l x)) (mk n (fun m => a j m || decide (m = j))) = mk n (addA a i j x) := by
 by_cases hl : x ∈ l
 · have h1 : addK a i j l x = addA a i j x := by funext m; unfold addK; rw [if_pos hl]
   rw [h1, mk_or (by omega)]
   apply mk_congr
   intro m _
   unfold addA
   rw [if_pos (by simpa [or_comm] using hs)]
   cases a x m <;> cases a j m <;> simp
 · have h1 : addK a i j l x = a x := by funext m; unfold addK; rw [if_neg hl]
   rw [h1]
   exact add_mk a hn hs
set_option maxRecDepth 100000 in
set_option maxHeartbeats 4000000 in
theorem ordAdd (n : Nat) (a : Nat → Nat → Bool) (i j : Nat) (hn : n ≤ 6) (hi : i < n) (hj : j < n) (w : World) (hT : Tab w) :
 Calls Tryz.prog 40 #[.agg (ordC n a), .int .i64 (i : Nat), .int .i64 (j : Nat)] w fun e w' => e = .returned (.agg (ordC n (addA a i j))) ∧ Below w.heap.size w w' := by
 refine (callsIn_wide (n := 9)).1 ?_
 refine callsIn_of_wp_marks Tryz.func40 rfl trivial ?_ rfl
 simp only [Tryz.ntmps40, List.size_toArray, List.length_cons, List.length_nil, Nat.reduceAdd, Nat.reduceSub, Array.replicate_succ, Array.replicate_zero, List.push_toArray, List.append_toArray, List.nil_append, List.cons_append]
 have HT := hid hT
 have X0 := hid ((Blk.new w 78 (ordC n a)).alloc (.cells #[.int .i64 0, .int .i64 0, .int .i64 0, .int .i64 0, .int .i64 0, .int .i64 0, .int .i64 0] 78))
 have X1 := hid (Blk.new_at (w.alloc (.cells (ordC n a) 78)) 78 #[.int .i64 0, .int .i64 0, .int .i64 0, .int .i64 0, .int .i64 0, .int .i64 0, .int .i64 0] (n := w.heap.size + 1) (by simp))
 have XB := hid (((Below.refl w.heap.size w).alloc (Nat.le_refl _) (.cells (ordC n a) 78)).alloc (by simp) (.cells #[.int .i64 0, .int .i64 0, .int .i64 0, .int .i64 0, .int .i64 0, .int .i64 0, .int .i64 0] 78))
 have cj := ordC_at X0.out (k := j) (by omega)
 rw [show oc n a j = mk n (a j) by unfold oc; rw [if_pos hj]] at cj
 have fj : Fits (j : Int) := ⟨by omega, by omega⟩
 have fi : Fits (i : Int) := ⟨by omega, by omega⟩
 have hj6 : (j : Int) < 6 := by omega
 have hup := up_mk a hn hj
 clear hT
 unfold ordC at X0 X1 XB cj ⊢
 gi_wp2
 generalize hup2 : bits .or .i64 (mk n (a j)) (p2 j) = up at *
 generalize mk n (a j) = vj at *
 generalize (w.alloc (.cells #[.int .i64 (n : Nat), .int .i64 (oc n a 0), .int .i64 (oc n a 1), .int .i64 (oc n a 2), .int .i64 (oc n a 3), .int .i64 (oc n a 4), .int .i64 (oc n a 5)] 78)).alloc (.cells #[.int .i64 0, .int .i64 0, .int .i64 0, .int .i64 0, .int .i64 0, .int .i64 0, .int .i64 0] 78) = W at *
 have cja : (W.alloc (.cells #[.int .i64 0] 3)).cell? ⟨w.heap.size, 1 + j, none⟩ = some (.int .i64 vj) := cell_keep ((Below.refl _ W).alloc (Nat.le_refl _) _) cj
 gi_region
 all_goals gi_wp2
 have Y0 := hid ((X0.out.alloc (.cells #[.int .i64 (mk n fun m => a j m || decide (m = j))] 3)).drew)
 have Y1 := hid ((X1.out.alloc (.cells #[.int .i64 (mk n fun m => a j m || decide (m = j))] 3)).drew)
 have Y2 := hid ((Blk.new W 3 #[.int .i64 (mk n fun m => a j m || decide (m = j))]).drew)
 have YB := hid ((XB.out.alloc XB.out.size (.cells #[.int .i64 (mk n fun m => a j m || decide (m = j))] 3)).drew)
 have hsz := XB.out.size
 have hubl : w.heap.size + 2 ≤ W.heap.size := by have := X1.out.lt; omega
 generalize hub : W.heap.size = ub at *
 generalize (W.alloc (.cells #[.int .i64 (mk n fun m => a j m || decide (m = j))] 3)).drew = G at *
 clear X0 X1 XB cj cja
 have o0 := Y0.out.cell 0
 have o1 := Y0.out.cell 1
 have o2 := Y0.out.cell 2
 have o3 := Y0.out.cell 3
 have o4 := Y0.out.cell 4
 have o5 := Y0.out.cell 5
 have o6 := Y0.out.cell 6
 simp only [List.getElem?_toArray, List.getElem?_cons_zero, List.getElem?_cons_succ] at o0 o1 o2 o3 o4 o5 o6
 have hdn := dn_mk a hn hi
 have HMX : Tryz.prog.follows .mixedOrders = true := by kernel_rfl
 have HBF := hid fun X => belowF n a i hn hi X
 unfold ordC at HBF
 refine wpIn_mono (Q := fun e t wx => match e with | .normal => ∃ w7, Below G.heap.size G w7 ∧ t = ({ tmps := #[.agg #[.int .i64 (n : Nat), .int .i64 (oc n a 0), .int .i64 (oc n a 1), .int .i64 (oc n a 2), .int .i64 (oc n a 3), .int .i64 (oc n a 4), .int .i64 (oc n a 5)], .int .i64 (i : Nat), .int .i64 (j : Nat), .pointer (some ⟨w.heap.size, 0, none⟩), undef, undef, .pointer (some ⟨w.heap.size + 1, 0, none⟩), .pointer (some ⟨ub, 0, none⟩), undef, .int .i64 (j : Nat), .pointer (some ⟨w.heap.size, 1, none⟩), .pointer (some ⟨w.heap.size, 1 + j, none⟩), .int .i64 vj, .int .i64 (j : Nat), .int .i64 (p2 j), .int .i64 (mk n fun m => a j m || decide (m = j)), .agg #[.int .i64 (n : Nat), .int .i64 (oc n a 0), .int .i64 (oc n a 1), .int .i64 (oc n a 2), .int .i64 (oc n a 3), .int .i64 (oc n a 4), .int .i64 (oc n a 5)], .int .i64 (i : Nat), .int .i64 (mk n fun j => a j i), .int .i64 (i : Nat), .int .i64 (p2 i), .int .i64 (mk n fun k => a k i || decide (k = i)), .func (.func 109) #[] #[.pointer (some ⟨w7.heap.size, 0, none⟩)], undef, undef, undef, undef, undef, undef, undef, undef, undef, undef], defers := [] } : Act) ∧ wx = w7.alloc (.cells #[.int .i64 (mk n fun k => a k i || decide (k = i))] 3) | _ => False) ?first5 ?rest5
 case first5 =>
  gi_region_with_o (first | (refine ⟨trivial, ?_⟩; gi_at_call 72; refine (callsIn_wide.2 (HBF.out _)).mono ?_; rintro e w7 ⟨rfl, b7⟩; have B7 := hid b7; clear b7) | (gi_at_call 72; refine (callsIn_wide.2 (HBF.out _)).mono ?_; rintro e w7 ⟨rfl, b7⟩; have B7 := hid b7; clear b7) | (refine ⟨trivial, ?_⟩; gi_at_call 71; refine (callsIn_wide.2 (elementsF _ _)).mono ?_; rintro e w8 ⟨rfl, rfl⟩) | (gi_at_call 71; refine (callsIn_wide.2 (elementsF _ _)).mono ?_; rintro e w8 ⟨rfl, rfl⟩))
  all_goals exact ⟨w7, by first | exact B7.out | exact (Below.refl _ G).drew.trans B7.out, rfl, rfl⟩
 case rest5 =>
  intro e t wx hq
  cases e <;> first | exact hq.elim | skip
  obtain ⟨w7, b7, rfl, rfl⟩ := hq
  obtain ⟨xs, hxs, hxm⟩ := mk_elems hn (fun k => a k i || decide (k = i))
  have HXM := hid hxm
  have HXS := hid hxs
  have hms : mk n (fun k => a k i || decide (k = i)) = ((mkN n (fun k => a k i || decide (k = i)) : Nat) : Int) := rfl
  rw [hms]
  generalize hS : mkN n (fun k => a k i || decide (k = i)) = S at *
  have hbb := b7.alloc b7.size (.cells #[.int .i64 (S : Nat)] 3)
  have Z0 := hid (show Blk (w7.alloc (.cells #[.int .i64 (S : Nat)] 3)) w.heap.size 78 (ordC n a) from Y0.out.keep hbb)
  have Z1 := hid (Y1.out.keep hbb)
  have Z2 := hid (Y2.out.keep hbb)
  have ZB := hid (below_call YB.out hbb YB.out.size)
  have ZC := hid (Blk.new w7 3 #[.int .i64 (S : Nat)])
  have HS7 := hid (show G.heap.size ≤ w7.heap.size from b7.size)
  have HUB := hid (show ub < w7.heap.size from Nat.lt_of_lt_of_le Y2.out.lt b7.size)
  have HUL := hid (show w.heap.size + 1 < w7.heap.size from Nat.lt_of_lt_of_le Y1.out.lt b7.size)
  have HUG := hid hsz
  have HUN := hid (show w.heap.size + 2 ≤ ub from hubl)
  clear b7 hbb hms hS o0 o1 o2 o3 o4 o5 o6 hsz Y0 Y1 Y2 YB hup2 hdn hub hubl
  gi_wp2
  have hsv : (w7.alloc (.cells #[.int .i64 (S : Nat)] 3)).heap.size = w7.heap.size + 1 := by simp
  generalize w7.alloc (.cells #[.int .i64 (S : Nat)] 3) = V at *
  have HSV := hid hsv
  obtain ⟨cb, hcb⟩ : ∃ cb, cb = w7.heap.size := ⟨_, rfl⟩
  rw [← hcb] at HSV HS7 HUB HUL ZC ⊢
  clear hcb hsv
  have HTV := hid (HT.out.below ZB.out)
  refine wp_range (n := 9) (gf := 109) (c := cb) (t := 3) (xs := xs) rfl (fun args w => enters Tryz.func109 (by kernel_rfl) rfl args w) ZC.out (elems_iter 8 _ S xs V HXS.out ZC.out) rfl
   (fun k W => ((Blk W w.heap.size 78 (ordC n (addK a i j (xs.take k))) ∧ Blk W (w.heap.size + 1) 78 #[.int .i64 0, .int .i64 0, .int .i64 0, .int .i64 0, .int .i64 0, .int .i64 0, .int .i64 0]) ∧ Blk W ub 3 #[.int .i64 (mk n fun m => a j m || decide (m = j))]) ∧ Below w.heap.size w W ∧ Tab W)
   (fun _ _ => False) ?_ (fun _ _ _ _ _ hs _ _ => hs) ?_ (fun _ _ h => h.2.2) ⟨⟨⟨by rw [List.take_zero, ordC_congr (b := a) (fun p _ => by funext m; unfold addK; rw [if_neg (by simp)])]; exact Z0.out, Z1.out⟩, Z2.out⟩, ZB.out, HTV.out⟩ ?_ ?_ (fun _ _ _ _ h _ => h.elim)
  · refine OwnFrom.and (OwnFrom.and (OwnFrom.and (fun k X Y row hs hg hr => ?_) (ownFrom_blk _ _ _ _)) (ownFrom_blk _ _ _ _)) (OwnFrom.and (ownFrom_below (Nat.le_refl _) ZB.out.size) (ownFrom_tab (by have := HTV.out.pos; omega)))
    exact ownFrom_blk (β := Nat) V.heap.size w.heap.size _ _ k X Y row hs hg hr
  · rintro q W v ⟨⟨⟨h1, h2⟩, h3⟩, h7, h8⟩
    have := HUB.out
    have := HUL.out
    exact ⟨⟨⟨h1.far (p := ⟨cb, 0, none⟩) (by simp; omega) _, h2.far (p := ⟨cb, 0, none⟩) (by simp; omega) _⟩, h3.far (p := ⟨cb, 0, none⟩) (by simp; omega) _⟩, h7.setCell (p := ⟨cb, 0, none⟩) (by simp; omega) _, h8.grown (setGrown W ⟨cb, 0, none⟩ v) (by have := HT.out.pos; simp; omega)⟩
  · intro l q x W W3 hl hr hin hx hv
    obtain ⟨⟨⟨h1, h2⟩, h3⟩, h7, h8⟩ := hin
    have hmx := (HXM.out x).1 (List.mem_of_getElem? hx)
    have hor := addK_or (i := i) (j := j) (l := xs.take q) hn hmx.2
    have htk : xs.take (q + 1) = xs.take q ++ [x] := by rw [List.take_add_one, hx]; rfl
    have cx := ordC_at h1 (k := x) (by omega)
    have fx := h1.free (1 + x)
    rw [show oc n (addK a i j (xs.take q)) x = mk n (addK a i j (xs.take q) x) by unfold oc; rw [if_pos hmx.1]] at cx
    have hxn : (x : Int) < 6 := by have := hmx.1; omega
    have hxn2 : x < 6 := by have := hmx.1; omega
    have w6 := h3.cell 0
    simp only [List.getElem?_toArray, List.getElem?_cons_zero] at w6
    have hfin : ∀ (t : Act) (W4 : World), W4 = W3.drew.setCell ⟨w.heap.size, 1 + x, none⟩ (.int .i64 (mk n (addA a i j x))) → elemPost V.heap.size cb (fun k W => ((Blk W w.heap.size 78 (ordC n (addK a i j (xs.take k))) ∧ Blk W (w.heap.size + 1) 78 #[.int .i64 0, .int .i64 0, .int .i64 0, .int .i64 0, .int .i64 0, .int .i64 0, .int .i64 0]) ∧ Blk W ub 3 #[.int .i64 (mk n fun m => a j m || decide (m = j))]) ∧ Below w.heap.size w W ∧ Tab W) (fun _ _ => False) (q + 1) W3 .normal t W4 := fun _ W4 hW4 => by
     have h9 : Blk W4 w.heap.size 78 (ordC n (addK a i j (xs.take (q + 1)))) := by
      rw [hW4, htk, ← ordC_put (a := addK a i j (xs.take q)) (b := addK a i j (xs.take q ++ [x])) (x := x) hmx.1 hn (fun p hp => by funext m; unfold addK; simp [hp])]
      rw [show addK a i j (xs.take q ++ [x]) x = addA a i j x by funext m; unfold addK; rw [if_pos (by simp)]]
      exact h1.drew.set (1 + x) _
     have hcl := ZC.out.lt
     subst hW4
     have hul := HUL.out
     have hub := HUB.out
     have hun := HUN.out
     refine ⟨⟨by simp, fun r o hB ho _ => (Below.heap_setCell W3.drew ⟨w.heap.size, 1 + x, none⟩ _ r (by simp; omega)).trans ho⟩, Below.heap_setCell W3.drew ⟨w.heap.size, 1 + x, none⟩ _ cb (by simp; omega), ⟨⟨h9, h2.drew.far (p := ⟨w.heap.size, 1 + x, none⟩) (by simp) _⟩, h3.drew.far (p := ⟨w.heap.size, 1 + x, none⟩) (by simp; omega) _⟩, h7.drew.setCell (p := ⟨w.heap.size, 1 + x, none⟩) (by simp) _, (h8.below (Below.refl _ W3).drew).grown (setGrown W3.drew ⟨w.heap.size, 1 + x, none⟩ _) (by have := HT.out.pos; simp; omega)⟩
    have HFIN := hid hfin
    clear h1 h2 h3 h7 h8 hmx hx hv hl hr hfin htk
    generalize mk n (addK a i j (xs.take q) x) = vx at *
    generalize mk n (addA a i j x) = vy at *
    generalize (mk n fun m => a j m || decide (m = j)) = vu at *
    gi_wp2
    refine ⟨trivial, ?_⟩
    gi_wp2
    refine wpIn_mono (Q := fun e _ W4 => match e with | .normal => W4 = W3.drew.setCell ⟨w.heap.size, 1 + x, none⟩ (.int .i64 vy) | _ => False) ?first6 ?rest6
    case rest6 =>
     intro e t W4 hq
     cases e <;> first | exact hq.elim | skip
     have hq : W4 = W3.drew.setCell ⟨w.heap.size, 1 + x, none⟩ (.int .i64 vy) := hq
     gi_wp2
     exact HFIN.out _ _ rfl
    case first6 =>
     have hne : ¬ ub = w.heap.size := by have := HUN.out; omega
     clear HFIN HXS HXM HUN HUG HUB HUL HS7 HBF HT Z0 Z1 Z2 ZB ZC HSV HTV hn hi hj fi fj hj6
     refine region_round (S := (fun w' => w'.cell? ⟨ub, 0, none⟩ = some (.int .i64 vu))) (by kernel_rfl) (by kernel_rfl) (by rintro ⟨_, _, h⟩; exact h) (by (try dsimp only); (first | exact w6 | exact cell_far _ (p := ⟨w.heap.size, 1 + x, none⟩) hne w6)) (fun hHeld => ?_)
     refine tk ?_ 0 (some 24) rfl rfl ?_ ?_; rotate_left; · (intro w hSw; (try dsimp only at hSw); go_simp <;> with_reducible rfl)
     try simp only [Act.put,qA,qB,qC]
     refine tk ?_ 1 (some 25) rfl rfl ?_ ?_; rotate_left; · (intro w hSw; (try dsimp only at hSw); go_simp <;> with_reducible rfl)
     try simp only [Act.put,qA,qB,qC]
     refine tk ?_ 2 (some 26) rfl rfl ?_ ?_; rotate_left; · (intro w hSw; (try dsimp only at hSw); go_simp <;> with_reducible rfl)
     try simp only [Act.put,qA,qB,qC]
     refine tk ?_ 4 (some 28) rfl rfl ?_ ?_; rotate_left; · (intro w hSw; (try dsimp only at hSw); go_simp <;> with_reducible rfl)
     try simp only [Act.put,qA,qB,qC]
     refine tk ?_ 6 (some 30) rfl rfl ?_ ?_; rotate_left; · (intro w hSw; (try dsimp only at hSw); go_simp <;> with_reducible rfl)
     try simp only [Act.put,qA,qB,qC]
     refine st 3 rfl fun K hK => ?_
     go_simp
     clear hHeld
     refine hK.out _ _ ?_ (fun hHeld => ?_); · ((try dsimp only); (first | exact w6 | exact cell_far _ (p := ⟨w.heap.size, 1 + x, none⟩) hne w6))
     clear hK K
     try simp only [Act.put,qA,qB,qC]
     refine tk ?_ 5 (some 29) rfl rfl ?_ ?_; rotate_left; · (intro w hSw; (try dsimp only at hSw); go_simp <;> with_reducible rfl)
     try simp only [Act.put,qA,qB,qC]
     refine tk ?_ 7 (some 31) rfl rfl ?_ ?_; rotate_left; · (intro w hSw; (try dsimp only at hSw); go_simp <;> with_reducible rfl)
     try simp only [Act.put,qA,qB,qC]
     refine st 8 rfl fun K hK => ?_
     go_simp
     clear hHeld
     refine hK.out _ _ ?_ (fun hHeld => ?_); · ((try dsimp only); (first | exact w6 | exact cell_far _ (p := ⟨w.heap.size, 1 + x, none⟩) hne w6))
     clear hK K
     try simp only [Act.put,qA,qB,qC]
     refine wpAnyH_done (by kernel_rfl) ?_ _
     rfl
  · rintro D W hD ⟨⟨⟨h1, h2⟩, h3⟩, h7, h8⟩ hKD
    have h1 : Blk W w.heap.size 78 (ordC n (addK a i j (xs.take xs.length))) := h1
    rw [List.take_length, ordC_congr (b := addA a i j) (fun p hp => addK_all HXM.out hp)] at h1
    obtain ⟨b, hb⟩ : ∃ b, b = addA a i j := ⟨_, rfl⟩
    rw [← hb] at h1
    have HB := hid hb
    obtain ⟨W2, rfl⟩ : ∃ Y, Y = W := ⟨W, rfl⟩
    have YM := hid ((MarkS.nil w.heap.size W2).cons hKD (by have := ZB.out.size; omega) (by simp))
    have Y0 := hid h1
    have Y1 := hid h2
    have YB := hid h7
    clear h1 h2 h3 h7 h8 hKD hb
    unfold ordC at Y0
    have a0 := Y0.out.cell 0
    have b0 := Y1.out.cell 0
    have e0 := Y1.out.free 0
    have a1 := Y0.out.cell 1
    have b1 := Y1.out.cell 1
    have e1 := Y1.out.free 1
    have a2 := Y0.out.cell 2
    have b2 := Y1.out.cell 2
    have e2 := Y1.out.free 2
    have a3 := Y0.out.cell 3
    have b3 := Y1.out.cell 3
    have e3 := Y1.out.free 3
    have a4 := Y0.out.cell 4
    have b4 := Y1.out.cell 4
    have e4 := Y1.out.free 4
    have a5 := Y0.out.cell 5
    have b5 := Y1.out.cell 5
    have e5 := Y1.out.free 5
    have a6 := Y0.out.cell 6
    have b6 := Y1.out.cell 6
    have e6 := Y1.out.free 6
    simp only [List.getElem?_toArray, List.getElem?_cons_zero, List.getElem?_cons_succ] at a0 a1 a2 a3 a4 a5 a6 b0 b1 b2 b3 b4 b5 b6
    have F1 := hid (show Blk ((((((((W2.setCell ⟨w.heap.size + 1, 0, none⟩ (.int .i64 (n : Nat))).setCell ⟨w.heap.size + 1, 1, none⟩ (.int .i64 (oc n b 0))).setCell ⟨w.heap.size + 1, 2, none⟩ (.int .i64 (oc n b 1))).setCell ⟨w.heap.size + 1, 3, none⟩ (.int .i64 (oc n b 2))).setCell ⟨w.heap.size + 1, 4, none⟩ (.int .i64 (oc n b 3))).setCell ⟨w.heap.size + 1, 5, none⟩ (.int .i64 (oc n b 4))).setCell ⟨w.heap.size + 1, 6, none⟩ (.int .i64 (oc n b 5)))) (w.heap.size + 1) 78 (ordC n b) from (((((((Y1.out.set 0 (.int .i64 (n : Nat))).set 1 (.int .i64 (oc n b 0))).set 2 (.int .i64 (oc n b 1))).set 3 (.int .i64 (oc n b 2))).set 4 (.int .i64 (oc n b 3))).set 5 (.int .i64 (oc n b 4))).set 6 (.int .i64 (oc n b 5))))
    have FB := hid ((((((((YB.out.setCell (p := ⟨w.heap.size + 1, 0, none⟩) (by simp) (.int .i64 (n : Nat))).setCell (p := ⟨w.heap.size + 1, 1, none⟩) (by simp) (.int .i64 (oc n b 0))).setCell (p := ⟨w.heap.size + 1, 2, none⟩) (by simp) (.int .i64 (oc n b 1))).setCell (p := ⟨w.heap.size + 1, 3, none⟩) (by simp) (.int .i64 (oc n b 2))).setCell (p := ⟨w.heap.size + 1, 4, none⟩) (by simp) (.int .i64 (oc n b 3))).setCell (p := ⟨w.heap.size + 1, 5, none⟩) (by simp) (.int .i64 (oc n b 4))).setCell (p := ⟨w.heap.size + 1, 6, none⟩) (by simp) (.int .i64 (oc n b 5))))
    have FM := hid ((((((((YM.out.set Y1.out 0 (.int .i64 (n : Nat))).set (Y1.out.set 0 (.int .i64 (n : Nat))) 1 (.int .i64 (oc n b 0))).set ((Y1.out.set 0 (.int .i64 (n : Nat))).set 1 (.int .i64 (oc n b 0))) 2 (.int .i64 (oc n b 1))).set (((Y1.out.set 0 (.int .i64 (n : Nat))).set 1 (.int .i64 (oc n b 0))).set 2 (.int .i64 (oc n b 1))) 3 (.int .i64 (oc n b 2))).set ((((Y1.out.set 0 (.int .i64 (n : Nat))).set 1 (.int .i64 (oc n b 0))).set 2 (.int .i64 (oc n b 1))).set 3 (.int .i64 (oc n b 2))) 4 (.int .i64 (oc n b 3))).set (((((Y1.out.set 0 (.int .i64 (n : Nat))).set 1 (.int .i64 (oc n b 0))).set 2 (.int .i64 (oc n b 1))).set 3 (.int .i64 (oc n b 2))).set 4 (.int .i64 (oc n b 3))) 5 (.int .i64 (oc n b 4))).set ((((((Y1.out.set 0 (.int .i64 (n : Nat))).set 1 (.int .i64 (oc n b 0))).set 2 (.int .i64 (oc n b 1))).set 3 (.int .i64 (oc n b 2))).set 4 (.int .i64 (oc n b 3))).set 5 (.int .i64 (oc n b 4))) 6 (.int .i64 (oc n b 5))))
    gi_wp2
    generalize (((((((W2.setCell ⟨w.heap.size + 1, 0, none⟩ (.int .i64 (n : Nat))).setCell ⟨w.heap.size + 1, 1, none⟩ (.int .i64 (oc n b 0))).setCell ⟨w.heap.size + 1, 2, none⟩ (.int .i64 (oc n b 1))).setCell ⟨w.heap.size + 1, 3, none⟩ (.int .i64 (oc n b 2))).setCell ⟨w.heap.size + 1, 4, none⟩ (.int .i64 (oc n b 3))).setCell ⟨w.heap.size + 1, 5, none⟩ (.int .i64 (oc n b 4))).setCell ⟨w.heap.size + 1, 6, none⟩ (.int .i64 (oc n b 5))) = F at *
    refine leaves_marks (B := w.heap.size) [D] F FM.out ?_
    exact ⟨_, results_row1 rfl _ _ (w.heap.size + 1) 78 (ordC n b) (0, 0) _ rfl (FM.out.blk F1.out) Tryz.underlying78 rfl (by kernel_rfl), by rw [HB.out]; rfl, FM.out.shutBelow FB.out⟩
end
/- Walk of order.Add at a list that is an order: the contract that state.do asks. Conditions: one to six elements; the library's table stands. -/
section
open Go.RowKit Go.Maps
set_option maxRecDepth 100000 in
set_option maxHeartbeats 4000000 in
theorem addF (l : List Int) (h : OrdI l) (hn6 : l.length ≤ 6) : AddC l := by
 intro U uc i j W hi hj hs hT
 obtain ⟨a, hl, ho⟩ := h
 unfold AddR
 obtain ⟨n, hn⟩ : ∃ n, n = l.length := ⟨_, rfl⟩
 rw [← hn] at hl ho hn6 hi hj hs ⊢
 subst hl
 clear hn
 have hz := addZ_ordL (a := a) hi hj
 have HR := hid (ordRead n a U uc W (by omega) hn6 ho hs hT)
 have HT := hid hT
 have HE1 := hid fun X => elementF n a i hi X
 have HE2 := hid fun X => elementF n a j hj X
 have HSL := hid fun X => ordSlice n (addA a i j) hn6 X
 have HAD := hid fun X (hX : Tab X) => ordAdd n a i j hn6 hi hj X hX
 by_cases hc : i = j ∨ a i j = true ∨ a j i = true
 · rw [if_pos hc] at hz
   have HZ := hid hz
   have HF := hid fun X => freeF n a i j hn6 hi hj false (by simp [hc]) X
   clear hs hT ho hz hc
   unfold ordC at HR HE1 HE2 HF
   generalize oc n a 0 = v0 at *
   generalize oc n a 1 = v1 at *
   generalize oc n a 2 = v2 at *
   generalize oc n a 3 = v3 at *
   generalize oc n a 4 = v4 at *
   generalize oc n a 5 = v5 at *
   go_enter Tryz.func162, Tryz.ntmps162
   go_wp2_with fail
   refine (HR.out).mono ?_; rintro e w1 ⟨rfl, b1⟩
   have HB := hid (b1.alloc b1.size (.cells #[.int .i64 (n : Nat), .int .i64 v0, .int .i64 v1, .int .i64 v2, .int .i64 v3, .int .i64 v4, .int .i64 v5] 78))
   have HO := hid (Blk.new w1 78 #[.int .i64 (n : Nat), .int .i64 v0, .int .i64 v1, .int .i64 v2, .int .i64 v3, .int .i64 v4, .int .i64 v5])
   clear b1
   go_wp2_with fail
   generalize w1.alloc (.cells #[.int .i64 (n : Nat), .int .i64 v0, .int .i64 v1, .int .i64 v2, .int .i64 v3, .int .i64 v4, .int .i64 v5] 78) = X at *
   refine (HE1.out _).mono ?_; rintro e w2 ⟨rfl, b2⟩
   have HB := hid (below_call HB.out b2 HB.out.size)
   have HO := hid (HO.out.keep b2)
   clear b2
   have o0 := HO.out.cell 0
   have o1 := HO.out.cell 1
   have o2 := HO.out.cell 2
   have o3 := HO.out.cell 3
   have o4 := HO.out.cell 4
   have o5 := HO.out.cell 5
   have o6 := HO.out.cell 6
   simp only [List.getElem?_toArray, List.getElem?_cons_zero, List.getElem?_cons_succ] at o0 o1 o2 o3 o4 o5 o6
   go_wp2_with fail
   clear o0 o1 o2 o3 o4 o5 o6
   refine (HE2.out _).mono ?_; rintro e w3 ⟨rfl, b3⟩
   have HB := hid (below_call HB.out b3 HB.out.size)
   have HO := hid (HO.out.keep b3)
   clear b3
   have o0 := HO.out.cell 0
   have o1 := HO.out.cell 1
   have o2 := HO.out.cell 2
   have o3 := HO.out.cell 3
   have o4 := HO.out.cell 4
   have o5 := HO.out.cell 5
   have o6 := HO.out.cell 6
   simp only [List.getElem?_toArray, List.getElem?_cons_zero, List.getElem?_cons_succ] at o0 o1 o2 o3 o4 o5 o6
   go_wp2_with fail
   refine (HF.out _).mono ?_; rintro e w4 ⟨rfl, b4⟩
   have HB := hid (below_call HB.out b4 HB.out.size)
   clear b4
   go_wp2
   go_ret2
   rw [HZ.out]
   exact ⟨.inr ⟨by simp, rfl⟩, HB.out⟩
 · rw [if_neg hc] at hz
   have HZ := hid hz
   have HF := hid fun X => freeF n a i j hn6 hi hj true (by simp [hc]) X
   clear hs hT ho hz hc
   unfold ordC at HR HE1 HE2 HF HSL HAD
   generalize oc n a 0 = v0 at *
   generalize oc n a 1 = v1 at *
   generalize oc n a 2 = v2 at *
   generalize oc n a 3 = v3 at *
   generalize oc n a 4 = v4 at *
   generalize oc n a 5 = v5 at *
   go_enter Tryz.func162, Tryz.ntmps162
   go_wp2_with fail
   refine (HR.out).mono ?_; rintro e w1 ⟨rfl, b1⟩
   have HB := hid (b1.alloc b1.size (.cells #[.int .i64 (n : Nat), .int .i64 v0, .int .i64 v1, .int .i64 v2, .int .i64 v3, .int .i64 v4, .int .i64 v5] 78))
   have HO := hid (Blk.new w1 78 #[.int .i64 (n : Nat), .int .i64 v0, .int .i64 v1, .int .i64 v2, .int .i64 v3, .int .i64 v4, .int .i64 v5])
   clear b1
   go_wp2_with fail
   generalize w1.alloc (.cells #[.int .i64 (n : Nat), .int .i64 v0, .int .i64 v1, .int .i64 v2, .int .i64 v3, .int .i64 v4, .int .i64 v5] 78) = X at *
   refine (HE1.out _).mono ?_; rintro e w2 ⟨rfl, b2⟩
   have HB := hid (below_call HB.out b2 HB.out.size)
   have HO := hid (HO.out.keep b2)
   clear b2
   have o0 := HO.out.cell 0
   have o1 := HO.out.cell 1
   have o2 := HO.out.cell 2
   have o3 := HO.out.cell 3
   have o4 := HO.out.cell 4
   have o5 := HO.out.cell 5
   have o6 := HO.out.cell 6
   simp only [List.getElem?_toArray, List.getElem?_cons_zero, List.getElem?_cons_succ] at o0 o1 o2 o3 o4 o5 o6
   go_wp2_with fail
   clear o0 o1 o2 o3 o4 o5 o6
   refine (HE2.out _).mono ?_; rintro e w3 ⟨rfl, b3⟩
   have HB := hid (below_call HB.out b3 HB.out.size)
   have HO := hid (HO.out.keep b3)
   clear b3
   have o0 := HO.out.cell 0
   have o1 := HO.out.cell 1
   have o2 := HO.out.cell 2
   have o3 := HO.out.cell 3
   have o4 := HO.out.cell 4
   have o5 := HO.out.cell 5
   have o6 := HO.out.cell 6
   simp only [List.getElem?_toArray, List.getElem?_cons_zero, List.getElem?_cons_succ] at o0 o1 o2 o3 o4 o5 o6
   go_wp2_with fail
   clear o0 o1 o2 o3 o4 o5 o6
   refine (HF.out _).mono ?_; rintro e w4 ⟨rfl, b4⟩
   have HB := hid (below_call HB.out b4 HB.out.size)
   have HO := hid (HO.out.keep b4)
   clear b4
   have o0 := HO.out.cell 0
   have o1 := HO.out.cell 1
   have o2 := HO.out.cell 2
   have o3 := HO.out.cell 3
   have o4 := HO.out.cell 4
   have o5 := HO.out.cell 5
   have o6 := HO.out.cell 6
   simp only [List.getElem?_toArray, List.getElem?_cons_zero, List.getElem?_cons_succ] at o0 o1 o2 o3 o4 o5 o6
   go_wp2_with fail
   clear o0 o1 o2 o3 o4 o5 o6
   refine (HAD.out _ (HT.out.below HB.out)).mono ?_; rintro e w5 ⟨rfl, b5⟩
   have HB := hid (below_call HB.out b5 HB.out.size)
   clear b5
   go_wp2_with fail
   refine (HSL.out _).mono ?_; rintro e w6 ⟨A, c, rfl, ho, b6⟩
   have HW := hid (own_more ho HB.out.size)
   have HB := hid (below_call HB.out b6 HB.out.size)
   clear b6 ho
   go_wp2
   go_ret2
   rw [HZ.out]
   exact ⟨.inl ⟨rfl, A, c, rfl, HW.out⟩, HB.out⟩
theorem doF (G : Nat → Prop) (sb : Nat) (s : Bk) (x : ByteArray) (w : World) (hb : BkI s) (hs : x.size ≤ 100000000) (hm : EnvN w) (hT : Tab w) (hst : StR w G sb s) :
 Calls Tryz.prog 53 #[.pointer (some ⟨sb, 0, none⟩), .string x] w fun r w' => DoR w sb (doL s x) r w' :=
 doAny G sb s x hs w hm hT hst hb.1 (addF s.above hb.2 (by have := hb.1.abv; have := hb.1.med; omega))
end
/- What stands while a mint does a line. No condition. -/
section
open Go.RowKit Go.Maps
theorem lineL_ln {r0 r1 : Nat} {x : ByteArray} {q : List ByteArray × List Int} (h : lineL r0 r1 x = some q) : x.size ≤ 60 := by
 unfold lineL at h
 split at h
 · rename_i hc
   rw [Bool.and_eq_true] at hc
   have h2 := hc.2
   unfold isLn at h2
   rw [Bool.and_eq_true] at h2
   exact of_decide_eq_true h2.1
 · cases h
theorem doL_size {s : Bk} {x : ByteArray} (h : (doL s x).2 = 0) : x.size ≤ 60 := by
 unfold doL at h
 split at h
 · split at h
   · rename_i hl; exact lineL_ln hl
   · cases h
 · split at h
   · split at h
     · rename_i hl; exact lineL_ln hl
     · cases h
   · split at h
     · split at h
       · rename_i hl; exact lineL_ln hl
       · cases h
     · split at h
       · split at h
         · rename_i hl; exact lineL_ln hl
         · cases h
       · split at h
         · split at h
           · rename_i hl; exact lineL_ln hl
           · cases h
         · split at h
           · split at h
             · rename_i hl; exact lineL_ln hl
             · cases h
           · split at h
             · split at h
               · rename_i hl; exact lineL_ln hl
               · cases h
             · cases h
/-- Put at one copy. -/
theorem putC (i : Nat) (k : Int) (x : ByteArray) (p : Nat × Nat) (c : Cp) (w : World) (h : CpM w p.1 p.2 c.mark c.away c.ent) (ha : c.away = false) (hi : i < 200) (h0 : 0 ≤ k) (h1 : k ≤ 1000000000) (hx : x.size ≤ 60) :
 Calls Tryz.prog 56 #[.pointer (some ⟨p.1, 0, none⟩), .int .i64 (i : Nat), .int .i64 k, .string x] w fun e w' => e = .returned (.int .i64 (if k < c.mark then 5 else 0)) ∧ CpM w' p.1 p.2 (c.put i k x).mark (c.put i k x).away (c.put i k x).ent ∧ Chs (fun b => b = p.1 ∨ b = p.2) w w' := by
 have hp : putR c.away c.mark (i : Nat) k x = if k < c.mark then 5 else 0 := by
  unfold putR putOk
  rw [ha, decide_eq_true (show (0 : Int) ≤ (i : Nat) by omega), decide_eq_true (show ((i : Nat) : Int) < 200 by omega), decide_eq_true h0, decide_eq_true h1, decide_eq_true hx]
  rfl
 refine (putF (i : Nat) k x p.1 p.2 c.mark c.away c.ent w h).mono fun e w' ⟨h1, h2, h3⟩ => ?_
 rw [hp] at h1 h2
 refine ⟨h1, ?_, h3⟩
 unfold Cp.put
 by_cases hk : k < c.mark
 · rw [if_pos hk] at h2 ⊢
   rcases h2 with ⟨_, h2⟩ | ⟨h2, _⟩
   · exact h2
   · exact absurd h2 (by decide)
 · rw [if_neg hk] at h2 ⊢
   rcases h2 with ⟨h2, _⟩ | ⟨_, h2⟩
   · exact absurd rfl h2
   · simpa using h2
/-- Promise at one copy, of a mark that is greater. -/
theorem promC (k : Int) (p : Nat × Nat) (c : Cp) (w : World) (h : CpM w p.1 p.2 c.mark c.away c.ent) (ha : c.away = false) (h0 : 0 ≤ k) (h1 : k ≤ 1000000000) (hm : c.mark < k) :
 Calls Tryz.prog 63 #[.pointer (some ⟨p.1, 0, none⟩), .int .i64 k] w fun e w' => e = .returned (.int .i64 0) ∧ CpM w' p.1 p.2 (c.prom k).mark (c.prom k).away (c.prom k).ent ∧ Chs (fun b => b = p.1 ∨ b = p.2) w w' := by
 have hp : prmR c.away c.mark k = (0, k) := by
  unfold prmR
  rw [ha, if_neg (by simp), if_neg (by omega), if_neg (by omega)]
 refine (promiseF k p.1 p.2 c.mark c.away c.ent w h).mono fun e w' ⟨h1, h2, h3⟩ => ?_
 rw [hp] at h1 h2
 exact ⟨h1, h2, h3.mono fun i hi => .inl hi⟩
/-- What stands while a line is put into the copies: the mint as it was, its new books, and what was changed. -/
structure DoH (w W : World) (K : Nat) (R : Nat → Prop) (m : Nat) (d : Value) (L : List (Nat × Nat)) (k : Int) (s : Bk) (J : List ByteArray) (C : List Cp) (nb : Nat) (s' : Bk) (nr : Nat) (r : Value) : Prop where
 mm : MinM W R m d L k s J false
 cps : CpsM W L C
 st : StR W (Iv w.heap.size K) nb s'
 kl : w.heap.size ≤ K ∧ K ≤ W.heap.size
 own2 : W.ownsRow K 67 1 r nr (ptrs (onB L C))
 chs : Chs (fun i => inL L i ∨ footM m d i) w W
 ap : ∀ i, inL L i → ¬ R i ∧ ¬ footM m d i
 lo : ∀ i, inL L i ∨ footM m d i ∨ R i → i < w.heap.size
/-- What Do leaves. -/
def DoneM (w w' : World) (R : Nat → Prop) (m : Nat) (d : Value) (L : List (Nat × Nat)) (k : Int) (q : List Cp × Bk × List ByteArray × Bool × Nat) : Prop :=
 ∃ R' d', MinM w' R' m d' L k q.2.1 q.2.2.1 q.2.2.2.1 ∧ CpsM w' L q.1 ∧ Chs (fun i => inL L i ∨ footM m d i) w w' ∧ (∀ i, R' i → R i ∨ w.heap.size ≤ i) ∧ ∀ i, footM m d' i → footM m d i ∨ w.heap.size ≤ i
section
variable {w W W' : World} {K : Nat} {R : Nat → Prop} {m : Nat} {d : Value} {L : List (Nat × Nat)} {k : Int} {s : Bk} {J : List ByteArray} {C : List Cp} {nb : Nat} {s' : Bk} {nr : Nat} {r : Value}
theorem DoH.below (h : DoH w W K R m d L k s J C nb s' nr r) (hb : Below W.heap.size W W') : DoH w W' K R m d L k s J C nb s' nr r :=
 ⟨h.mm.below hb, h.cps.below hb, h.st.below hb, ⟨h.kl.1, Nat.le_trans h.kl.2 hb.size⟩, own_below h.own2 hb, h.chs.trans (Chs.of_below hb), h.ap, h.lo⟩
theorem DoH.copy {i : Nat} {p : Nat × Nat} {c c' : Cp} (h : DoH w W K R m d L k s J C nb s' nr r) (hp : L[i]? = some p) (hcc : C[i]? = some c) (haw : c'.away = c.away) (hc : CpM W' p.1 p.2 c'.mark c'.away c'.ent) (hg : Chs (fun b => b = p.1 ∨ b = p.2) W W') : DoH w W' K R m d L k s J (C.set i c') nb s' nr r := by
 have hin : ∀ b, b = p.1 ∨ b = p.2 → inL L b := fun b e => by
  rcases e with rfl | rfl
  · exact inL_1 hp
  · exact inL_2 hp
 have hlow : ∀ b, b = p.1 ∨ b = p.2 → b < w.heap.size := fun b e => h.lo b (.inl (hin b e))
 refine ⟨h.mm.chs hg (fun j hj e => (h.ap j (hin j e)).1 hj) (fun j hj e => (h.ap j (hin j e)).2 hj), h.cps.put hp hc hg, h.st.chs hg (fun j hj e => by have := hlow j e; have := hj.1; omega), ⟨h.kl.1, Nat.le_trans h.kl.2 hg.size⟩, ?_, h.chs.trans (hg.mono fun j e => .inl (hin j e)), h.ap, h.lo⟩
 rw [onB_away (away_set hcc haw)]
 exact own_chsM h.own2 hg fun g hgv e => by
  have h1 := (h.own2.lt g hgv).1
  have h2 := hlow g e
  have h3 := h.kl.1
  omega
/-- Nothing is done: as it was. -/
theorem DoH.leave {n : Nat} (h : DoH w W K R m d L k s J C nb s' nr r) : DoneM w W R m d L k (C, s, J, false, n) :=
 ⟨R, d, h.mm, h.cps, h.chs, fun _ hi => .inl hi, fun _ hi => .inl hi⟩
/-- Most copies refused: the mint is out. -/
theorem DoH.gone {n : Nat} (h : DoH w W K R m d L k s J C nb s' nr r) : DoneM w (W.setCell ⟨m, 4, none⟩ (.bool true)) R m d L k (C, s, J, true, n) := by
 have hs : Chs (· = m) W (W.setCell ⟨m, 4, none⟩ (.bool true)) := Chs.setCell (S := (· = m)) (a := ⟨m, 4, none⟩) rfl _
 obtain ⟨sb, A, ca, h1, h2, h3, h4⟩ := h.mm.ex
 have hr : ∀ i, R i → ¬ i = m := fun i hi e => h.mm.nr (by rw [← e]; exact hi)
 refine ⟨R, d, ⟨⟨sb, A, ca, h1.set 4 _, h2.chs hs (fun a e => hr _ (h4 a e)), h3.chs hs hr, h4⟩, own_grown h.mm.own h1 (by decide) (setGrown W ⟨m, 4, none⟩ _), h.mm.ap, h.mm.nr, fun i hi => by simpa using h.mm.lt i hi⟩, h.cps.chs hs (fun i hi e => (h.ap i hi).2 (.inl e)), h.chs.trans (hs.mono fun i e => .inr (.inl e)), fun _ hi => .inl hi, fun _ hi => .inl hi⟩
/-- The line is done. -/
theorem DoH.fin {n : Nat} {w8 : World} {d' : Value} {J' : List ByteArray} (h : DoH w W K R m d L k s J C nb s' nr r) (ho : w8.ownsRow 0 9 1 d' J'.length (strV J')) (hg : (W.setCell ⟨m, 2, none⟩ (.pointer (some ⟨nb, 0, none⟩))).grownBy w8 d.ownBlock)
 (hl : d'.ownBlock = d.ownBlock ∨ ∀ g, d'.ownBlock = some g → W.heap.size ≤ g) : DoneM w (w8.setCell ⟨m, 3, none⟩ d') R m d L k (C, s', J', false, n) := by
 obtain ⟨sb, A, ca, h1, h2, h3, h4⟩ := h.mm.ex
 have c1 : Chs (footM m d) W (W.setCell ⟨m, 2, none⟩ (.pointer (some ⟨nb, 0, none⟩))) := Chs.setCell (S := footM m d) (a := ⟨m, 2, none⟩) (.inl rfl) _
 have c2 : Chs (footM m d) (W.setCell ⟨m, 2, none⟩ (.pointer (some ⟨nb, 0, none⟩))) w8 := ⟨hg.os, hg.tape, hg.output, hg.size, fun i hi hs => hg.block i hi fun e => hs (.inr e.symm)⟩
 have c3 : Chs (footM m d) w8 (w8.setCell ⟨m, 3, none⟩ d') := Chs.setCell (S := footM m d) (a := ⟨m, 3, none⟩) (.inl rfl) _
 have call : Chs (footM m d) W (w8.setCell ⟨m, 3, none⟩ d') := c1.trans (c2.trans c3)
 have hrf : ∀ i, R i → ¬ footM m d i := fun i hi e => by
  rcases e with e | e
  · exact h.mm.nr (by rw [← e]; exact hi)
  · exact h.mm.ap i e hi
 have hm1 : MintB (W.setCell ⟨m, 2, none⟩ (.pointer (some ⟨nb, 0, none⟩))) m (.slice A L.length ca) k nb d false := h1.set 2 _
 have hm8 : MintB w8 m (.slice A L.length ca) k nb d false := hm1.grown hg (own_ne_blk h.mm.own h1 (by decide))
 have hlm := h.lo m (.inr (.inl (.inl rfl)))
 have hk1 := h.kl.1
 have hk2 := h.kl.2
 refine ⟨fun i => (∃ a, A = some a ∧ a.block = i) ∨ Iv w.heap.size K i, d', ⟨⟨nb, A, ca, hm8.set 3 d', h2.chs call (fun a e => hrf _ (h4 a e)), (h.st.chs call fun i hi e => ?_).mono fun i hi => .inr hi, fun a e => .inl ⟨a, e, rfl⟩⟩, own_grown ho hm8 (by decide) (setGrown w8 ⟨m, 3, none⟩ d'), fun g hgd hgr => ?_, fun hmr => ?_, fun i hi => ?_⟩, h.cps.chs call (fun i hi e => (h.ap i hi).2 e), h.chs.trans (call.mono fun i e => .inr e), fun i hi => ?_, fun i hi => ?_⟩
 · have h5 := h.lo i (.inr (.inl e))
   have h6 := hi.1
   omega
 · rcases hl with hl | hl
   · rw [hl] at hgd
     have h5 := h.lo g (.inr (.inl (.inr hgd)))
     rcases hgr with ⟨a, ha, rfl⟩ | hgr
     · exact h.mm.ap _ hgd (h4 a ha)
     · have := hgr.1
       omega
   · have h5 := hl g hgd
     rcases hgr with ⟨a, ha, rfl⟩ | hgr
     · have := h.lo _ (.inr (.inr (h4 a ha)))
       omega
     · have := hgr.2
       omega
 · rcases hmr with ⟨a, ha, rfl⟩ | hmr
   · exact h.mm.nr (h4 a ha)
   · have := hmr.1
     omega
 · have h8 := call.size
   rcases hi with ⟨a, ha, rfl⟩ | hi
   · have := h.lo _ (.inr (.inr (h4 a ha)))
     omega
   · have := hi.2
     omega
 · rcases hi with ⟨a, ha, rfl⟩ | hi
   · exact .inl (h4 a ha)
   · exact .inr hi.1
 · rcases hi with hi | hi
   · exact .inl (.inl hi)
   · rcases hl with hl | hl
     · exact .inl (.inr (by rw [← hl]; exact hi))
     · exact .inr (by have := hl i hi; omega)
end
theorem DoneM.below {w W W' : World} {R : Nat → Prop} {m : Nat} {d : Value} {L : List (Nat × Nat)} {k : Int} {q : List Cp × Bk × List ByteArray × Bool × Nat} (h : DoneM w W R m d L k q) (hb : Below W.heap.size W W') : DoneM w W' R m d L k q := by
 obtain ⟨R', d', h1, h2, h3, h4, h5⟩ := h
 exact ⟨R', d', h1.below hb, h2.below hb, h3.trans (Chs.of_below hb), h4, h5⟩
/-- How many of the first copies in reach took a line. -/
def tookN (k : Int) (C : List Cp) (d : Nat) : Nat := ((onC C).take d).countP fun c => decide (c.mark ≤ k)
theorem tookN_succ {k : Int} {C : List Cp} {d : Nat} {c : Cp} (h : (onC C)[d]? = some c) : tookN k C (d + 1) = tookN k C d + if k < c.mark then 0 else 1 := by
 unfold tookN
 rw [List.take_add_one, h, List.countP_append]
 by_cases hk : k < c.mark
 · rw [if_pos hk]
   have : decide (c.mark ≤ k) = false := decide_eq_false (by omega)
   simp [this]
 · rw [if_neg hk]
   have : decide (c.mark ≤ k) = true := decide_eq_true (by omega)
   simp [this]
theorem tookN_all {k : Int} {C : List Cp} : tookN k C (reachN C) = C.countP fun c => !c.away && decide (c.mark ≤ k) := by
 unfold tookN
 rw [List.take_of_length_le (by rw [onC_len]; exact Nat.le_refl _)]
 unfold onC
 rw [List.countP_filter]
 congr 1
 funext c
 rw [Bool.and_comm]
theorem tookN_le {k : Int} {C : List Cp} {d : Nat} : tookN k C d ≤ d := by
 unfold tookN
 refine Nat.le_trans List.countP_le_length ?_
 rw [List.length_take]
 omega
end
end Go.Proofs.YtnibidmlkbcfkaaGreatDoor
