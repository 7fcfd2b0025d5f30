/- Texts of this proof, one behind the other; each says its condition at its head. -/
import Derived.Test.YtnibidmlkbcfkaaGreatDoorT26
import Derived.Test.YtnibidmlkbcfkaaGreatDoorT5
namespace Go.Proofs.YtnibidmlkbcfkaaGreatDoor
/- Walk of order's read at a list that is an order. Conditions: one to six elements; the library's table of 64 numbers stands in its variable. -/
section
open Go.RowKit Go.Shelf
attribute [local go_sem] Oper.semAt_some
attribute [local go_sem ↓] shl_p2 shr_v and_shr
/-- Cells with others put from a place on. -/
def setA (cs : Array Value) : Nat → List Value → Array Value
 | _, [] => cs
 | o, v :: r => setA (cs.setIfInBounds o v) (o + 1) r
theorem setCells_blk {b : Nat} {t : TypeId} : ∀ (vs : List Value) (o : Nat) (W : World) (cs : Array Value), Blk W b t cs → Blk (W.setCells b o vs) b t (setA cs o vs)
 | [], _, _, _, h => h
 | v :: r, o, _, _, h => setCells_blk r (o + 1) _ _ (h.set o v)
theorem setCells_far {b c : Nat} {t : TypeId} {cs : Array Value} (hne : c ≠ b) : ∀ (vs : List Value) (o : Nat) (W : World), Blk W c t cs → Blk (W.setCells b o vs) c t cs
 | [], _, _, h => h
 | v :: r, o, _, h => setCells_far hne r (o + 1) _ (h.far (p := ⟨b, o, none⟩) hne v)
theorem setCells_below {B b : Nat} {w : World} (hb : B ≤ b) : ∀ (vs : List Value) (o : Nat) (W : World), Below B w W → Below B w (W.setCells b o vs)
 | [], _, _, h => h
 | v :: r, o, _, h => setCells_below hb r (o + 1) _ (h.setCell (p := ⟨b, o, none⟩) hb v)
/-- The order's cells before its numbers are in. -/
def ordZ (n : Nat) : Array Value := #[.int .i64 (n : Nat), .int .i64 0, .int .i64 0, .int .i64 0, .int .i64 0, .int .i64 0, .int .i64 0]
theorem ord_set (n : Nat) (a : Nat → Nat → Bool) (hn : n ≤ 6) : setA (ordZ n) 1 (intV (ordL n a)) = ordC n a := by
 match n, hn with
 | 0, _ => rfl
 | 1, _ => rfl
 | 2, _ => rfl
 | 3, _ => rfl
 | 4, _ => rfl
 | 5, _ => rfl
 | 6, _ => rfl
theorem intV_ordL {n : Nat} {a : Nat → Nat → Bool} {k : Nat} (hk : k < n) : (intV (ordL n a))[k]? = some (.int .i64 (mk n (a k))) := by
 unfold intV ordL
 rw [List.getElem?_map, List.getElem?_map, List.getElem?_range hk]
 rfl
/-- The slots at a round's start. -/
def rdT (z b o n c k : Nat) (f : Nat → Value) : Array Value :=
 #[.slice (some ⟨b, o, none⟩) n c, .pointer (some ⟨z, 0, none⟩), .pointer (some ⟨z + 1, 0, none⟩), .pointer (some ⟨z + 1 + 1, 0, none⟩), .pointer (some ⟨z + 1 + 1 + 1, 0, none⟩), f 5, f 6, f 7,
  .slice (some ⟨b, o, none⟩) n c, .int .i64 (n : Nat), .agg #[.int .i64 (n : Nat), .int .i64 0, .int .i64 0, .int .i64 0, .int .i64 0, .int .i64 0, .int .i64 0],
  .slice (some ⟨b, o, none⟩) n c, .int .i64 (n : Nat), .bool false, .bool false, .slice (some ⟨b, o, none⟩) n c, .int .i64 (n : Nat), .bool false, .bool false, f 19,
  .pointer (some ⟨z + 1 + 1 + 1, 1, none⟩), .slice (some ⟨z + 1 + 1 + 1, 1, none⟩) 6 6, .slice (some ⟨b, o, none⟩) n c, .int .i64 (n : Nat), .slice (some ⟨b, o, none⟩) n c, .int .i64 (n : Nat), .int .i64 (k : Nat),
  f 27, f 28, f 29, f 30, f 31, f 32, f 33, f 34, f 35, f 36, f 37, f 38, f 39, f 40, f 41, f 42, f 43, f 44, f 45, f 46, f 47, f 48, f 49, f 50, f 51, f 52, f 53, f 54, f 55, f 56, f 57, f 58, f 59, f 60]
theorem rdT_ex {z b o n c k : Nat} {T : Array Value} (h : T = rdT z b o n c k (fun i => T.getD i undef)) : ∃ f, T = rdT z b o n c k f := ⟨_, h⟩
theorem ownFrom_marks {β : Type} {B B0 : Nat} {Ds : List Nat} (h : ∀ D ∈ Ds, D < B) : OwnFrom B (fun (_ : β) W => MarkS B0 Ds W) := fun _ X Y row hs hg hr =>
 ⟨fun D hD => (hg.block D (hs.lt D hD) (fun e => by have := (hr _ e.symm).1; have := h D hD; omega)).trans (hs.at_ D hD), hs.nod, hs.low⟩
/-- A round's number. -/
def rdK (t : Act) : Nat := match t.tmps.getD 26 undef with
 | .int _ x => x.toNat
 | _ => 0
set_option maxRecDepth 100000 in
set_option maxHeartbeats 4000000 in
theorem ordRead (n : Nat) (a : Nat → Nat → Bool) (A : Option Addr) (c : Nat) (w : World) (h1 : 1 ≤ n) (hn : n ≤ 6) (ho : OrdOk n a) (hs : Sl w A n c (intV (ordL n a))) (hT : Tab w) :
 Calls Tryz.prog 42 #[.slice A n c] w fun e w' => e = .returned (.tuple #[.agg (ordC n a), .bool true]) ∧ Below w.heap.size w w' := by
 obtain ⟨b, o, rfl, lb, hca⟩ := hs.pos (by omega)
 have HCA := hid fun (k : Nat) (hk : k < n) => hca k _ (intV_ordL (a := a) hk)
 refine (callsIn_wide (n := 9)).1 ?_
 refine callsIn_of_wp_marks Tryz.func42 rfl trivial ?_ rfl
 simp only [Tryz.ntmps42, List.size_toArray, List.length_cons, List.length_nil, Nat.reduceAdd, Nat.reduceSub, Array.replicate_succ, Array.replicate_zero, List.push_toArray, List.append_toArray, List.nil_append, List.cons_append]
 have HT := hid hT
 have HCC := hid hca
 have X0 := hid ((((Blk.new w 36 #[.slice (some ⟨b, o, none⟩) n c]).alloc (.cells #[.int .i64 0, .int .i64 0, .int .i64 0, .int .i64 0, .int .i64 0, .int .i64 0, .int .i64 0] 78)).alloc (.cells #[.bool false] 4)).alloc (.cells (ordZ n) 78))
 have X1 := hid (((Blk.new_at (w.alloc (.cells #[.slice (some ⟨b, o, none⟩) n c] 36)) 78 #[.int .i64 0, .int .i64 0, .int .i64 0, .int .i64 0, .int .i64 0, .int .i64 0, .int .i64 0] (n := w.heap.size + 1) (by simp)).alloc (.cells #[.bool false] 4)).alloc (.cells (ordZ n) 78))
 have X2 := hid ((Blk.new_at ((w.alloc (.cells #[.slice (some ⟨b, o, none⟩) n c] 36)).alloc (.cells #[.int .i64 0, .int .i64 0, .int .i64 0, .int .i64 0, .int .i64 0, .int .i64 0, .int .i64 0] 78)) 4 #[.bool false] (n := w.heap.size + 1 + 1) (by simp)).alloc (.cells (ordZ n) 78))
 have X3 := hid (Blk.new_at (((w.alloc (.cells #[.slice (some ⟨b, o, none⟩) n c] 36)).alloc (.cells #[.int .i64 0, .int .i64 0, .int .i64 0, .int .i64 0, .int .i64 0, .int .i64 0, .int .i64 0] 78)).alloc (.cells #[.bool false] 4)) 78 (ordZ n) (n := w.heap.size + 1 + 1 + 1) (by simp))
 have XB := hid (((((Below.refl w.heap.size w).alloc (Nat.le_refl _) (.cells #[.slice (some ⟨b, o, none⟩) n c] 36)).alloc (by simp) (.cells #[.int .i64 0, .int .i64 0, .int .i64 0, .int .i64 0, .int .i64 0, .int .i64 0, .int .i64 0] 78)).alloc (by simp; omega) (.cells #[.bool false] 4)).alloc (by simp; omega) (.cells (ordZ n) 78))
 have g1 : decide ((n : Int) < 1) = false := decide_eq_false (by omega)
 have g2 : decide ((n : Int) > 6) = false := decide_eq_false (by omega)
 have g3 : decide ((6 : Int) < (n : Int)) = false := decide_eq_false (by omega)
 have HN1 := hid h1
 have HN6 := hid hn
 have g4 : decide (n < 1) = false := decide_eq_false (by omega)
 have g5 : decide (6 < n) = false := decide_eq_false (by omega)
 have HOK := hid ho
 clear hT hs hca ho
 simp only [ordZ] at X0 X1 X2 X3 XB
 gi_wp2
 generalize ((((w.alloc (.cells #[.slice (some ⟨b, o, none⟩) n c] 36)).alloc (.cells #[.int .i64 0, .int .i64 0, .int .i64 0, .int .i64 0, .int .i64 0, .int .i64 0, .int .i64 0] 78)).alloc (.cells #[.bool false] 4)).alloc (.cells #[.int .i64 (n : Nat), .int .i64 0, .int .i64 0, .int .i64 0, .int .i64 0, .int .i64 0, .int .i64 0] 78)) = W at *
 have x0 := X0.out.cell 0
 simp only [List.getElem?_toArray, List.getElem?_cons_zero] at x0
 have hlen : (intV (ordL n a)).length = n := by unfold intV; rw [List.length_map, ordL_len]
 have hcp := run_copy_cells (P := Tryz.prog) W.drew 36 36 3 3 (w.heap.size + 1 + 1 + 1) 1 6 6 ⟨b, o, none⟩ n c (intV (ordL n a)) Tryz.underlying36 (by kernel_rfl) (by rw [hlen]; exact (Nat.min_eq_left hn).symm) (fun j v hv => by
  have hadd : (⟨b, o, none⟩ : Addr).add j = ⟨b, o + j, none⟩ := by unfold Addr.add; split <;> simp_all
  rw [hadd]
  exact cell_keep XB.out.drew (HCC.out j v hv)) (fun j hj => by
  rw [X3.out.drew.cell (1 + j)]
  rw [hlen] at hj
  rw [Array.getElem?_eq_getElem (by simp; omega)]
  rfl) (fun j hj => X3.out.drew.free _) (intV_one _)
 rw [hlen] at hcp
 have hzz : setA (ordZ n) 1 (intV (ordL n a)) = ordC n a := ord_set n a hn
 unfold ordZ at hzz
 have Y0 := hid (setCells_far (b := w.heap.size + 1 + 1 + 1) (by omega) (intV (ordL n a)) 1 W.drew X0.out.drew)
 have Y1 := hid (setCells_far (b := w.heap.size + 1 + 1 + 1) (by omega) (intV (ordL n a)) 1 W.drew X1.out.drew)
 have Y2 := hid (setCells_far (b := w.heap.size + 1 + 1 + 1) (by omega) (intV (ordL n a)) 1 W.drew X2.out.drew)
 have Y3 := hid (show Blk (W.drew.setCells (w.heap.size + 1 + 1 + 1) 1 (intV (ordL n a))) (w.heap.size + 1 + 1 + 1) 78 (ordC n a) from by rw [← hzz]; exact setCells_blk (intV (ordL n a)) 1 W.drew _ X3.out.drew)
 have YB := hid (setCells_below (b := w.heap.size + 1 + 1 + 1) (by omega) (intV (ordL n a)) 1 W.drew XB.out.drew)
 clear X1 X2 hlen hzz
 gi_region
 clear hcp X0 X3 XB x0
 generalize W.drew.setCells (w.heap.size + 1 + 1 + 1) 1 (intV (ordL n a)) = V at *
 have y0 := Y0.out.cell 0
 simp only [List.getElem?_toArray, List.getElem?_cons_zero] at y0
 gi_wp2
 obtain ⟨I, hI⟩ : ∃ I : Act → World → Prop, I = fun t W => ∃ (k : Nat) (Ds : List Nat), k ≤ n ∧ (∃ f, t.tmps = rdT w.heap.size b o n c k f) ∧ t.defers = marks Ds ∧ Blk W w.heap.size 36 #[.slice (some ⟨b, o, none⟩) n c] ∧ Blk W (w.heap.size + 1) 78 #[.int .i64 0, .int .i64 0, .int .i64 0, .int .i64 0, .int .i64 0, .int .i64 0, .int .i64 0] ∧ Blk W (w.heap.size + 1 + 1) 4 #[.bool false] ∧ Blk W (w.heap.size + 1 + 1 + 1) 78 (ordC n a) ∧ Below w.heap.size w W ∧ MarkS w.heap.size Ds W := ⟨_, rfl⟩
 obtain ⟨μ, hμ⟩ : ∃ μ : Act → World → Nat, μ = fun t _ => n - rdK t := ⟨_, rfl⟩
 have HI := hid hI
 have HMU := hid hμ
 refine wpIn_loop I μ ?_ ?_
 · rw [hI]
   exact ⟨0, [], Nat.zero_le _, ⟨fun _ => undef, rfl⟩, rfl, Y0.out, Y1.out, Y2.out, Y3.out, YB.out, MarkS.nil _ _⟩
 clear hI hμ Y0 Y1 Y2 Y3 YB y0
 intro t W2 hin
 rw [HI.out] at hin
 obtain ⟨k, Ds, hk, ⟨f, hf⟩, hds, h0, h2, h3, h4, h5, h6⟩ := hin
 obtain ⟨tt, td⟩ := t
 simp only at hf hds
 subst hf hds
 have HMK : Hid (μ { tmps := rdT w.heap.size b o n c k f, defers := marks Ds } W2 = n - k) := hid (by rw [HMU.out]; rfl)
 have Y0 := hid h0
 have Y1 := hid h2
 have Y2 := hid h3
 have Y3 := hid h4
 have YB := hid h5
 have YM := hid h6
 have HK := hid hk
 clear h0 h2 h3 h4 h5 h6
 rw [HMK.out]
 unfold rdT
 by_cases hlt : k < n
 · have HLT := hid hlt
   have ck := cell_keep YB.out (HCA.out k hlt)
   unfold mk at ck
   obtain ⟨xs, hxs, hxm⟩ := mk_elems hn (a k)
   have hslt : ((mkN n (a k) : Nat) : Int) < p2 n := mk_lt (a k)
   have hsb : bitV ((mkN n (a k) : Nat) : Int) k = 0 := ord_self HOK.out hlt
   have HSUB := hid (fun (j : Nat) (hj : j < n) (hkj : a k j = true) => ord_sub HOK.out hn hlt hj hkj)
   unfold mk at HSUB
   have hs63 : mkN n (a k) < 9223372036854775808 := hxs.lt
   generalize mkN n (a k) = s at *
   have q1 : decide ((s : Int) < 0) = false := decide_eq_false (by omega)
   have q2 : decide (p2 n ≤ (s : Int)) = false := decide_eq_false (by omega)
   have q3 : (bitV (s : Int) (k : Int) == 1) = false := by rw [hsb]; rfl
   have fn : Fits (n : Int) := ⟨by omega, by omega⟩
   have fk : Fits (k : Int) := ⟨by omega, by omega⟩
   have hkn : (k : Int) < (n : Int) := by omega
   have HXS := hid hxs
   have HXM := hid hxm
   have y0 := Y0.out.cell 0
   simp only [List.getElem?_toArray, List.getElem?_cons_zero] at y0
   have y0a := (Y0.out.alloc (.cells #[.int .i64 (s : Nat)] 3)).cell 0
   have s6 := (Blk.new W2 3 #[.int .i64 (s : Nat)]).cell 0
   simp only [List.getElem?_toArray, List.getElem?_cons_zero] at y0a s6
   clear hk hlt hslt hsb hxs hxm hs63
   gi_wp2
   gi_region
   all_goals gi_wp2
   refine ⟨trivial, (callsIn_wide.2 (elementsF (s : Nat) _)).mono ?_⟩
   rintro e w' ⟨rfl, rfl⟩
   have hbb : Below W2.heap.size W2 (((W2.alloc (.cells #[.int .i64 (s : Nat)] 3)).alloc (.cells #[.int .i64 (s : Nat)] 3)).drew) := (((Below.refl _ W2).alloc (Nat.le_refl _) _).alloc (by simp) _).drew
   have Z0 := hid (Y0.out.keep hbb)
   have Z1 := hid (Y1.out.keep hbb)
   have Z2 := hid (Y2.out.keep hbb)
   have Z3 := hid (Y3.out.keep hbb)
   have ZS := hid (((Blk.new W2 3 #[.int .i64 (s : Nat)]).alloc (.cells #[.int .i64 (s : Nat)] 3)).drew)
   have ZC := hid ((Blk.new_at (W2.alloc (.cells #[.int .i64 (s : Nat)] 3)) 3 #[.int .i64 (s : Nat)] (n := W2.heap.size + 1) (by simp)).drew)
   have ZB := hid (below_call YB.out hbb YB.out.size)
   have ZM := hid (YM.out.keep YM.out.lt hbb)
   have HK3 := hid Y3.out.lt
   have hsz : (((W2.alloc (.cells #[.int .i64 (s : Nat)] 3)).alloc (.cells #[.int .i64 (s : Nat)] 3)).drew).heap.size = W2.heap.size + 2 := by simp
   have HSZ := hid hsz
   have HML := hid YM.out.lt
   clear hbb hsz Y0 Y1 Y2 Y3 YB YM s6 y0a y0 ck
   gi_wp2
   generalize ((W2.alloc (.cells #[.int .i64 (s : Nat)] 3)).alloc (.cells #[.int .i64 (s : Nat)] 3)).drew = G at *
   have HTG := HT.out.below ZB.out
   have HTG := hid HTG
   refine wp_range (n := 9) (gf := 109) (c := W2.heap.size + 1) (t := 3) (xs := xs) rfl (fun args w => enters Tryz.func109 (by kernel_rfl) rfl args w) ZC.out (elems_iter 8 _ s xs G HXS.out ZC.out) rfl
    (fun _ W => (((Blk W w.heap.size 36 #[.slice (some ⟨b, o, none⟩) n c] ∧ Blk W (w.heap.size + 1) 78 #[.int .i64 0, .int .i64 0, .int .i64 0, .int .i64 0, .int .i64 0, .int .i64 0, .int .i64 0]) ∧ Blk W (w.heap.size + 1 + 1) 4 #[.bool false] ∧ Blk W (w.heap.size + 1 + 1 + 1) 78 (ordC n a)) ∧ Blk W W2.heap.size 3 #[.int .i64 (s : Nat)] ∧ MarkS w.heap.size Ds W) ∧ Below w.heap.size w W ∧ Tab W)
    (fun _ _ => False) ?_ (fun _ _ _ _ _ hs _ _ => hs) ?_ (fun _ _ h => h.2.2) ⟨⟨⟨⟨Z0.out, Z1.out⟩, Z2.out, Z3.out⟩, ZS.out, ZM.out⟩, ZB.out, HTG.out⟩ ?_ ?_ (fun _ _ _ _ h _ => h.elim)
   · exact OwnFrom.and (OwnFrom.and (OwnFrom.and (OwnFrom.and (ownFrom_blk _ _ _ _) (ownFrom_blk _ _ _ _)) (OwnFrom.and (ownFrom_blk _ _ _ _) (ownFrom_blk _ _ _ _))) (OwnFrom.and (ownFrom_blk _ _ _ _) (ownFrom_marks (fun D hD => by have := HML.out D hD; have := HSZ.out; omega)))) (OwnFrom.and (ownFrom_below (Nat.le_refl _) ZB.out.size) (ownFrom_tab (by have := HTG.out.pos; omega)))
   · rintro j W v ⟨⟨⟨⟨h1, h2⟩, h3, h4⟩, h5, h6⟩, h7, h8⟩
     have := HK3.out
     exact ⟨⟨⟨⟨h1.far (p := ⟨W2.heap.size + 1, 0, none⟩) (by simp; omega) _, h2.far (p := ⟨W2.heap.size + 1, 0, none⟩) (by simp; omega) _⟩, h3.far (p := ⟨W2.heap.size + 1, 0, none⟩) (by simp; omega) _, h4.far (p := ⟨W2.heap.size + 1, 0, none⟩) (by simp; omega) _⟩, h5.far (p := ⟨W2.heap.size + 1, 0, none⟩) (by simp) _,
      ⟨fun D hD => (Below.heap_setCell W ⟨W2.heap.size + 1, 0, none⟩ v D (by have := HML.out D hD; simp; omega)).trans (h6.at_ D hD), h6.nod, h6.low⟩⟩, h7.setCell (p := ⟨W2.heap.size + 1, 0, none⟩) (by simp; omega) _, h8.grown (setGrown W ⟨W2.heap.size + 1, 0, none⟩ v) (by have := HT.out.pos; simp; omega)⟩
   · intro l j x W W3 hl hr hin hx hv
     obtain ⟨⟨⟨⟨h1, h2⟩, h3, h4⟩, h5, h6⟩, h7, h8⟩ := hin
     have hmx := (HXM.out x).1 (List.mem_of_getElem? hx)
     have hsb := HSUB.out x hmx.1 hmx.2
     have cx := cell_keep h7 (HCA.out x hmx.1)
     unfold mk at cx
     have hxn : (x : Int) < (n : Int) := by have := hmx.1; omega
     have hxn2 : x < n := hmx.1
     have w0 := h1.cell 0
     have w6 := h5.cell 0
     simp only [List.getElem?_toArray, List.getElem?_cons_zero] at w0 w6
     generalize mkN n (a x) = sx at *
     have HW := hid (And.intro (And.intro (And.intro (And.intro h1 h2) (And.intro h3 h4)) (And.intro h5 h6)) (And.intro h7 h8))
     clear h1 h2 h3 h4 h5 h6 h7 h8 hmx hx hv hl hr
     gi_wp2
     refine ⟨trivial, ?_⟩
     gi_wp2
     gi_region
     all_goals gi_wp2
     all_goals obtain ⟨⟨⟨⟨h1, h2⟩, h3, h4⟩, h5, h6⟩, h7, h8⟩ := HW.out
     all_goals exact ⟨⟨by simp, fun q o _ h _ => h⟩, rfl, ⟨⟨⟨⟨h1.drew, h2.drew⟩, h3.drew, h4.drew⟩, h5.drew, ⟨h6.at_, h6.nod, h6.low⟩⟩, h7.drew, h8.below (Below.refl _ W3).drew⟩⟩
   · rintro D W hD ⟨⟨⟨⟨h1, h2⟩, h3, h4⟩, h5, h6⟩, h7, h8⟩ hKD
     have HMS := hid (h6.cons hKD (by have := ZB.out.size; omega) (fun hm => by have := HML.out D hm; have := HSZ.out; omega))
     have G0 := hid h1
     have G1 := hid h2
     have G2 := hid h3
     have G3 := hid h4
     have GB := hid h7
     clear h1 h2 h3 h4 h5 h6 h7 h8 hKD
     gi_wp2
     rw [HI.out, HMU.out]
     exact ⟨⟨k + 1, D :: Ds, by have := HLT.out; omega, rdT_ex rfl, rfl, G0.out, G1.out, G2.out, G3.out, GB.out, HMS.out⟩, by have := HLT.out; show n - (((k : Int) + 1).toNat) < n - k; omega⟩
 · obtain rfl : k = n := by have := HK.out; omega
   have y0 := Y0.out.cell 0
   simp only [List.getElem?_toArray, List.getElem?_cons_zero] at y0
   unfold ordC at Y3
   have a0 := Y3.out.cell 0
   have b0 := Y1.out.cell 0
   have e0 := Y1.out.free 0
   have a1 := Y3.out.cell 1
   have b1 := Y1.out.cell 1
   have e1 := Y1.out.free 1
   have a2 := Y3.out.cell 2
   have b2 := Y1.out.cell 2
   have e2 := Y1.out.free 2
   have a3 := Y3.out.cell 3
   have b3 := Y1.out.cell 3
   have e3 := Y1.out.free 3
   have a4 := Y3.out.cell 4
   have b4 := Y1.out.cell 4
   have e4 := Y1.out.free 4
   have a5 := Y3.out.cell 5
   have b5 := Y1.out.cell 5
   have e5 := Y1.out.free 5
   have a6 := Y3.out.cell 6
   have b6 := Y1.out.cell 6
   have e6 := Y1.out.free 6
   have q0 := Y2.out.cell 0
   have e7 := Y2.out.free 0
   simp only [List.getElem?_toArray, List.getElem?_cons_zero, List.getElem?_cons_succ] at a0 a1 a2 a3 a4 a5 a6 b0 b1 b2 b3 b4 b5 b6 q0
   have F1 := hid (show Blk ((((((((W2.setCell ⟨w.heap.size + 1, 0, none⟩ (.int .i64 (k : Nat))).setCell ⟨w.heap.size + 1, 1, none⟩ (.int .i64 (oc k a 0))).setCell ⟨w.heap.size + 1, 2, none⟩ (.int .i64 (oc k a 1))).setCell ⟨w.heap.size + 1, 3, none⟩ (.int .i64 (oc k a 2))).setCell ⟨w.heap.size + 1, 4, none⟩ (.int .i64 (oc k a 3))).setCell ⟨w.heap.size + 1, 5, none⟩ (.int .i64 (oc k a 4))).setCell ⟨w.heap.size + 1, 6, none⟩ (.int .i64 (oc k a 5))).setCell ⟨w.heap.size + 1 + 1, 0, none⟩ (.bool true)) (w.heap.size + 1) 78 (ordC k a) from (((((((Y1.out.set 0 (.int .i64 (k : Nat))).set 1 (.int .i64 (oc k a 0))).set 2 (.int .i64 (oc k a 1))).set 3 (.int .i64 (oc k a 2))).set 4 (.int .i64 (oc k a 3))).set 5 (.int .i64 (oc k a 4))).set 6 (.int .i64 (oc k a 5))).far (p := ⟨w.heap.size + 1 + 1, 0, none⟩) (by simp) (.bool true))
   have F2 := hid (show Blk ((((((((W2.setCell ⟨w.heap.size + 1, 0, none⟩ (.int .i64 (k : Nat))).setCell ⟨w.heap.size + 1, 1, none⟩ (.int .i64 (oc k a 0))).setCell ⟨w.heap.size + 1, 2, none⟩ (.int .i64 (oc k a 1))).setCell ⟨w.heap.size + 1, 3, none⟩ (.int .i64 (oc k a 2))).setCell ⟨w.heap.size + 1, 4, none⟩ (.int .i64 (oc k a 3))).setCell ⟨w.heap.size + 1, 5, none⟩ (.int .i64 (oc k a 4))).setCell ⟨w.heap.size + 1, 6, none⟩ (.int .i64 (oc k a 5))).setCell ⟨w.heap.size + 1 + 1, 0, none⟩ (.bool true)) (w.heap.size + 1 + 1) 4 #[.bool true] from (((((((Y2.out.far (p := ⟨w.heap.size + 1, 0, none⟩) (by simp) (.int .i64 (k : Nat))).far (p := ⟨w.heap.size + 1, 1, none⟩) (by simp) (.int .i64 (oc k a 0))).far (p := ⟨w.heap.size + 1, 2, none⟩) (by simp) (.int .i64 (oc k a 1))).far (p := ⟨w.heap.size + 1, 3, none⟩) (by simp) (.int .i64 (oc k a 2))).far (p := ⟨w.heap.size + 1, 4, none⟩) (by simp) (.int .i64 (oc k a 3))).far (p := ⟨w.heap.size + 1, 5, none⟩) (by simp) (.int .i64 (oc k a 4))).far (p := ⟨w.heap.size + 1, 6, none⟩) (by simp) (.int .i64 (oc k a 5))).set 0 (.bool true))
   have FB := hid ((((((((YB.out.setCell (p := ⟨w.heap.size + 1, 0, none⟩) (by simp) (.int .i64 (k : Nat))).setCell (p := ⟨w.heap.size + 1, 1, none⟩) (by simp) (.int .i64 (oc k a 0))).setCell (p := ⟨w.heap.size + 1, 2, none⟩) (by simp) (.int .i64 (oc k a 1))).setCell (p := ⟨w.heap.size + 1, 3, none⟩) (by simp) (.int .i64 (oc k a 2))).setCell (p := ⟨w.heap.size + 1, 4, none⟩) (by simp) (.int .i64 (oc k a 3))).setCell (p := ⟨w.heap.size + 1, 5, none⟩) (by simp) (.int .i64 (oc k a 4))).setCell (p := ⟨w.heap.size + 1, 6, none⟩) (by simp) (.int .i64 (oc k a 5))).setCell (p := ⟨w.heap.size + 1 + 1, 0, none⟩) (by simp; omega) (.bool true))
   have FM := hid ((((((((YM.out.set Y1.out 0 (.int .i64 (k : Nat))).set (Y1.out.set 0 (.int .i64 (k : Nat))) 1 (.int .i64 (oc k a 0))).set ((Y1.out.set 0 (.int .i64 (k : Nat))).set 1 (.int .i64 (oc k a 0))) 2 (.int .i64 (oc k a 1))).set (((Y1.out.set 0 (.int .i64 (k : Nat))).set 1 (.int .i64 (oc k a 0))).set 2 (.int .i64 (oc k a 1))) 3 (.int .i64 (oc k a 2))).set ((((Y1.out.set 0 (.int .i64 (k : Nat))).set 1 (.int .i64 (oc k a 0))).set 2 (.int .i64 (oc k a 1))).set 3 (.int .i64 (oc k a 2))) 4 (.int .i64 (oc k a 3))).set (((((Y1.out.set 0 (.int .i64 (k : Nat))).set 1 (.int .i64 (oc k a 0))).set 2 (.int .i64 (oc k a 1))).set 3 (.int .i64 (oc k a 2))).set 4 (.int .i64 (oc k a 3))) 5 (.int .i64 (oc k a 4))).set ((((((Y1.out.set 0 (.int .i64 (k : Nat))).set 1 (.int .i64 (oc k a 0))).set 2 (.int .i64 (oc k a 1))).set 3 (.int .i64 (oc k a 2))).set 4 (.int .i64 (oc k a 3))).set 5 (.int .i64 (oc k a 4))) 6 (.int .i64 (oc k a 5))).set (((((((Y2.out.far (p := ⟨w.heap.size + 1, 0, none⟩) (by simp) (.int .i64 (k : Nat))).far (p := ⟨w.heap.size + 1, 1, none⟩) (by simp) (.int .i64 (oc k a 0))).far (p := ⟨w.heap.size + 1, 2, none⟩) (by simp) (.int .i64 (oc k a 1))).far (p := ⟨w.heap.size + 1, 3, none⟩) (by simp) (.int .i64 (oc k a 2))).far (p := ⟨w.heap.size + 1, 4, none⟩) (by simp) (.int .i64 (oc k a 3))).far (p := ⟨w.heap.size + 1, 5, none⟩) (by simp) (.int .i64 (oc k a 4))).far (p := ⟨w.heap.size + 1, 6, none⟩) (by simp) (.int .i64 (oc k a 5))) 0 (.bool true))
   clear hk hlt
   gi_wp2
   generalize (((((((W2.setCell ⟨w.heap.size + 1, 0, none⟩ (.int .i64 (k : Nat))).setCell ⟨w.heap.size + 1, 1, none⟩ (.int .i64 (oc k a 0))).setCell ⟨w.heap.size + 1, 2, none⟩ (.int .i64 (oc k a 1))).setCell ⟨w.heap.size + 1, 3, none⟩ (.int .i64 (oc k a 2))).setCell ⟨w.heap.size + 1, 4, none⟩ (.int .i64 (oc k a 3))).setCell ⟨w.heap.size + 1, 5, none⟩ (.int .i64 (oc k a 4))).setCell ⟨w.heap.size + 1, 6, none⟩ (.int .i64 (oc k a 5))).setCell ⟨w.heap.size + 1 + 1, 0, none⟩ (.bool true) = F at *
   refine leaves_marks (B := w.heap.size) Ds F FM.out ?_
   exact ⟨_, results_row_var rfl _ _ (w.heap.size + 1) (w.heap.size + 1 + 1) 78 (ordC k a) (0, 0) _ (.bool true) rfl rfl (FM.out.blk F1.out) (loadVar_bool (FM.out.blk F2.out)) Tryz.underlying78 rfl (by kernel_rfl), rfl, FM.out.shutBelow FB.out⟩
end
/- A region that draws, in a round of a range over a function: it is walked as outside of it. No condition. -/
section
open Go.RowKit Go.Shelf
def noDefer (ops : Array Oper) : Bool := ops.toList.all fun o => match o.op with
 | .defer _ => false
 | _ => true
section
variable {P : Program} {ops : Array Oper} {Q : Exit → Act → World → Prop} {S : World → Prop} {md : Region.Mode}
theorem noDefer_at {i : Nat} {o : Oper} (h : noDefer ops = true) (ho : ops[i]? = some o) : ∀ c, o.op ≠ .defer c := by
 intro c hc
 have hm : o ∈ ops.toList := Array.mem_toList_iff.2 (Array.mem_of_getElem? ho)
 have := List.all_eq_true.1 h o hm
 rw [hc] at this
 cases this
theorem upon_round {o : Oper} {a : Act} {next : Act → World → Prop} {r : Result Next} {l n : Nat} (h : o.upon P a next Q r) : o.uponIn (Fence.wide.inRound l) n P a next Q r := by
 cases r with
 | ok v w =>
  cases v with
  | value v => exact h
  | skip => exact h
  | defer d => exact h
  | enter f args => exact ⟨(fun h => by cases h), callsIn_wide.2 h⟩
  | row row args => exact ⟨(fun h => by cases h), fun c cs _ => let ⟨v, w', r, s⟩ := h c cs; ⟨v, w', r, stepsIn_wide.2 s⟩⟩
  | _ => exact h.elim
 | halt h0 w => cases h0 <;> exact h
theorem op_round {i l n : Nat} {K K' : Act → World → Prop} {a : Act} {w : World} (hd : noDefer ops = true) (hL : ¬ LetsOut Q) (hK : ∀ a w, K a w → K' a w) (h : wpOp P ops Q i K a w) : wpOpIn (Fence.wide.inRound l) n P ops Q i K' a w := by
 refine wpOpIn_mono hK ?_
 unfold wpOp at h
 unfold wpOpIn
 cases ho : ops[i]? with
 | none => rw [ho] at h; exact h
 | some o =>
  rw [ho] at h
  simp only at h ⊢
  split
  · rename_i hw
    rw [if_pos hw] at h
    rcases h with h | h
    · refine ⟨fun _ _ => trivial, ?_⟩
      rw [Oper.semAt_eq _ _ _ (noDefer_at hd ho)]
      exact upon_round h
    · exact absurd h.2 hL
  · rename_i hw
    rw [if_neg hw] at h
    exact ⟨fun _ _ => trivial, h⟩
theorem any_round {l n : Nat} (hd : noDefer ops = true) (hL : ¬ LetsOut Q) : ∀ (fuel : Nat) (listed : Array Bool) (a : Act) (w : World), wpAnyH P md ops Q S fuel listed a w → wpAnyIn (Fence.wide.inRound l) n P md ops Q fuel listed a w
 | 0, _, _, _, h => h
 | fuel + 1, _, _, _, h => ⟨h.1, fun i hi => op_round hd hL (fun a w hk => any_round hd hL fuel _ a w hk.2) (h.2 i hi)⟩
theorem region_round {id l n : Nat} {a : Act} {w : World} (hm : P.follows .mixedOrders = true) (hd : noDefer ops = true) (hL : ¬ LetsOut Q) (hS : S w.drew)
 (h : S w.drew → wpAnyH P .any ops Q S ops.size (Array.replicate ops.size false) a w.drew) : (Code.region id ops true).wpIn (Fence.wide.inRound l) n P Q a w :=
 wpIn_region_any hm (any_round hd hL _ _ _ _ (h hS))
end
end
end Go.Proofs.YtnibidmlkbcfkaaGreatDoor
