/- Texts of this proof, one behind the other; each says its condition at its head. -/
import Derived.Test.YtflepjgcpdaodaaGreatDoorO31
import Derived.Test.YtflepjgcpdaodaaGreatDoorO32
import Derived.Laws.Bits64
import Derived.Laws.Bits64b
import Derived.Test.YtflepjgcpdaodaaGreatDoorO5
/- Walk of ranks.Kings. Conditions: a tournament of one to eight players; the library's table of 64 numbers stands in its variable. -/
namespace Go.Proofs.YtflepjgcpdaodaaGreatDoor
open Go.RowKit Go.Shelf
attribute [local go_sem] Oper.semAt_some
attribute [local go_sem ↓] shl_p2 shr_v and_shr
theorem mk_elems8 {n : Nat} (hn : n ≤ 8) (f : Nat → Bool) : ∃ xs, Elems (mkN n f) xs ∧ ∀ x, x ∈ xs ↔ (x < n ∧ f x = true) := by
 have h1 := mkN_lt f n
 have h2 : (2 : Nat) ^ n ≤ 2 ^ 8 := Nat.pow_le_pow_right (by omega) hn
 obtain ⟨xs, h3, h4⟩ := elems_all _ (mkN n f) (Nat.le_refl _) (by omega)
 refine ⟨xs, h3, fun x => ?_⟩
 rw [h4, mkN_bit]
 simp
/-- Who is reached from k, by k and those of a list. -/
def rchB (b : Nat → Nat → Bool) (k : Nat) (l : List Nat) (m : Nat) : Bool := (b k m || decide (m = k)) || l.any fun x => b x m
theorem rchB_nil (b : Nat → Nat → Bool) (k : Nat) : rchB b k [] = fun m => b k m || decide (m = k) := by
 funext m; unfold rchB; simp
theorem rchB_push (b : Nat → Nat → Bool) (k : Nat) (l : List Nat) (x : Nat) : (fun m => rchB b k l m || b x m) = rchB b k (l ++ [x]) := by
 funext m
 unfold rchB
 rw [List.any_append]
 simp [Bool.or_assoc]
theorem up_mk8 {n : Nat} (hn : n ≤ 8) (f : Nat → Bool) {j : Nat} (hj : j < n) : bits .or .i64 (mk n f) (p2 j) = mk n (fun m => f m || decide (m = j)) := by
 rw [← mk_single hj, mk_or (by omega)]
theorem rch_king {n : Nat} {b : Nat → Nat → Bool} {k : Nat} {xs : List Nat} (hx : ∀ x, x ∈ xs ↔ (x < n ∧ b k x = true)) : (mk n (rchB b k xs) == p2 n - 1) = kingB n b k := by
 rw [← mk_all, Bool.eq_iff_iff, beq_iff_eq, kingB_iff]
 refine ⟨fun h j hj => ?_, fun h => mk_congr fun j hj => ?_⟩
 · have := mk_inj h j hj
   unfold rchB at this
   simp only [Bool.or_eq_true, decide_eq_true_eq, List.any_eq_true] at this
   rcases this with (e | e) | ⟨x, h1, h2⟩
   · exact .inr (.inl e)
   · exact .inl e
   · exact .inr (.inr ⟨x, ((hx x).1 h1).1, ((hx x).1 h1).2, h2⟩)
 · unfold rchB
   simp only [Bool.or_eq_true, decide_eq_true_eq, List.any_eq_true]
   rcases h j hj with e | e | ⟨x, h1, h2, h3⟩
   · exact .inl (.inr e)
   · exact .inl (.inl e)
   · exact .inr ⟨x, (hx x).2 ⟨h1, h2⟩, h3⟩
/-- The kings among the first k. -/
def kgB (n : Nat) (b : Nat → Nat → Bool) (k i : Nat) : Bool := decide (i < k) && kingB n b i
theorem kgB_step {n : Nat} (hn : n ≤ 8) {b : Nat → Nat → Bool} {k : Nat} (hk : k < n) : (if kingB n b k then bits .or .i64 (mk n (kgB n b k)) (p2 k) else mk n (kgB n b k)) = mk n (kgB n b (k + 1)) := by
 cases e : kingB n b k with
 | true =>
  rw [if_pos rfl, up_mk8 hn _ hk]
  apply mk_congr
  intro i _
  unfold kgB
  by_cases ei : i = k
  · subst ei; simp [e]
  · have : (i < k + 1) ↔ (i < k) := by omega
    simp [ei, this]
 | false =>
  rw [if_neg (by simp)]
  apply mk_congr
  intro i _
  unfold kgB
  by_cases ei : i = k
  · subst ei; simp [e]
  · have : (i < k + 1) ↔ (i < k) := by omega
    simp [this]
/-- The slots at a round's start. -/
def kgT (z ab ao n c k : Nat) (o : Int) (f : Nat → Value) : Array Value :=
 #[.slice (some ⟨ab, ao, none⟩) n c, .pointer (some ⟨z, 0, none⟩), .int .i64 0, .int .i64 0, .slice (some ⟨ab, ao, none⟩) n c, .int .i64 o, f 6, f 7, f 8, f 9,
  .slice (some ⟨ab, ao, none⟩) n c, .slice (some ⟨ab, ao, none⟩) n c, .bool true, .bool false, .slice (some ⟨ab, ao, none⟩) n c, .int .i64 (n : Nat), .int .i64 (k : Nat),
  f 17, f 18, f 19, f 20, f 21, f 22, f 23, f 24, f 25, f 26, f 27, f 28, f 29, f 30, f 31, f 32, f 33, f 34, f 35, f 36, f 37, f 38, f 39, f 40, f 41, f 42, f 43]
theorem kgT_ex {z ab ao n c k : Nat} {o : Int} {T : Array Value} (h : T = kgT z ab ao n c k o (fun i => T.getD i undef)) : ∃ f, T = kgT z ab ao n c k o f := ⟨_, h⟩
/-- A round's number. -/
def kgK (t : Act) : Nat := match t.tmps.getD 16 undef with
 | .int _ x => x.toNat
 | _ => 0
set_option maxRecDepth 100000 in
set_option maxHeartbeats 8000000 in
theorem kingsF (n : Nat) (b : Nat → Nat → Bool) (A : Option Addr) (c : Nat) (w : World) (h1 : 1 ≤ n) (h8 : n ≤ 8) (hb : TourOk n b) (hs : Sl w A n c (intV (ordL n b))) (hT : Tab w) :
 Calls Tryz.prog 13 #[.slice A n c] w fun e w' => e = .returned (.tuple #[.int .i64 (mk n (kingB n b)), .int .i64 0]) ∧ Below w.heap.size w w' := by
 obtain ⟨ab, ao, rfl, lb, hca⟩ := hs.pos (by omega)
 have HCA := hid fun (k : Nat) (hk : k < n) => hca k _ (intV_ordL (a := b) hk)
 have XB := hid ((Below.refl w.heap.size w).alloc (Nat.le_refl _) (.cells #[.slice (some ⟨ab, ao, none⟩) n c] 27))
 have X0 := hid (Blk.new w 27 #[.slice (some ⟨ab, ao, none⟩) n c])
 have HV := hid (tourValid (some ⟨ab, ao, none⟩) n c b (w.alloc (.cells #[.slice (some ⟨ab, ao, none⟩) n c] 27)) (hs.alloc _) hb h1 h8)
 have HAL := hid fun (W : World) (hb : Below w.heap.size w W) => tourAll (some ⟨ab, ao, none⟩) n c _ W (hs.below hb) h8
 have HT := hid hT
 have HN := hid (And.intro h1 h8)
 have hcap := hs.cap
 have hcapm := hs.capm
 clear hs hT hca hb
 refine (callsIn_wide (n := 9)).1 ?_
 refine callsIn_of_wp_marks Tryz.func13 rfl trivial ?_ rfl
 simp only [Tryz.ntmps13, List.size_toArray, List.length_cons, List.length_nil, Nat.reduceAdd, Nat.reduceSub, Array.replicate_succ, Array.replicate_zero, List.push_toArray, List.append_toArray, List.nil_append, List.cons_append]
 gi_wp2
 refine ⟨trivial, (callsIn_wide.2 HV.out).mono ?_⟩
 rintro e w1 ⟨rfl, b1⟩
 have Y0 := hid (X0.out.keep b1)
 have YB := hid (below_call XB.out b1 XB.out.size)
 clear b1 X0 XB HV
 have y0 := Y0.out.cell 0
 simp only [List.getElem?_toArray, List.getElem?_cons_zero] at y0
 gi_wp2
 obtain ⟨I, hI⟩ : ∃ I : Act → World → Prop, I = fun t W => ∃ (k : Nat) (Ds : List Nat), k ≤ n ∧ (∃ f, t.tmps = kgT w.heap.size ab ao n c k (mk n (kgB n b k)) f) ∧ t.defers = marks Ds ∧ Blk W w.heap.size 27 #[.slice (some ⟨ab, ao, none⟩) n c] ∧ Below w.heap.size w W ∧ MarkS w.heap.size Ds W := ⟨_, rfl⟩
 obtain ⟨μ, hμ⟩ : ∃ μ : Act → World → Nat, μ = fun t _ => n - kgK t := ⟨_, rfl⟩
 have HI := hid hI
 have HMU := hid hμ
 have hz : (0 : Int) = mk n (kgB n b 0) := by
  rw [← mk_none n]
  apply mk_congr
  intro i _
  unfold kgB
  simp
 refine wpIn_loop I μ ?_ ?_
 · rw [hI]
   exact ⟨0, [], Nat.zero_le _, ⟨fun _ => undef, by rw [← hz]; rfl⟩, rfl, Y0.out, YB.out, MarkS.nil _ _⟩
 clear hI hμ Y0 YB y0 hz
 intro t W2 hin
 rw [HI.out] at hin
 obtain ⟨k, Ds, hk, ⟨f, hf⟩, hds, h0, h2, h3⟩ := hin
 obtain ⟨tt, td⟩ := t
 simp only at hf hds
 subst hf hds
 have HMK : Hid (μ { tmps := kgT w.heap.size ab ao n c k (mk n (kgB n b k)) f, defers := marks Ds } W2 = n - k) := hid (by rw [HMU.out]; rfl)
 have Y0 := hid h0
 have YB := hid h2
 have YM := hid h3
 have HK := hid hk
 clear h0 h2 h3
 rw [HMK.out]
 unfold kgT
 by_cases hlt : k < n
 · have HLT := hid hlt
   have ck := cell_keep YB.out (HCA.out k hlt)
   unfold mk at ck
   obtain ⟨xs, hxs, hxm⟩ := mk_elems8 h8 (b k)
   have hup : bits .or .i64 ((mkN n (b k) : Nat) : Int) (p2 k) = mk n (rchB b k []) := by rw [rchB_nil]; exact up_mk8 h8 (b k) hlt
   have hstep := kgB_step h8 (b := b) hlt
   have hkin := rch_king hxm
   have HSTEP := hid hstep
   have HKIN := hid hkin
   generalize mkN n (b k) = s at *
   generalize mk n (kgB n b k) = o at *
   have fk : Fits (k : Int) := ⟨by omega, by omega⟩
   have hkn : (k : Int) < (n : Int) := by omega
   have HXS := hid hxs
   have HXM := hid hxm
   have y0 := Y0.out.cell 0
   simp only [List.getElem?_toArray, List.getElem?_cons_zero] at y0
   clear hk hlt hxs hxm hstep hkin
   gi_wp2
   refine ⟨trivial, (callsIn_wide.2 (playersF (s : Nat) _)).mono ?_⟩
   rintro e w' ⟨rfl, rfl⟩
   have hbb : Below W2.heap.size W2 ((W2.alloc (.cells #[.int .i64 (mk n (rchB b k []))] 3)).alloc (.cells #[.int .i64 (s : Nat)] 3)) := ((Below.refl _ W2).alloc (Nat.le_refl _) _).alloc (by simp) _
   have Z0 := hid (Y0.out.keep hbb)
   have ZS := hid ((Blk.new W2 3 #[.int .i64 (mk n (rchB b k []))]).alloc (.cells #[.int .i64 (s : Nat)] 3))
   have ZC := hid (Blk.new_at (W2.alloc (.cells #[.int .i64 (mk n (rchB b k []))] 3)) 3 #[.int .i64 (s : Nat)] (n := W2.heap.size + 1) (by simp))
   have ZB := hid (below_call YB.out hbb YB.out.size)
   have ZM := hid (YM.out.keep YM.out.lt hbb)
   have HK3 := hid Y0.out.lt
   have hsz : ((W2.alloc (.cells #[.int .i64 (mk n (rchB b k []))] 3)).alloc (.cells #[.int .i64 (s : Nat)] 3)).heap.size = W2.heap.size + 2 := by simp
   have HSZ := hid hsz
   have HML := hid YM.out.lt
   have hv1 : (W2.alloc (.cells #[.int .i64 (mk n (rchB b k []))] 3)).heap.size = W2.heap.size + 1 := by simp
   simp only [hv1]
   have YB0 := hid YB.out
   clear hbb hsz hv1 Y0 YB YM y0 ck hup
   gi_wp2
   generalize (W2.alloc (.cells #[.int .i64 (mk n (rchB b k []))] 3)).alloc (.cells #[.int .i64 (s : Nat)] 3) = G at *
   have HTG := hid (HT.out.below ZB.out)
   refine wp_range (n := 9) (gf := 47) (c := W2.heap.size + 1) (t := 3) (xs := xs) rfl (fun args w => enters Tryz.func47 (by kernel_rfl) rfl args w) ZC.out (players_iter 8 _ s xs G HXS.out ZC.out) rfl
    (fun q W => (Blk W w.heap.size 27 #[.slice (some ⟨ab, ao, none⟩) n c] ∧ Blk W W2.heap.size 3 #[.int .i64 (mk n (rchB b k (xs.take q)))] ∧ MarkS w.heap.size Ds W) ∧ Below w.heap.size w W ∧ Tab W)
    (fun _ _ => False) ?_ (fun _ _ _ _ _ hs _ _ => hs) ?_ (fun _ _ h => h.2.2) ⟨⟨Z0.out, by rw [List.take_zero]; exact ZS.out, ZM.out⟩, ZB.out, HTG.out⟩ ?_ ?_ (fun _ _ _ _ h _ => h.elim)
   · exact OwnFrom.and (OwnFrom.and (ownFrom_blk _ _ _ _) (OwnFrom.and (fun q X Y row hs hg hr => ownFrom_blk (β := Nat) _ _ _ _ q X Y row hs hg hr) (ownFrom_marks (fun D hD => by have := HML.out D hD; have := HSZ.out; omega)))) (OwnFrom.and (ownFrom_below (Nat.le_refl _) ZB.out.size) (ownFrom_tab (by have := HTG.out.pos; omega)))
   · rintro q W v ⟨⟨h1, h5, h6⟩, h7, h8⟩
     have := HK3.out
     exact ⟨⟨h1.far (p := ⟨W2.heap.size + 1, 0, none⟩) (by simp; omega) _, h5.far (p := ⟨W2.heap.size + 1, 0, none⟩) (by simp) _,
      ⟨fun D hD => (Below.heap_setCell W ⟨W2.heap.size + 1, 0, none⟩ v D (by have := HML.out D hD; simp; omega)).trans (h6.at_ D hD), h6.nod, h6.low⟩⟩, h7.setCell (p := ⟨W2.heap.size + 1, 0, none⟩) (by simp; omega) _, h8.grown (setGrown W ⟨W2.heap.size + 1, 0, none⟩ v) (by have := HT.out.pos; simp; omega)⟩
   · intro l q x W W3 hl hr hin hx hv
     obtain ⟨⟨h1, h5, h6⟩, h7, h8⟩ := hin
     have hmx := (HXM.out x).1 (List.mem_of_getElem? hx)
     have cx := cell_keep h7 (HCA.out x hmx.1)
     have hpush : bits .or .i64 (mk n (rchB b k (xs.take q))) (mk n (b x)) = mk n (rchB b k (xs.take (q + 1))) := by
      rw [mk_or (by omega), rchB_push, show xs.take (q + 1) = xs.take q ++ [x] by rw [List.take_add_one, hx]; rfl]
     have hxn : (x : Int) < (n : Int) := by have := hmx.1; omega
     have hxn2 : x < n := hmx.1
     have w0 := h1.cell 0
     have w6 := h5.cell 0
     have f6 := h5.free 0
     simp only [List.getElem?_toArray, List.getElem?_cons_zero] at w0 w6
     have hfin : ∀ (t : Act) (W4 : World), W4 = W3.drew.setCell ⟨W2.heap.size, 0, none⟩ (.int .i64 (mk n (rchB b k (xs.take (q + 1))))) → elemPost G.heap.size (W2.heap.size + 1) (fun q W => (Blk W w.heap.size 27 #[.slice (some ⟨ab, ao, none⟩) n c] ∧ Blk W W2.heap.size 3 #[.int .i64 (mk n (rchB b k (xs.take q)))] ∧ MarkS w.heap.size Ds W) ∧ Below w.heap.size w W ∧ Tab W) (fun _ _ => False) (q + 1) W3 .normal t W4 := fun _ W4 hW4 => by
      have hk3 := HK3.out
      have hsz := HSZ.out
      have hpos := HT.out.pos
      have hzb := YB0.out.size
      subst hW4
      refine ⟨⟨by simp, fun r o hB ho _ => (Below.heap_setCell W3.drew ⟨W2.heap.size, 0, none⟩ _ r (by simp; omega)).trans ho⟩, Below.heap_setCell W3.drew ⟨W2.heap.size, 0, none⟩ _ (W2.heap.size + 1) (by simp), ⟨h1.drew.far (p := ⟨W2.heap.size, 0, none⟩) (by simp; omega) _, h5.drew.set 0 _, (show MarkS w.heap.size Ds W3.drew from ⟨h6.at_, h6.nod, h6.low⟩).set h5.drew 0 _⟩, h7.drew.setCell (p := ⟨W2.heap.size, 0, none⟩) (by simp; omega) _, (h8.below (Below.refl _ W3).drew).grown (setGrown W3.drew ⟨W2.heap.size, 0, none⟩ _) (by simp; omega)⟩
     have HFIN := hid hfin
     generalize mk n (rchB b k (xs.take q)) = rq at *
     generalize mk n (rchB b k (xs.take (q + 1))) = rq1 at *
     generalize mk n (b x) = sx at *
     clear h1 h5 h6 h7 h8 hmx hx hv hl hr hfin
     gi_wp2
     refine ⟨trivial, ?_⟩
     gi_wp2
     gi_region
     all_goals gi_wp2
     all_goals exact HFIN.out _ _ rfl
   · rintro D W hD ⟨⟨h1, h5, h6⟩, h7, h8⟩ hKD
     have h5 : Blk W W2.heap.size 3 #[.int .i64 (mk n (rchB b k (xs.take xs.length)))] := h5
     rw [List.take_length] at h5
     have HMS := hid (h6.cons hKD (by have := ZB.out.size; omega) (fun hm => by have := HML.out D hm; have := HSZ.out; omega))
     have hkin := HKIN.out
     have hstep := HSTEP.out
     have w6 := h5.cell 0
     simp only [List.getElem?_toArray, List.getElem?_cons_zero] at w6
     have G0 := hid h1
     have GB := hid h7
     have HMX : Tryz.prog.follows .mixedOrders = true := by kernel_rfl
     generalize mk n (rchB b k xs) = rr at *
     clear h1 h5 h6 h7 h8 hKD HKIN HSTEP
     cases hkb : kingB n b k with
     | true =>
      rw [hkb] at hkin hstep
      rw [if_pos rfl] at hstep
      gi_wp2
      refine wpIn_mono (Q := fun e t wx => match e with | .normal => wx = W.drew ∧ t = ({ tmps := #[.slice (some ⟨ab, ao, none⟩) n c, .pointer (some ⟨w.heap.size, 0, none⟩), .int .i64 0, .int .i64 0, .slice (some ⟨ab, ao, none⟩) n c, .int .i64 o, .int .i64 (k : Nat), .int .i64 (s : Nat), .pointer (some ⟨W2.heap.size, 0, none⟩), f 9, .slice (some ⟨ab, ao, none⟩) n c, .slice (some ⟨ab, ao, none⟩) n c, .bool true, .bool false, .slice (some ⟨ab, ao, none⟩) n c, .int .i64 (n : Nat), .int .i64 (k : Nat), .bool true, .int .i64 (k : Nat), .pointer (some ⟨ab, ao + k, none⟩), .int .i64 (s : Nat), .int .i64 (s : Nat), .int .i64 (k : Nat), .int .i64 (p2 k), .int .i64 (mk n (rchB b k [])), .int .i64 (s : Nat), .func (.func 47) #[] #[.pointer (some ⟨W2.heap.size + 1, 0, none⟩)], f 27, f 28, f 29, f 30, f 31, f 32, f 33, .int .i64 rr, .slice (some ⟨ab, ao, none⟩) n c, .int .i64 (p2 n - 1), .bool true, f 38, f 39, f 40, f 41, f 42, f 43], defers := { target := .collected D, args := #[] } :: marks Ds } : Act) | _ => False) ?first ?rest
      case first =>
       gi_region_with (first | (refine ⟨trivial, ?_⟩; gi_at_call 27; refine (callsIn_wide.2 (HAL.out _ (by first | exact GB.out | exact GB.out.drew))).mono ?_; rintro e w7 ⟨rfl, rfl⟩) | (gi_at_call 27; refine (callsIn_wide.2 (HAL.out _ (by first | exact GB.out | exact GB.out.drew))).mono ?_; rintro e w7 ⟨rfl, rfl⟩))
       all_goals exact ⟨rfl, rfl⟩
      case rest =>
      intro e t wx hq
      cases e <;> first | exact hq.elim | skip
      obtain ⟨rfl, rfl⟩ := hq
      gi_wp2
      rw [HI.out, HMU.out]
      exact ⟨⟨k + 1, D :: Ds, by have := HLT.out; omega, kgT_ex rfl, rfl, G0.out.drew, GB.out.drew, ⟨HMS.out.at_, HMS.out.nod, HMS.out.low⟩⟩, by have := HLT.out; show n - (((k : Int) + 1).toNat) < n - k; omega⟩
     | false =>
      rw [hkb] at hkin hstep
      rw [if_neg Bool.false_ne_true] at hstep
      subst hstep
      gi_wp2
      refine wpIn_mono (Q := fun e t wx => match e with | .normal => wx = W.drew ∧ t = ({ tmps := #[.slice (some ⟨ab, ao, none⟩) n c, .pointer (some ⟨w.heap.size, 0, none⟩), .int .i64 0, .int .i64 0, .slice (some ⟨ab, ao, none⟩) n c, .int .i64 (mk n (kgB n b (k + 1))), .int .i64 (k : Nat), .int .i64 (s : Nat), .pointer (some ⟨W2.heap.size, 0, none⟩), f 9, .slice (some ⟨ab, ao, none⟩) n c, .slice (some ⟨ab, ao, none⟩) n c, .bool true, .bool false, .slice (some ⟨ab, ao, none⟩) n c, .int .i64 (n : Nat), .int .i64 (k : Nat), .bool true, .int .i64 (k : Nat), .pointer (some ⟨ab, ao + k, none⟩), .int .i64 (s : Nat), .int .i64 (s : Nat), .int .i64 (k : Nat), .int .i64 (p2 k), .int .i64 (mk n (rchB b k [])), .int .i64 (s : Nat), .func (.func 47) #[] #[.pointer (some ⟨W2.heap.size + 1, 0, none⟩)], f 27, f 28, f 29, f 30, f 31, f 32, f 33, .int .i64 rr, .slice (some ⟨ab, ao, none⟩) n c, .int .i64 (p2 n - 1), .bool false, f 38, f 39, f 40, f 41, f 42, f 43], defers := { target := .collected D, args := #[] } :: marks Ds } : Act) | _ => False) ?first ?rest
      case first =>
       gi_region_with (first | (refine ⟨trivial, ?_⟩; gi_at_call 27; refine (callsIn_wide.2 (HAL.out _ (by first | exact GB.out | exact GB.out.drew))).mono ?_; rintro e w7 ⟨rfl, rfl⟩) | (gi_at_call 27; refine (callsIn_wide.2 (HAL.out _ (by first | exact GB.out | exact GB.out.drew))).mono ?_; rintro e w7 ⟨rfl, rfl⟩))
       all_goals exact ⟨rfl, rfl⟩
      case rest =>
      intro e t wx hq
      cases e <;> first | exact hq.elim | skip
      obtain ⟨rfl, rfl⟩ := hq
      gi_wp2
      rw [HI.out, HMU.out]
      exact ⟨⟨k + 1, D :: Ds, by have := HLT.out; omega, kgT_ex rfl, rfl, G0.out.drew, GB.out.drew, ⟨HMS.out.at_, HMS.out.nod, HMS.out.low⟩⟩, by have := HLT.out; show n - (((k : Int) + 1).toNat) < n - k; omega⟩
 · obtain rfl : k = n := by have := HK.out; omega
   have hall : mk k (kgB k b k) = mk k (kingB k b) := mk_congr fun i hi => by unfold kgB; simp [hi]
   clear hk hlt
   gi_wp2
   refine leaves_marks (B := w.heap.size) Ds W2 YM.out ?_
   exact ⟨_, results_tmp2 rfl _ _ _, by rw [← hall]; rfl, YM.out.shutBelow YB.out⟩
end Go.Proofs.YtflepjgcpdaodaaGreatDoor
/- Walks of math/bits.OnesCount and of ranks' count for sets of eight players. Condition: these bounds. -/
namespace Go.Proofs.YtflepjgcpdaodaaGreatDoor
open Go.RowKit
/-! the steps of OnesCount64 -/
def oc1 (x : Int) : Int := IntKind.u64.wrap (bits .and .u64 (x / 2) 6148914691236517205 + bits .and .u64 x 6148914691236517205)
def oc2 (x : Int) : Int := IntKind.u64.wrap (bits .and .u64 (x / 4) 3689348814741910323 + bits .and .u64 x 3689348814741910323)
def oc3 (x : Int) : Int := bits .and .u64 (IntKind.u64.wrap (x / 16 + x)) 1085102592571150095
def oc4 (x : Int) : Int := IntKind.u64.wrap (x + x / 256)
def oc5 (x : Int) : Int := IntKind.u64.wrap (x + x / 65536)
def oc6 (x : Int) : Int := IntKind.u64.wrap (x + x / 4294967296)
def oc7 (x : Int) : Int := bits .and .i64 (wrap64 x) 127
def oc1N (x : Nat) : Nat := ((x / 2 &&& 6148914691236517205) + (x &&& 6148914691236517205)) % 18446744073709551616
def oc2N (x : Nat) : Nat := ((x / 4 &&& 3689348814741910323) + (x &&& 3689348814741910323)) % 18446744073709551616
def oc3N (x : Nat) : Nat := (x / 16 + x) % 18446744073709551616 &&& 1085102592571150095
def oc4N (x : Nat) : Nat := (x + x / 256) % 18446744073709551616
def oc5N (x : Nat) : Nat := (x + x / 65536) % 18446744073709551616
def oc6N (x : Nat) : Nat := (x + x / 4294967296) % 18446744073709551616
def ocN (x : Nat) : Nat := oc6N (oc5N (oc4N (oc3N (oc2N (oc1N x)))))
theorem wu (a : Nat) : IntKind.u64.wrap (a : Int) = ((a % 18446744073709551616 : Nat) : Int) := by rw [IntKind.wrap_u64]; omega
theorem oc1_nat {x : Nat} (h : x < 18446744073709551616) : oc1 x = (oc1N x : Int) := by
 unfold oc1 oc1N
 have e : ((x : Int) / 2) = ((x / 2 : Nat) : Int) := by omega
 rw [e, show (6148914691236517205 : Int) = ((6148914691236517205 : Nat) : Int) from rfl, bits_and_u64_nat _ _ (by omega) (by omega), bits_and_u64_nat _ _ (by omega) (by omega), ← Int.natCast_add, wu]
theorem oc2_nat {x : Nat} (h : x < 18446744073709551616) : oc2 x = (oc2N x : Int) := by
 unfold oc2 oc2N
 have e : ((x : Int) / 4) = ((x / 4 : Nat) : Int) := by omega
 rw [e, show (3689348814741910323 : Int) = ((3689348814741910323 : Nat) : Int) from rfl, bits_and_u64_nat _ _ (by omega) (by omega), bits_and_u64_nat _ _ (by omega) (by omega), ← Int.natCast_add, wu]
theorem oc3_nat (x : Nat) : oc3 x = (oc3N x : Int) := by
 unfold oc3 oc3N
 have e : ((x : Int) / 16 + x) = ((x / 16 + x : Nat) : Int) := by omega
 rw [e, wu, show (1085102592571150095 : Int) = ((1085102592571150095 : Nat) : Int) from rfl, bits_and_u64_nat _ _ (by omega) (by omega)]
theorem oc4_nat (x : Nat) : oc4 x = (oc4N x : Int) := by
 unfold oc4 oc4N
 have e : ((x : Int) + x / 256) = ((x + x / 256 : Nat) : Int) := by omega
 rw [e, wu]
theorem oc5_nat (x : Nat) : oc5 x = (oc5N x : Int) := by
 unfold oc5 oc5N
 have e : ((x : Int) + x / 65536) = ((x + x / 65536 : Nat) : Int) := by omega
 rw [e, wu]
theorem oc6_nat (x : Nat) : oc6 x = (oc6N x : Int) := by
 unfold oc6 oc6N
 have e : ((x : Int) + x / 4294967296) = ((x + x / 4294967296 : Nat) : Int) := by omega
 rw [e, wu]
theorem oc_nat {x : Nat} (h : x < 18446744073709551616) : oc6 (oc5 (oc4 (oc3 (oc2 (oc1 x))))) = (ocN x : Int) := by
 rw [oc1_nat h, oc2_nat (by unfold oc1N; omega), oc3_nat, oc4_nat, oc5_nat, oc6_nat]
 rfl
theorem ocAll : ∀ x : Fin 256, ocN x.val % 128 = sz8 x.val ∧ ocN x.val < 9223372036854775808 := by decide +kernel
theorem oc_sz {x : Nat} (h : x < 256) : oc7 (oc6 (oc5 (oc4 (oc3 (oc2 (oc1 x)))))) = (sz8 x : Int) := by
 have h1 := ocAll ⟨x, h⟩
 simp only at h1
 rw [oc_nat (by omega)]
 unfold oc7
 have hw : wrap64 (ocN x : Int) = ocN x := by unfold wrap64; omega
 rw [hw, show (127 : Int) = ((127 : Nat) : Int) from rfl, i64_and _ _ (by omega) (by omega)]
 have e : ocN x &&& 127 = ocN x % 128 := Nat.and_two_pow_sub_one_eq_mod _ 7
 rw [e, h1.1]
set_option maxRecDepth 100000 in
set_option maxHeartbeats 1000000 in
theorem ones64 (x : Nat) (hx : x < 256) (w : World) :
 Calls Tryz.prog 78 #[.int .u64 x] w fun e w' => e = .returned (.int .i64 (sz8 x)) ∧ w = w' := by
 have H := hid (oc_sz hx)
 clear hx
 go_enter Tryz.func78, Tryz.ntmps78
 go_wp2
 go_ret
 exact ⟨ret_i H.out, rfl⟩
set_option maxRecDepth 100000 in
set_option maxHeartbeats 1000000 in
theorem onesF (x : Nat) (hx : x < 256) (w : World) :
 Calls Tryz.prog 46 #[.int .u64 x] w fun e w' => e = .returned (.int .i64 (sz8 x)) ∧ w = w' := by
 have H := hid (ones64 x hx w)
 clear hx
 go_enter Tryz.func46, Tryz.ntmps46
 go_wp2_with (go_at_call 78; refine (H.out).mono ?_; rintro e w1 ⟨rfl, rfl⟩)
 go_ret
 exact ⟨rfl, rfl⟩
set_option maxRecDepth 100000 in
set_option maxHeartbeats 1000000 in
theorem countF (x : Nat) (hx : x < 256) (w : World) :
 Calls Tryz.prog 26 #[.int .i64 x] w fun e w' => e = .returned (.int .i64 (sz8 x)) ∧ w = w' := by
 have H := hid (onesF x hx w)
 have hu : IntKind.u64.wrap (x : Int) = x := by rw [wu]; omega
 clear hx
 go_enter Tryz.func26, Tryz.ntmps26
 go_wp2_with (go_at_call 46; refine (H.out).mono ?_; rintro e w1 ⟨rfl, rfl⟩)
 go_ret
 exact ⟨rfl, rfl⟩
end Go.Proofs.YtflepjgcpdaodaaGreatDoor
/- Walk of the closure that tells what a player costs behind a set. Conditions: one to eight players; the table's cell is known. -/
namespace Go.Proofs.YtflepjgcpdaodaaGreatDoor
open Go.RowKit Go.Maps
attribute [local go_sem] Oper.semAt_some
attribute [local go_sem ↓] shl_p2 shr_v and_shr
theorem sz_and {n : Nat} (h8 : n ≤ 8) (b : Nat → Nat → Bool) (S : Nat → Bool) (i : Nat) : sz8 (mkN n (fun k => b i k && S k)) = ag n b S i := sz8_mk h8 _
theorem mk_addS {n : Nat} (h8 : n ≤ 8) (S : Nat → Bool) {i : Nat} (hi : i < n) : bits .or .i64 (mk n S) (p2 i) = mk n (addS S i) := by
 rw [← mk_single hi, mk_or (by omega)]
 rfl
theorem mkN_256 {n : Nat} (h8 : n ≤ 8) (f : Nat → Bool) : mkN n f < 256 := by
 have h1 := mkN_lt f n
 have h2 : (2 : Nat) ^ n ≤ 2 ^ 8 := Nat.pow_le_pow_right (by omega) h8
 omega
set_option maxRecDepth 100000 in
set_option maxHeartbeats 4000000 in
theorem costF (n c m rc tb rb ab ao rx i v : Nat) (b : Nat → Nat → Bool) (S : Nat → Bool) (w : World) (h8 : n ≤ 8) (hi : i < n)
 (ht : w.cell? ⟨tb, 0, none⟩ = some (.slice (some ⟨ab, ao, none⟩) n c)) (hr : w.cell? ⟨rb, 0, none⟩ = some (.slice (some ⟨rx, 0, none⟩) m rc))
 (hc : w.cell? ⟨ab, ao + i, none⟩ = some (.int .i64 (mk n (b i)))) (hm : mkN n (addS S i) < m) (hv : w.cell? ⟨rx, mkN n (addS S i), none⟩ = some (.int .i64 (v : Nat))) (hvb : v ≤ 1000) :
 Calls Tryz.prog 25 #[.int .i64 (mk n S), .int .i64 (i : Nat), .pointer (some ⟨tb, 0, none⟩), .pointer (some ⟨rb, 0, none⟩)] w fun e w' => e = .returned (.int .i64 ((ag n b S i + v : Nat) : Int)) ∧ ∃ q, w.drewN q = w' := by
 have hand : bits .and .i64 (mk n (b i)) (mk n S) = ((mkN n (fun k => b i k && S k) : Nat) : Int) := mk_and (by omega) _ _
 have hor := mk_addS h8 S hi
 have HCT := hid fun W => countF (mkN n (fun k => b i k && S k)) (mkN_256 h8 _) W
 rw [sz_and h8] at HCT
 have hag : ag n b S i ≤ 8 := Nat.le_trans (onesN_le _ _) h8
 have fi : Fits (i : Int) := ⟨by omega, by omega⟩
 have hin : (i : Int) < (n : Int) := by omega
 have hmm : ((mkN n (addS S i) : Nat) : Int) < (m : Int) := by omega
 have hm0 : mk n (addS S i) = ((mkN n (addS S i) : Nat) : Int) := rfl
 rw [hm0] at hor
 generalize mkN n (addS S i) = u at *
 generalize mkN n (fun k => b i k && S k) = z at *
 generalize ag n b S i = g at *
 generalize mk n (b i) = ti at *
 generalize mk n S = s at *
 have hwr : IntKind.i64.wrap ((g : Int) + (v : Int)) = ((g + v : Nat) : Int) := by rw [IntWalk.i64_in _ (by omega)]; omega
 clear hm0 h8
 go_enter Tryz.func25, Tryz.ntmps25
 go_wp2
 refine wp_region_held_drew (S := (fun w' => w'.cell? ⟨tb, 0, none⟩ = some (.slice (some ⟨ab, ao, none⟩) n c) ∧ w'.cell? ⟨rb, 0, none⟩ = some (.slice (some ⟨rx, 0, none⟩) m rc) ∧ w'.cell? ⟨ab, ao + i, none⟩ = some (.int .i64 ti) ∧ w'.cell? ⟨rx, u, none⟩ = some (.int .i64 (v : Nat)))) (by kernel_rfl) (by (try dsimp only); (exact ⟨ht, hr, hc, hv⟩)) (fun hHeld => ?_)
 refine tk ?_ 0 (some 7) rfl rfl ?_ ?_; rotate_left; · (intro w hSw; (try dsimp only at hSw); go_simp <;> with_reducible rfl)
 try simp only [Act.put, pA0, pA1, pA2]
 refine tk ?_ 1 (some 8) rfl rfl ?_ ?_; rotate_left; · (intro w hSw; (try dsimp only at hSw); go_simp <;> with_reducible rfl)
 try simp only [Act.put, pA0, pA1, pA2]
 refine tk ?_ 2 (some 9) rfl rfl ?_ ?_; rotate_left; · (intro w hSw; (try dsimp only at hSw); go_simp <;> with_reducible rfl)
 try simp only [Act.put, pA0, pA1, pA2]
 refine tk ?_ 3 (some 10) rfl rfl ?_ ?_; rotate_left; · (intro w hSw; (try dsimp only at hSw); go_simp <;> with_reducible rfl)
 try simp only [Act.put, pA0, pA1, pA2]
 refine tk ?_ 4 (some 11) rfl rfl ?_ ?_; rotate_left; · (intro w hSw; (try dsimp only at hSw); go_simp <;> with_reducible rfl)
 try simp only [Act.put, pA0, pA1, pA2]
 refine tk ?_ 5 (some 12) rfl rfl ?_ ?_; rotate_left; · (intro w hSw; (try dsimp only at hSw); go_simp <;> with_reducible rfl)
 try simp only [Act.put, pA0, pA1, pA2]
 refine tk ?_ 7 (some 14) rfl rfl ?_ ?_; rotate_left; · (intro w hSw; (try dsimp only at hSw); go_simp <;> with_reducible rfl)
 try simp only [Act.put, pA0, pA1, pA2]
 refine tk ?_ 8 (some 15) rfl rfl ?_ ?_; rotate_left; · (intro w hSw; (try dsimp only at hSw); go_simp <;> with_reducible rfl)
 try simp only [Act.put, pA0, pA1, pA2]
 refine tk ?_ 9 (some 16) rfl rfl ?_ ?_; rotate_left; · (intro w hSw; (try dsimp only at hSw); go_simp <;> with_reducible rfl)
 try simp only [Act.put, pA0, pA1, pA2]
 refine tk ?_ 10 (some 17) rfl rfl ?_ ?_; rotate_left; · (intro w hSw; (try dsimp only at hSw); go_simp <;> with_reducible rfl)
 try simp only [Act.put, pA0, pA1, pA2]
 refine tk ?_ 11 (some 18) rfl rfl ?_ ?_; rotate_left; · (intro w hSw; (try dsimp only at hSw); go_simp <;> with_reducible rfl)
 try simp only [Act.put, pA0, pA1, pA2]
 refine tk ?_ 12 (some 19) rfl rfl ?_ ?_; rotate_left; · (intro w hSw; (try dsimp only at hSw); go_simp <;> with_reducible rfl)
 try simp only [Act.put, pA0, pA1, pA2]
 refine tk ?_ 13 (some 20) rfl rfl ?_ ?_; rotate_left; · (intro w hSw; (try dsimp only at hSw); go_simp <;> with_reducible rfl)
 try simp only [Act.put, pA0, pA1, pA2]
 refine wpAnyH_ready (rs := [6]) (by kernel_rfl) (by simp) ?_
 refine AllReadyH.cons rfl (fun K hK => ?_) AllReadyH.nil
 go_simp
 go_at_call 26
 refine (HCT.out _).mono ?_
 rintro e w' ⟨rfl, rfl⟩
 refine hK.out _ _ ?_ (fun hHeld => ?_); · ((try dsimp only); (exact ⟨ht, hr, hc, hv⟩))
 clear hK K
 try simp only [Act.put, pA0, pA1, pA2]
 refine tk ?_ 14 (some 21) rfl rfl ?_ ?_; rotate_left; · (intro w hSw; (try dsimp only at hSw); go_simp <;> with_reducible rfl)
 try simp only [Act.put, pA0, pA1, pA2]
 refine tk ?_ 15 (some 6) rfl rfl ?_ ?_; rotate_left; · (intro w hSw; (try dsimp only at hSw); go_simp <;> with_reducible rfl)
 try simp only [Act.put, pA0, pA1, pA2]
 refine wpAnyH_done (by kernel_rfl) ?_ _
 go_wp2
 go_ret
 exact ⟨ret_i (by omega), 1, rfl⟩
end Go.Proofs.YtflepjgcpdaodaaGreatDoor
/- Plain law of the table of the best orders, and the elements of a set in their order. No condition. -/
namespace Go.Proofs.YtflepjgcpdaodaaGreatDoor
open Go.RowKit Go.Shelf
theorem sorted_eq : ∀ (l k : List Nat), l.Pairwise (· < ·) → k.Pairwise (· < ·) → (∀ x, x ∈ l ↔ x ∈ k) → l = k
 | [], [], _, _, _ => rfl
 | [], y :: k, _, _, h => by have := (h y).2 (by simp); simp at this
 | x :: l, [], _, _, h => by have := (h x).1 (by simp); simp at this
 | x :: l, y :: k, hl, hk, h => by
  rw [List.pairwise_cons] at hl hk
  have hxy : x = y := by
   rcases List.mem_cons.1 ((h x).1 (by simp)) with e | e
   · exact e
   · rcases List.mem_cons.1 ((h y).2 (by simp)) with e2 | e2
     · exact e2.symm
     · have h1 := hk.1 x e
       have h2 := hl.1 y e2
       omega
  subst hxy
  rw [sorted_eq l k hl.2 hk.2 fun z => by
   have hz := h z
   rw [List.mem_cons, List.mem_cons] at hz
   constructor
   · intro hm
     have h1 := hl.1 z hm
     rcases hz.1 (.inr hm) with e | e
     · omega
     · exact e
   · intro hm
     have h1 := hk.1 z hm
     rcases hz.2 (.inr hm) with e | e
     · omega
     · exact e]
theorem elems_rise : ∀ (xs : List Nat) (s : Nat), Elems s xs → xs.Pairwise (· < ·) ∧ ∀ x ∈ xs, s.testBit x = true
 | [], _, _ => ⟨List.Pairwise.nil, fun x hx => by simp at hx⟩
 | x :: xs, s, h => by
  obtain ⟨h0, hlt, rfl, hr⟩ := h
  obtain ⟨_, hb, hlow, hrest⟩ := low_bits h0 (by omega)
  obtain ⟨h1, h2⟩ := elems_rise xs _ hr
  refine ⟨List.pairwise_cons.2 ⟨fun y hy => ?_, h1⟩, fun y hy => ?_⟩
  · have h3 := h2 y hy
    rw [hrest, Bool.and_eq_true, decide_eq_true_eq] at h3
    have h4 : ¬ y < Lib.ctz 64 s := fun h => by have := hlow y h; rw [this] at h3; exact absurd h3.1 (by simp)
    omega
  · rcases List.mem_cons.1 hy with rfl | hy
    · exact hb
    · have h3 := h2 y hy
      rw [hrest, Bool.and_eq_true] at h3
      exact h3.1
theorem range_rise (n : Nat) : (List.range n).Pairwise (· < ·) := List.pairwise_lt_range
/-- Who is not in a set, as the program meets them. -/
theorem out_elems {n : Nat} (hn : n ≤ 8) (S : Nat → Bool) : Elems (mkN n (fun i => !S i)) (outS n S) := by
 obtain ⟨xs, h1, h2⟩ := mk_elems8 hn (fun i => !S i)
 have h3 : xs = outS n S := sorted_eq xs _ (elems_rise xs _ h1).1 ((range_rise n).filter _) fun x => by
  rw [h2, mem_outS]
  simp
 rw [← h3]
 exact h1
theorem mk_out {n : Nat} (hn : n ≤ 8) (S : Nat → Bool) : bits .andNot .i64 (p2 n - 1) (mk n S) = ((mkN n (fun i => !S i) : Nat) : Int) := by
 rw [← mk_all, mk_andNot (by omega)]
 simp only [Bool.true_and]
 rfl
section
variable (n : Nat) (b : Nat → Nat → Bool)
/-- The table, right from a set on. -/
def tabV (t u : Nat) : Int := if t ≤ u then (valS n b u.testBit : Nat) else 0
/-- The least so far, of the first q. -/
def minV (S : Nat → Bool) (q : Nat) : Nat := ((outS n S).take q).foldl (fun m i => min m (ag n b S i + valS n b (addS S i))) (n * n)
end
section
variable {n : Nat} {b : Nat → Nat → Bool}
theorem lack_num {s : Nat} (h : s + 1 < 2 ^ n) : lackS n s.testBit ≠ 0 := fun hl => by
 have h1 := lack_zero_iff.1 hl
 have h2 : mk n s.testBit = mk n (fun _ => true) := mk_congr fun k hk => h1 k hk
 rw [mk_all, ← mk_of (by omega), p2_nat] at h2
 omega
theorem lack_none (n : Nat) : lackS n (fun _ => false) = n := by
 unfold lackS
 induction n with
 | zero => rfl
 | succ n ih => rw [onesN_succ, ih]; rfl
theorem lack_full : lackS n (2 ^ n - 1).testBit = 0 := lack_zero fun k hk => by rw [Nat.testBit_two_pow_sub_one]; simp [hk]
theorem tab_start : arr (2 ^ n) (fun _ => 0) = arr (2 ^ n) (tabV n b (2 ^ n - 1)) := arr_congr fun u hu => by
 unfold tabV
 split
 · obtain rfl : u = 2 ^ n - 1 := by omega
   rw [valS_zero lack_full]
   rfl
 · rfl
theorem minV_zero (S : Nat → Bool) : minV n b S 0 = n * n := rfl
theorem minV_push {S : Nat → Bool} {q x : Nat} (h : (outS n S)[q]? = some x) : minV n b S (q + 1) = min (minV n b S q) (ag n b S x + valS n b (addS S x)) := by
 unfold minV
 rw [List.take_add_one, h, Option.toList_some, List.foldl_append]
 rfl
theorem minV_all {S : Nat → Bool} (h : lackS n S ≠ 0) : minV n b S (outS n S).length = valS n b S := by
 unfold minV
 rw [List.take_length, ← valS_step h]
theorem minV_le (S : Nat → Bool) (q : Nat) : minV n b S q ≤ n * n := (foldl_min_le _ _).1
/-- The table with one set more. -/
theorem tab_step {s : Nat} (h : s + 1 < 2 ^ n) : arr (2 ^ n) (fun u => if u = s then (minV n b s.testBit (outS n s.testBit).length : Nat) else tabV n b (s + 1) u) = arr (2 ^ n) (tabV n b s) := arr_congr fun u hu => by
 unfold tabV
 by_cases e : u = s
 · subst e
   rw [if_pos rfl, if_pos (Nat.le_refl _), minV_all (lack_num h)]
 · rw [if_neg e]
   by_cases e2 : s ≤ u
   · rw [if_pos (by omega), if_pos e2]
   · rw [if_neg (by omega), if_neg e2]
/-- What the table says of a set with one more. -/
theorem tab_add {s x : Nat} (hx : x < n) (hs : s.testBit x = false) (hlt : s < 2 ^ n) : s < mkN n (addS s.testBit x) ∧ mkN n (addS s.testBit x) < 2 ^ n ∧ valS n b (mkN n (addS s.testBit x)).testBit = valS n b (addS s.testBit x) := by
 refine ⟨?_, mkN_lt _ n, valS_congr fun j hj => by rw [mkN_bit]; simp [hj]⟩
 have h2 : mkN n (addS s.testBit x) = s ||| 2 ^ x := by
  apply Nat.eq_of_testBit_eq
  intro i
  rw [mkN_bit, Nat.testBit_or, Nat.testBit_two_pow]
  unfold addS
  by_cases hi : i < n
  · by_cases e : i = x
    · subst e; simp [hi]
    · have e2 : ¬ x = i := fun h => e h.symm
      simp [hi, e, e2]
  · have h3 : s.testBit i = false := Nat.testBit_lt_two_pow (Nat.lt_of_lt_of_le hlt (Nat.pow_le_pow_right (by decide) (by omega)))
    have e2 : ¬ x = i := by omega
    simp [hi, h3, e2]
 have h3 : s ≤ s ||| 2 ^ x := Nat.left_le_or
 have h4 : s ≠ s ||| 2 ^ x := fun e => by
  have h5 : (s ||| 2 ^ x).testBit x = true := by rw [Nat.testBit_or, Nat.testBit_two_pow]; simp
  rw [← e, hs] at h5
  cases h5
 omega
end
/-- The first that a test accepts. -/
theorem find_first {p : Nat → Bool} : ∀ (l : List Nat) (q x : Nat), l[q]? = some x → p x = true → (∀ j y, j < q → l[j]? = some y → p y = false) → l.find? p = some x
 | [], q, x, h, _, _ => by simp at h
 | z :: l, 0, x, h, hx, _ => by
  simp only [List.getElem?_cons_zero, Option.some.injEq] at h
  subst h
  simp [List.find?, hx]
 | z :: l, q + 1, x, h, hx, hn => by
  have h0 := hn 0 z (by omega) (by simp)
  rw [List.find?_cons, h0]
  exact find_first l q x (by simpa using h) hx fun j y hj hy => hn (j + 1) y (by omega) (by simpa using hy)
end Go.Proofs.YtflepjgcpdaodaaGreatDoor
