/- A key is put into a table that is half full: it doubles. Conditions: the key is not there, and bounded. -/
import Derived.Test.YtdclmhmdkhpekaaFresh
import Derived.Deep.CutRange
namespace Go.Proofs.Ytdclmhmdkhpekaa
open Go.RowKit

def dblS (W : World) (mb G1 G2 N : Nat) : World := ((W.setCell ⟨mb, 0, none⟩ (.slice (some ⟨G1, 0, none⟩) N N)).setCell ⟨mb, 1, none⟩ (.slice (some ⟨G2, 0, none⟩) N N)).setCell ⟨mb, 2, none⟩ (.int .i64 0)
section
variable {OK : Int → Bool → Prop} {W V : World} {mb g1 g2 N G1 G2 : Nat} {u0 u1 u2 : Value}
theorem dbl_size : (dblS W mb G1 G2 N).heap.size = W.heap.size := by simp [dblS]
theorem dbl_blk (h : Blk W mb 114 #[u0, u1, u2]) : Blk (dblS W mb G1 G2 N) mb 114 #[.slice (some ⟨G1, 0, none⟩) N N, .slice (some ⟨G2, 0, none⟩) N N, .int .i64 0] :=
  ((h.set 0 (.slice (some ⟨G1, 0, none⟩) N N)).set 1 (.slice (some ⟨G2, 0, none⟩) N N)).set 2 (.int .i64 0)
theorem dbl_tab (h : Blk W mb 114 #[u0, u1, u2]) (hp : ∃ e, 10 ≤ e ∧ e ≤ 29 ∧ N = 2 ^ e)
    (hw : V = (((dblS W mb W.heap.size (W.heap.size + 1) (2 * N)).alloc (.cells (arr (2 * N) fun _ => 0) 3)).alloc (.cells (barr (2 * N) fun _ => false) 4)).drew ∧ G1 = W.heap.size ∧ G2 = W.heap.size + 1 ∨
      V = (((dblS W mb (W.heap.size + 1) W.heap.size (2 * N)).alloc (.cells (barr (2 * N) fun _ => false) 4)).alloc (.cells (arr (2 * N) fun _ => 0) 3)).drew ∧ G1 = W.heap.size + 1 ∧ G2 = W.heap.size) :
    TabA OK V mb G1 G2 (2 * N) (fun _ => 0) (fun _ => false) [] ∧ Step W V mb g1 g2 G1 G2 := by
  have pw : ∃ e, 10 ≤ e ∧ e ≤ 30 ∧ 2 * N = 2 ^ e := by
    obtain ⟨e, h1, h2, rfl⟩ := hp
    exact ⟨e + 1, by omega, by omega, by rw [Nat.pow_succ]; omega⟩
  have st : ∀ G1 G2, Step W (dblS W mb G1 G2 (2 * N)) mb g1 g2 g1 g2 := fun G1 G2 => (((Step.refl W mb g1 g2).setCell (p := ⟨mb, 0, none⟩) (.inl rfl) _).setCell (p := ⟨mb, 1, none⟩) (.inl rfl) _).setCell (p := ⟨mb, 2, none⟩) (.inl rfl) _
  have nn : ∀ {X : World} (a b : Obj), Step W X mb g1 g2 g1 g2 → X.heap.size = W.heap.size → ∀ G1 G2, W.heap.size ≤ G1 → W.heap.size ≤ G2 → Step W ((X.alloc a).alloc b).drew mb g1 g2 G1 G2 := fun a b hs he G1 G2 k1 k2 => by
    have h1 := hs.then_below (((Below.refl _ _).alloc (Nat.le_refl _) a).alloc (by simp) b)
    exact ⟨h1.os, h1.tape, h1.output, h1.size, h1.block, .inr k1, .inr k2⟩
  rcases hw with ⟨rfl, rfl, rfl⟩ | ⟨rfl, rfl, rfl⟩
  · exact ⟨⟨(((dbl_blk h).alloc _).alloc _).drew, ((Blk.new_at _ 3 _ dbl_size.symm).alloc _).drew, (Blk.new_at _ 4 _ (by simp [dbl_size])).drew, pw, by simp, Good.fresh _, fun _ _ h => absurd rfl h⟩, nn _ _ (st _ _) dbl_size _ _ (by omega) (by omega)⟩
  · exact ⟨⟨(((dbl_blk h).alloc _).alloc _).drew, (Blk.new_at _ 3 _ (by simp [dbl_size])).drew, ((Blk.new_at _ 4 _ dbl_size.symm).alloc _).drew, pw, by simp, Good.fresh _, fun _ _ h => absurd rfl h⟩, nn _ _ (st _ _) dbl_size _ _ (by omega) (by omega)⟩
end

set_option maxRecDepth 100000 in
set_option maxHeartbeats 4000000 in
theorem putDbl (OK : Int → Bool → Prop) (mb g1 g2 N : Nat) (ks : Nat → Int) (ws : Nat → Bool) (L : List Int) (k : Int) (b : Bool) (hb : Bounds OK) (hok : OK k b) (hno : k ∉ L) (hl : N ≤ 2 * L.length) (w : World) (h : TabA OK w mb g1 g2 N ks ws L) :
    Calls Try.prog 88 #[.pointer (some ⟨mb, 0, none⟩), .int .i64 k, .bool b] w fun e w' => e = .returned (.tuple #[]) ∧ (∃ g1' g2' ks' ws' L', TabA OK w' mb g1' g2' (2 * N) ks' ws' L' ∧ (∀ x, x ∈ L' ↔ x = k ∨ x ∈ L) ∧ Step w w' mb g1 g2 g1' g2') := by
  have hkb := hb k b hok
  have hN := h.nbd
  have c0 := h.bm.cell 0
  have c1 := h.bm.cell 1
  have c2 := h.bm.cell 2
  simp only [List.getElem?_toArray, List.getElem?_cons_zero, List.getElem?_cons_succ] at c0 c1 c2
  have g : decide ((N : Int) ≤ 2 * (L.length : Int)) = true := decide_eq_true (by omega)
  have hLn : (L.length : Int) ≤ 1073741824 := by have := h.half; omega
  have H := hid h
  have m1 : ∀ W : World, (Instr.makeSlice 34 (.int .i64 (2 * (N : Int))) (.int .i64 (2 * (N : Int)))).run Try.prog W = .ok (.slice (some ⟨W.heap.size, 0, none⟩) (2 * N) (2 * N)) (W.alloc (.cells (arr (2 * N) fun _ => 0) 3)) := fun W => by
    have := make34 (2 * N) (by omega) W
    rwa [Int.natCast_mul] at this
  have m2 : ∀ W : World, (Instr.makeSlice 62 (.int .i64 (2 * (N : Int))) (.int .i64 (2 * (N : Int)))).run Try.prog W = .ok (.slice (some ⟨W.heap.size, 0, none⟩) (2 * N) (2 * N)) (W.alloc (.cells (barr (2 * N) fun _ => false) 4)) := fun W => by
    have := make62 (2 * N) (by omega) W
    rwa [Int.natCast_mul] at this
  have PW := hid (show ∃ e, 10 ≤ e ∧ e ≤ 29 ∧ N = 2 ^ e by
    obtain ⟨e, h1, h2, h3⟩ := h.pw
    refine ⟨e, h1, ?_, h3⟩
    have hfew := h.good.few (M := kMax) fun x hx => by
      obtain ⟨hx0, i, hi, rfl⟩ := (h.good.mem x).1 hx
      exact hb _ _ (h.tru i hi hx0)
    have hk : kMax = 305000000 := rfl
    apply Classical.byContradiction
    intro hc
    have e30 : e = 30 := by omega
    have d : 2 ^ 30 = 1073741824 := by decide
    rw [e30, d] at h3
    omega)
  clear h hkb
  go_enter Try.func88, Try.ntmps88
  go_wp2_with fail
  go_quiet (fail)
  generalize hW : w.drewN _ = W at *
  have HW := hid (show TabA OK W mb g1 g2 N ks ws L by rw [← hW]; exact H.out.drewN _)
  have HS := hid (show Step w W mb g1 g2 g1 g2 by rw [← hW]; exact (Step.refl _ _ _ _).drewN _)
  clear hW c0 c1 c2
  have c0 := HW.out.bm.cell 0
  have c1 := HW.out.bm.cell 1
  have c2 := HW.out.bm.cell 2
  simp only [List.getElem?_toArray, List.getElem?_cons_zero, List.getElem?_cons_succ] at c0 c1 c2
  go_wp2_with fail
  refine at_world fun W1 hW1 => ?_
  have T1 := hid (show TabA OK W1 mb g1 g2 N ks ws L by rw [hW1]; exact HW.out.keep ((Below.refl _ _).alloc (Nat.le_refl _) _))
  have S1 := hid (show Step w W1 mb g1 g2 g1 g2 by rw [hW1]; exact HS.out.then_below ((Below.refl _ _).alloc (Nat.le_refl _) _))
  have OB := hid (show Blk W1 W.heap.size 114 #[.slice (some ⟨g1, 0, none⟩) N N, .slice (some ⟨g2, 0, none⟩) N N, .int .i64 (L.length : Nat)] by rw [hW1]; exact Blk.new _ _ _)
  have hne : mb ≠ W.heap.size := by have := HW.out.bm.lt; omega
  have hlt : mb < W1.heap.size := T1.out.bm.lt
  have hlo : W.heap.size < W1.heap.size := OB.out.lt
  clear hW1 c0 c1 c2
  generalize W.heap.size = ob at *
  have c0 := T1.out.bm.cell 0
  have c1 := T1.out.bm.cell 1
  have c2 := T1.out.bm.cell 2
  have o0 := OB.out.cell 0
  have o1 := OB.out.cell 1
  simp only [List.getElem?_toArray, List.getElem?_cons_zero, List.getElem?_cons_succ] at c0 c1 c2 o0 o1
  have f0 := T1.out.bm.free 0
  have f1 := T1.out.bm.free 1
  have f2 := T1.out.bm.free 2
  go_cut [6] from 24 to 42 (fun p wx => p = .pointer (some ⟨ob, 0, none⟩) ∧ ∃ G1 G2, TabA OK wx mb G1 G2 (2 * N) (fun _ => 0) (fun _ => false) [] ∧ Step W1 wx mb g1 g2 G1 G2 ∧ W1.heap.size ≤ G1 ∧ W1.heap.size ≤ G2 ∧ Blk wx g1 3 (arr N ks) ∧ Blk wx g2 4 (barr N ws))
  case first =>
    go_region
    · go_wp2_with fail
      go_meet
      case rel => have hd := dbl_tab (OK := OK) (g1 := g1) (g2 := g2) T1.out.bm PW.out (.inl ⟨rfl, rfl, rfl⟩); exact ⟨rfl, _, _, hd.1, hd.2, by omega, by omega, ((((((T1.out.bk.far (p := ⟨mb, 0, none⟩) T1.out.m1.symm _).far (p := ⟨mb, 1, none⟩) T1.out.m1.symm _).far (p := ⟨mb, 2, none⟩) T1.out.m1.symm _).alloc _).alloc _).drew), ((((((T1.out.bw.far (p := ⟨mb, 0, none⟩) T1.out.m2.symm _).far (p := ⟨mb, 1, none⟩) T1.out.m2.symm _).far (p := ⟨mb, 2, none⟩) T1.out.m2.symm _).alloc _).alloc _).drew)⟩
    · go_wp2_with fail
      go_meet
      case rel => have hd := dbl_tab (OK := OK) (g1 := g1) (g2 := g2) T1.out.bm PW.out (.inr ⟨rfl, rfl, rfl⟩); exact ⟨rfl, _, _, hd.1, hd.2, by omega, by omega, ((((((T1.out.bk.far (p := ⟨mb, 0, none⟩) T1.out.m1.symm _).far (p := ⟨mb, 1, none⟩) T1.out.m1.symm _).far (p := ⟨mb, 2, none⟩) T1.out.m1.symm _).alloc _).alloc _).drew), ((((((T1.out.bw.far (p := ⟨mb, 0, none⟩) T1.out.m2.symm _).far (p := ⟨mb, 1, none⟩) T1.out.m2.symm _).far (p := ⟨mb, 2, none⟩) T1.out.m2.symm _).alloc _).alloc _).drew)⟩
  case rest =>
  obtain ⟨rfl, G1, G2, tg, sg, hG1, hG2, bg1, bg2⟩ := hcut
  have TG := hid tg
  have SG := hid sg
  have hg1 := T1.out.bk.lt
  have hg2 := T1.out.bw.lt
  have KEEP := hid (show ∀ W2, Step wc W2 mb G1 G2 G1 G2 → Blk W2 ob 114 #[.slice (some ⟨g1, 0, none⟩) N N, .slice (some ⟨g2, 0, none⟩) N N, .int .i64 (L.length : Nat)] ∧ Blk W2 g1 3 (arr N ks) ∧ Blk W2 g2 4 (barr N ws) by
    intro W2 st
    have hsz := sg.size
    have x1 := blk_ne OB.out T1.out.bk (by decide)
    have x2 := blk_ne OB.out T1.out.bw (by decide)
    have y1 := T1.out.m1
    have y2 := T1.out.m2
    have bo : Blk wc ob 114 #[.slice (some ⟨g1, 0, none⟩) N N, .slice (some ⟨g2, 0, none⟩) N N, .int .i64 (L.length : Nat)] := (sg.block ob hlo (fun e => hne e.symm) x1 x2).trans OB.out
    exact ⟨(st.block ob (by omega) (fun e => hne e.symm) (by omega) (by omega)).trans bo, (st.block g1 (by omega) y1.symm (by omega) (by omega)).trans bg1, (st.block g2 (by omega) y2.symm (by omega) (by omega)).trans bg2⟩)
  have F0 := KEEP.out wc (Step.refl _ _ _ _)
  have p0 := F0.1.cell 0
  simp only [List.getElem?_toArray, List.getElem?_cons_zero] at p0
  clear tg sg bg1 bg2 c0 c1 c2 o0 o1 f0 f1 f2 F0 m1 m2
  go_wp2_with fail
  go_loopg [46] N (fun gk i wr => ∃ j : Nat, gk + j = N ∧ i = .int .i64 j ∧ (∃ ks' ws' L', TabA OK wr mb G1 G2 (2 * N) ks' ws' L' ∧ ∀ x, x ∈ L' ↔ x ≠ 0 ∧ ∃ i, i < j ∧ ks i = x) ∧ Step wc wr mb G1 G2 G1 G2)
  case atStart => exact ⟨0, by omega, rfl, ⟨_, _, _, TG.out, fun x => by simp⟩, Step.refl _ _ _ _⟩
  case round =>
    clear p0
    obtain ⟨j, hj, rfl, ⟨ks', ws', L', ht, hm⟩, hst⟩ := hrel
    have HJ := hid hj; have HT := hid ht; have HM := hid hm; have HST := hid hst
    have K := hid (KEEP.out wr hst)
    have hlen : L'.length ≤ L.length := sub_len _ _ ht.good.nodup fun x hx => by
      obtain ⟨h0, i, hi, he⟩ := (hm x).1 hx
      exact (T1.out.good.mem x).2 ⟨h0, i, by omega, he⟩
    have hhalf := T1.out.half
    clear hj ht hm hst
    by_cases hlt : j < N
    · have q1 := K.out.1.cell 1
      simp only [List.getElem?_toArray, List.getElem?_cons_zero, List.getElem?_cons_succ] at q1
      have q2 := K.out.2.1.cell j
      rw [arr_get hlt] at q2
      have q3 := K.out.2.2.cell j
      rw [barr_get hlt] at q3
      by_cases hz : ks j = 0
      · have hnz : (ks j != 0) = false := by rw [hz]; rfl
        have HZ := hid hz
        clear hz
        go_wp2_with fail
        go_roundg (gk - 1)
        case measure => have := HJ.out; omega
        case rel => exact ⟨j + 1, by have := HJ.out; omega, by go_num, ⟨ks', ws', L', HT.out, fun x => by
          rw [HM.out]
          constructor
          · rintro ⟨h0, i, hi, he⟩; exact ⟨h0, i, by omega, he⟩
          · rintro ⟨h0, i, hi, he⟩
            refine ⟨h0, i, ?_, he⟩
            by_cases e : i = j
            · subst e; exact absurd (he.symm.trans HZ.out) h0
            · omega⟩, HST.out⟩
      · have hnz : (ks j != 0) = true := by rw [bne_iff_ne]; exact hz
        have HZ := hid hz
        have hnot : ks j ∉ L' := fun hc => by
          obtain ⟨_, i, hi, he⟩ := (HM.out _).1 hc
          have := T1.out.good.inj i j (by omega) hlt he (by rw [he]; exact hz)
          omega
        have PL := hid (putLow OK mb G1 G2 (2 * N) ks' ws' L' (ks j) (ws j) hb (T1.out.tru j hlt hz) hnot (by omega) wr HT.out)
        clear hz hnot
        go_wp2_with fail
        refine PL.out.mono ?_; rintro e w4 ⟨rfl, ⟨ks2, ws2, ht2⟩, st2⟩
        have HT2 := hid ht2
        have ST2 := hid (HST.out.trans st2)
        clear ht2 st2 q1 q2 q3
        go_wp2_with fail
        go_roundg (gk - 1)
        case measure => have := HJ.out; omega
        case rel => exact ⟨j + 1, by have := HJ.out; omega, by go_num, ⟨ks2, ws2, _, HT2.out, fun x => by
          rw [List.mem_cons, HM.out]
          constructor
          · rintro (rfl | ⟨h0, i, hi, he⟩)
            · exact ⟨HZ.out, j, by omega, rfl⟩
            · exact ⟨h0, i, by omega, he⟩
          · rintro ⟨h0, i, hi, he⟩
            by_cases e : i = j
            · subst e; exact .inl he.symm
            · exact .inr ⟨h0, i, by omega, he⟩⟩, ST2.out⟩
    · have hjN : j = N := by have := HJ.out; omega
      subst hjN
      have hmem : ∀ x, x ∈ L' ↔ x ∈ L := fun x => by rw [HM.out, T1.out.good.mem]
      have hno' : k ∉ L' := fun hc => hno ((hmem k).1 hc)
      have HS9 := hid ((S1.out.trans SG.out).trans HST.out)
      have HPL := hid (placeS OK mb G1 G2 (2 * j) ks' ws' L' k (hb k b hok).1 (hb k b hok).2)
      have HMEM := hid hmem
      clear hmem HST HM K
      go_wp2_with fail
      refine (HPL.out wr HT.out).mono ?_; rintro e w1 ⟨⟨t, hf, rfl⟩, rfl⟩
      have hk0 : k ≠ 0 := by have := (hb k b hok).1; omega
      have hz : ks' (slot (2 * j) k t) = 0 := by
        rcases hf.at_ with e | e
        · exact e
        · exact absurd (HT.out.good.isin (by omega) e hk0) hno'
      have hs := slot_lt (show 0 < 2 * j by omega) k t
      have HG := hid (HT.out.good.insert (by omega) hf hz hk0)
      have M1 := HT.out.m1; have M2 := HT.out.m2; have K2 := HT.out.k2
      generalize slot (2 * j) k t = s at *
      have B1 := hid (show Blk (wr.setCell ⟨G1, s, none⟩ (.int .i64 k)) G1 3 (arr (2 * j) (upd ks' s k)) by rw [← arr_upd]; exact HT.out.bk.set s _)
      have B2 := hid (HT.out.bw.far (p := ⟨G1, s, none⟩) K2.symm (.int .i64 k))
      have B3 := hid (HT.out.bm.far (p := ⟨G1, s, none⟩) M1 (.int .i64 k))
      have S1 := hid (HS9.out.setCell (p := ⟨G1, s, none⟩) (.inr (.inl rfl)) (.int .i64 k))
      have C2 := hid (show Blk ((wr.setCell ⟨G1, s, none⟩ (.int .i64 k)).setCell ⟨G2, s, none⟩ (.bool b)) G2 4 (barr (2 * j) (upd ws' s b)) by rw [← barr_upd]; exact B2.out.set s _)
      have C1 := hid (B1.out.far (p := ⟨G2, s, none⟩) K2 (.bool b))
      have C3 := hid (B3.out.far (p := ⟨G2, s, none⟩) M2 (.bool b))
      have S2 := hid (S1.out.setCell (p := ⟨G2, s, none⟩) (.inr (.inr rfl)) (.bool b))
      have D3 := hid (C3.out.set 2 (.int .i64 ((L'.length : Int) + 1)))
      have D1 := hid (C1.out.far (p := ⟨mb, 2, none⟩) M1.symm (.int .i64 ((L'.length : Int) + 1)))
      have D2 := hid (C2.out.far (p := ⟨mb, 2, none⟩) M2.symm (.int .i64 ((L'.length : Int) + 1)))
      have S3 := hid (S2.out.setCell (p := ⟨mb, 2, none⟩) (.inl rfl) (.int .i64 ((L'.length : Int) + 1)))
      have x0 := HT.out.bm.cell 0
      have x1 := B3.out.cell 1
      have x2 := C3.out.cell 2
      simp only [List.getElem?_toArray, List.getElem?_cons_zero, List.getElem?_cons_succ] at x0 x1 x2
      have z1 := HT.out.bk.cell s
      rw [arr_get hs] at z1
      have f1 := HT.out.bk.free s
      have z2 := B2.out.cell s
      rw [barr_get hs] at z2
      have f2 := B2.out.free s
      have f3 := C3.out.free 2
      clear hf hz HPL
      have hLn' : (L'.length : Int) ≤ 1073741824 := by omega
      go_wp2_with fail
      go_end0
      have hbm : (#[Value.slice (some ⟨G1, 0, none⟩) (2 * j) (2 * j), .slice (some ⟨G2, 0, none⟩) (2 * j) (2 * j), .int .i64 (L'.length : Nat)] : Array Value).setIfInBounds 2 (.int .i64 ((L'.length : Int) + 1)) = #[Value.slice (some ⟨G1, 0, none⟩) (2 * j) (2 * j), .slice (some ⟨G2, 0, none⟩) (2 * j) (2 * j), .int .i64 ((k :: L').length : Nat)] := by
        rw [List.length_cons, Int.natCast_add]; rfl
      refine ⟨rfl, ⟨G1, G2, upd ks' s k, upd ws' s b, k :: L', ⟨by rw [← hbm]; exact D3.out, D1.out, D2.out, HT.out.pw, ?_, HG.out, fun i hi hne => ?_⟩, fun x => by rw [List.mem_cons, HMEM.out], S3.out⟩⟩
      · obtain ⟨e, h1, _, h3⟩ := HT.out.pw
        have h4 : 2 * j = 2 * 2 ^ (e - 1) := by rw [h3, ← Nat.pow_succ', show (e - 1).succ = e by omega]
        rw [List.length_cons]
        generalize 2 ^ (e - 1) = p at h4
        omega
      · unfold upd at hne ⊢
        by_cases e : i = s
        · rw [if_pos e, if_pos e]; exact hok
        · rw [if_neg e] at hne
          rw [if_neg e, if_neg e]
          exact HT.out.tru i hi hne
end Go.Proofs.Ytdclmhmdkhpekaa
