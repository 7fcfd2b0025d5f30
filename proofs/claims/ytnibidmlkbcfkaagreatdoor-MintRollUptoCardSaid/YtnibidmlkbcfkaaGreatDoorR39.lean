/- Texts of this proof, one behind the other; each says its condition at its head. -/
import Derived.Test.YtnibidmlkbcfkaaGreatDoorR38
import Derived.Test.YtnibidmlkbcfkaaGreatDoorR34
import Derived.Test.YtnibidmlkbcfkaaGreatDoorR35
import Derived.Test.YtnibidmlkbcfkaaGreatDoorR30
/- Walks of order's lines and Lines, and of the question roll, at any order of one to six elements. Conditions: what a mint's books keep; the library's variables stand. -/
namespace Go.Proofs.YtnibidmlkbcfkaaGreatDoor
open Go.RowKit Go.Maps Go.Shelf
/-- What the closure does, at any set. -/
theorem growF (n : Nat) (a : Nat → Nat → Bool) (hn : n ≤ 6) (ho : OrdOk n a) (B bo bx bl bg : Nat) (F : List Nat) (hb : BxL B bo bx bl bg) : ∀ (f : Nat) (lv : List Nat) (r s : Nat) (vl vo vr : Value) (w : World), (bitsL s).length ≤ f → GS n a B bo bx bl bg lv F r vl vo vr w → lv.length + (bitsL s).length = n → s < 2 ^ n → (r = 0 → F = lv ++ lnL n a f s) → r + 6 ^ f ≤ 900000 → Tab w → B ≤ w.heap.size →
 Calls Tryz.prog 73 #[.int .i64 (s : Nat), .pointer (some ⟨bx, 0, none⟩), .pointer (some ⟨bl, 0, none⟩), .pointer (some ⟨bo, 0, none⟩), .pointer (some ⟨bg, 0, none⟩)] w fun e w' => e = .returned (.tuple #[]) ∧ GrowR n a B bo bx bl bg lv F r (6 ^ f) vl vo vr w w' := by
 intro f
 induction f with
 | zero =>
  intro lv r s vl vo vr w hf h hl hs hF hr hT hB
  have hb0 : bitsL s = [] := List.eq_nil_of_length_eq_zero (by omega)
  have hs0 : s = 0 := by
   rcases Nat.eq_zero_or_pos s with e | e
   · exact e
   · obtain ⟨i, hi⟩ := Nat.exists_testBit_of_ne_zero (Nat.ne_of_gt e)
     have := (mem_bits (p64 hn hs)).2 hi
     rw [hb0] at this
     simp at this
  subst hs0
  exact growZ n a B bo bx bl bg lv F r vl vo vr w h (by omega) (fun e => by rw [hF e]; exact List.append_nil _) (by omega) hT hB hb
 | succ f ih =>
  intro lv r s vl vo vr w hf h hl hs hF hr hT hB
  by_cases h0 : s = 0
  · subst h0
    refine (growZ n a B bo bx bl bg lv F r vl vo vr w h (by omega) (fun e => by rw [hF e]; exact List.append_nil _) (Nat.le_trans (Nat.le_add_right _ _) hr) hT hB hb).mono ?_
    rintro e w' ⟨he, ⟨r', vl', vo', vr', h1, h2, h3, h4⟩, hc⟩
    exact ⟨he, ⟨r', vl', vo', vr', h1, by have := Nat.pow_pos (n := f + 1) (show 0 < 6 by decide); omega, h3, h4⟩, hc⟩
  · have hp : 6 ^ (f + 1) = 6 * 6 ^ f := by rw [Nat.pow_succ, Nat.mul_comm]
    rw [hp] at hr ⊢
    refine growS n a hn ho B bo bx bl bg lv F r f s (6 ^ f) vl vo vr w h hl hs h0 hF hr hT hB hb ?_
    intro lv' r' x vl' vo' vr' W hx hg hl' hF' hr' hT' hB'
    obtain ⟨f1, f2, f3, f4⟩ := clr_facts (p64 hn hs) hx
    exact ih lv' r' (clr s x) vl' vo' vr' W (by omega) hg hl' (by omega) hF' hr' hT' hB'
set_option maxRecDepth 100000 in
set_option maxHeartbeats 4000000 in
theorem linesF (n : Nat) (a : Nat → Nat → Bool) (_hn1 : 1 ≤ n) (hn : n ≤ 6) (ho : OrdOk n a) (w : World) (hT : Tab w) :
 Calls Tryz.prog 43 #[.agg (ordC n a)] w fun e w' => ∃ O oc r rows R rc, e = .returned (.slice O r oc) ∧ 1 ≤ r ∧ r ≤ 100000 ∧ w'.ownsRow w.heap.size 36 1 (.slice O r oc) r rows ∧ rows[0]? = some (.slice R n rc) ∧ w'.ownsRow w.heap.size 3 1 (.slice R n rc) n (iV (lineO n a)) ∧ Below w.heap.size w w' := by
 have he : ∀ args W, (callFunc 73 args).run Tryz.prog W = .ok (.enter 73 args) W := fun args W => enters Tryz.func73 (by kernel_rfl) rfl args W
 have HT := hid hT
 have hlen : (lineO n a).length = n := (lineO_all hn ho).2.2.2
 have hbf : (bitsL (2 ^ n - 1)).length = n := bits_full hn
 have hp1 : 0 < 2 ^ n := Nat.pow_pos (by decide)
 have h6 : 6 ^ n ≤ 6 ^ 6 := Nat.pow_le_pow_right (by decide) hn
 have HGF := hid fun B bo bx bl bg hb W (h : GS n a B bo bx bl bg [] (lineO n a) 0 (.slice none 0 0) (.slice none 0 0) (.slice none 0 0) W) (hT : Tab W) (hB : B ≤ W.heap.size) => growF n a hn ho B bo bx bl bg (lineO n a) hb n [] 0 (2 ^ n - 1) _ _ _ W (Nat.le_of_eq hbf) h (by rw [hbf]; simp) (by omega) (fun _ => rfl) (by rw [Nat.zero_add]; exact Nat.le_trans h6 (by decide)) hT hB
 have HAL := hid fun W => allF n a hn W
 have HR6 := hid (show ∀ q, q ≤ 0 + 6 ^ n → q ≤ 100000 from fun q hq => by rw [Nat.zero_add] at hq; exact Nat.le_trans hq (Nat.le_trans h6 (by decide)))
 have HLEN := hid hlen
 generalize ((2 ^ n - 1 : Nat) : Int) = full at *
 clear hT hlen hbf hp1 h6 ho
 have HGN := hid (show ∀ bo bx bl bg, growV bo bx bl bg = .func (.func 73) #[] #[.pointer (some ⟨bx, 0, none⟩), .pointer (some ⟨bl, 0, none⟩), .pointer (some ⟨bo, 0, none⟩), .pointer (some ⟨bg, 0, none⟩)] from fun _ _ _ _ => rfl)
 obtain ⟨oV, hoV⟩ : ∃ oV, oV = ordC n a := ⟨_, rfl⟩
 have HOV := hid hoV
 rw [← hoV] at HAL ⊢
 unfold ordC at hoV
 subst hoV
 go_enter Tryz.func43, Tryz.ntmps43
 go_wp2_with fail
 have HLN := hid (show GS n a (w.heap.size + 4) w.heap.size (w.heap.size + 1) (w.heap.size + 1 + 1) (w.heap.size + 1 + 1 + 1) [] (lineO n a) 0 (.slice none 0 0) (.slice none 0 0) (.slice none 0 0) ((((w.alloc (.cells (ordC n a) 78)).alloc (.cells #[.slice none 0 0] 39)).alloc (.cells #[.slice none 0 0] 36)).alloc (.cells #[growV w.heap.size (w.heap.size + 1) (w.heap.size + 1 + 1) (w.heap.size + 1 + 1 + 1)] 133)) from
  ⟨(((Blk.new w _ _).alloc _).alloc _).alloc _, Blk.new_at _ _ _ (by simp), ((Blk.new_at _ _ _ (by simp)).alloc _).alloc _, (Blk.new_at _ _ _ (by simp)).alloc _, World.ownsRow_nil _ _ _ _, ⟨[], World.ownsRow_nil _ _ _ _, fun h => absurd rfl h⟩, fun h => absurd rfl h, fun _ => rfl, fun g hg => by cases hg⟩)
 have HLO := hid (show Below w.heap.size w ((((w.alloc (.cells (ordC n a) 78)).alloc (.cells #[.slice none 0 0] 39)).alloc (.cells #[.slice none 0 0] 36)).alloc (.cells #[growV w.heap.size (w.heap.size + 1) (w.heap.size + 1 + 1) (w.heap.size + 1 + 1 + 1)] 133)) from ((((Below.refl _ w).alloc (Nat.le_refl _) _).alloc (by simp) _).alloc (by simp; omega) _).alloc (by simp; omega) _)
 have HSZ := hid (show ((((w.alloc (.cells (ordC n a) 78)).alloc (.cells #[.slice none 0 0] 39)).alloc (.cells #[.slice none 0 0] 36)).alloc (.cells #[growV w.heap.size (w.heap.size + 1) (w.heap.size + 1 + 1) (w.heap.size + 1 + 1 + 1)] 133)).heap.size = w.heap.size + 4 from by simp)
 unfold growV ordC at HLO HLN HSZ
 generalize ((((w.alloc (.cells #[.int .i64 (n : Nat), .int .i64 (oc n a 0), .int .i64 (oc n a 1), .int .i64 (oc n a 2), .int .i64 (oc n a 3), .int .i64 (oc n a 4), .int .i64 (oc n a 5)] 78)).alloc (.cells #[.slice none 0 0] 39)).alloc (.cells #[.slice none 0 0] 36)).alloc (.cells #[.func (.func 73) #[] #[.pointer (some ⟨w.heap.size + 1, 0, none⟩), .pointer (some ⟨w.heap.size + 1 + 1, 0, none⟩), .pointer (some ⟨w.heap.size, 0, none⟩), .pointer (some ⟨w.heap.size + 1 + 1 + 1, 0, none⟩)]] 133)) = W at *
 have HP := hid HT.out.pos
 have HBL := hid (show BxL (w.heap.size + 4) w.heap.size (w.heap.size + 1) (w.heap.size + 1 + 1) (w.heap.size + 1 + 1 + 1) from ⟨⟨by omega, by omega, by omega, by omega⟩, by have := HP.out; omega, by have := HP.out; omega, by have := HP.out; omega⟩)
 have HTW := hid (HT.out.below HLO.out)
 have HQ := hid HLN.out.ord
 have HGR := hid HLN.out.grow
 unfold ordC at HQ
 unfold growV at HGR
 refine wp_region_held_drew (S := (fun w' => w'.cell? ⟨w.heap.size + 1 + 1 + 1, 0, none⟩ = some (.func (.func 73) #[] #[.pointer (some ⟨w.heap.size + 1, 0, none⟩), .pointer (some ⟨w.heap.size + 1 + 1, 0, none⟩), .pointer (some ⟨w.heap.size, 0, none⟩), .pointer (some ⟨w.heap.size + 1 + 1 + 1, 0, none⟩)]) ∧ (∀ i, i < 7 → w'.cell? ⟨w.heap.size, i, none⟩ = (#[Value.int .i64 (n : Nat), .int .i64 (oc n a 0), .int .i64 (oc n a 1), .int .i64 (oc n a 2), .int .i64 (oc n a 3), .int .i64 (oc n a 4), .int .i64 (oc n a 5)] : Array Value)[i]?))) (by kernel_rfl) (by (try dsimp only); (first | exact ⟨HGR.out.cell 0, fun i _ => HQ.out.cell i⟩ | exact ⟨HGR.out.drew.cell 0, fun i _ => HQ.out.drew.cell i⟩)) (fun hHeld => ?_)
 have HGR := hid HGR.out.drew; have HQ := hid HQ.out.drew; have HBX := hid (Below.refl W.heap.size W).drew
 generalize W.drew = X1 at *
 obtain ⟨X, rfl⟩ : ∃ Y, Y = X1 := ⟨X1, rfl⟩
 refine tk ?_ 0 (some 7) rfl rfl ?_ ?_; rotate_left; · (intro w hSw; (try dsimp only at hSw); go_simp <;> with_reducible rfl)
 try simp only [Act.put, pA0, pA1, pA2]
 have o0 := HQ.out.cell 0
 have o1 := HQ.out.cell 1
 have o2 := HQ.out.cell 2
 have o3 := HQ.out.cell 3
 have o4 := HQ.out.cell 4
 have o5 := HQ.out.cell 5
 have o6 := HQ.out.cell 6
 refine tk ?_ 1 (some 8) rfl rfl ?_ ?_; rotate_left; · (intro w hSw; (try dsimp only at hSw); go_simp <;> with_reducible rfl)
 try simp only [Act.put, pA0, pA1, pA2]
 refine wpAnyH_ready (rs := [2]) (by kernel_rfl) (by simp) ?_
 refine AllReadyH.cons rfl (fun K hK => ?_) AllReadyH.nil
 go_simp
 refine (HAL.out _).mono ?_; rintro e X ⟨rfl, bb⟩
 have HGR := hid (HGR.out.keep bb); have HQ := hid (HQ.out.keep bb); have HBX := hid (below_call HBX.out bb HBX.out.size)
 clear bb hHeld
 refine hK.out _ _ ?_ (fun hHeld => ?_); · ((try dsimp only); (first | exact ⟨HGR.out.cell 0, fun i _ => HQ.out.cell i⟩ | exact ⟨HGR.out.drew.cell 0, fun i _ => HQ.out.drew.cell i⟩))
 clear hK K
 try simp only [Act.put, pA0, pA1, pA2]
 refine wpAnyH_ready (rs := [3]) (by kernel_rfl) (by simp) ?_
 refine AllReadyH.cons rfl (fun K hK => ?_) AllReadyH.nil
 go_simp
 refine (HGF.out _ _ _ _ _ HBL.out X (HLN.out.keep HBX.out) (HTW.out.below HBX.out) (by have := HBX.out.size; have := HSZ.out; omega)).mono ?_; rintro e Y ⟨rfl, hgr⟩
 have HGW := hid hgr
 have HGR := hid (hgr.ex.elim fun _ ⟨_, _, _, _, _, h, _⟩ => h.grow); have HQ := hid (hgr.ex.elim fun _ ⟨_, _, _, _, _, h, _⟩ => h.ord)
 unfold ordC at HQ
 unfold growV at HGR
 clear hgr hHeld
 refine hK.out _ _ ?_ (fun hHeld => ?_); · ((try dsimp only); (first | exact ⟨HGR.out.cell 0, fun i _ => HQ.out.cell i⟩ | exact ⟨HGR.out.drew.cell 0, fun i _ => HQ.out.drew.cell i⟩))
 clear hK K
 try simp only [Act.put, pA0, pA1, pA2]
 refine wpAnyH_done (by kernel_rfl) ?_ _
 obtain ⟨⟨r', vl', vo', vr', h1, h2, h3, h4⟩, hch⟩ := HGW.out
 obtain ⟨rows, hro, hr0⟩ := h3.oo
 obtain ⟨O, oc, rfl⟩ := own_form hro
 have hfs := h3.fst (by omega)
 rw [HLEN.out] at hfs
 obtain ⟨R, rc, rfl⟩ := own_form hfs
 have z3 := h3.out.cell 0
 simp only [List.getElem?_toArray, List.getElem?_cons_zero] at z3
 have HRES := hid (show 1 ≤ r' ∧ r' ≤ 100000 ∧ Y.ownsRow w.heap.size 36 1 (.slice O r' oc) r' rows ∧ rows[0]? = some (.slice R n rc) ∧ Y.ownsRow w.heap.size 3 1 (.slice R n rc) n (iV (lineO n a)) from ⟨h1, HR6.out _ h2, own_more hro (by omega), hr0 (by omega), own_more hfs (by omega)⟩)
 have HLW := hid (show Below w.heap.size w Y from hch.below (HLO.out.trans (HBX.out.mono HLO.out.size)) (by have := HLO.out.size; have := HBX.out.size; omega) fun i hi => by
  rcases hi with hi | hi | hi
  · omega
  · omega
  · rcases hi with hi | hi | hi <;> cases hi)
 clear h1 h2 h3 h4 hch hro hr0 hfs
 go_wp2
 go_ret
 exact ⟨O, oc, r', rows, R, rc, rfl, HRES.out.1, HRES.out.2.1, HRES.out.2.2.1, HRES.out.2.2.2.1, HRES.out.2.2.2.2, HLW.out⟩
set_option maxRecDepth 100000 in
set_option maxHeartbeats 4000000 in
theorem ordLinesF (n : Nat) (a : Nat → Nat → Bool) (hn1 : 1 ≤ n) (hn : n ≤ 6) (ho : OrdOk n a) (A : Option Addr) (c : Nat) (w : World) (hs : Sl w A n c (intV (ordL n a))) (hT : Tab w) :
 Calls Tryz.prog 14 #[.slice A n c] w fun e w' => ∃ O oc r rows R rc, e = .returned (.tuple #[.slice O r oc, .int .i64 0]) ∧ 1 ≤ r ∧ r ≤ 100000 ∧ w'.ownsRow w.heap.size 36 1 (.slice O r oc) r rows ∧ rows[0]? = some (.slice R n rc) ∧ w'.ownsRow w.heap.size 3 1 (.slice R n rc) n (iV (lineO n a)) ∧ Below w.heap.size w w' := by
 have HR := hid (ordRead n a A c w hn1 hn ho hs hT)
 have HLF := hid fun W (hT : Tab W) => linesF n a hn1 hn ho W hT
 have HT := hid hT
 clear hs hT
 unfold ordC at HR HLF
 go_enter Tryz.func14, Tryz.ntmps14
 go_wp2_with fail
 refine (HR.out).mono ?_; rintro e w1 ⟨rfl, b1⟩
 have bb := b1.alloc b1.size (.cells #[.int .i64 (n : Nat), .int .i64 (oc n a 0), .int .i64 (oc n a 1), .int .i64 (oc n a 2), .int .i64 (oc n a 3), .int .i64 (oc n a 4), .int .i64 (oc n a 5)] 78)
 have HB := hid bb
 have HL := hid (HLF.out _ (HT.out.below bb))
 clear b1 bb HR HLF
 go_wp2_with fail
 refine (HL.out).mono ?_; rintro e w2 ⟨O, oc, r, rows, R, rc, rfl, h0, h1, h2, h3, h4, b2⟩
 have HH := hid (And.intro h0 (And.intro h1 (And.intro (own_more h2 HB.out.size) (And.intro h3 (own_more h4 HB.out.size)))))
 have HB2 := hid (below_call HB.out b2 HB.out.size)
 clear h0 h1 h2 h3 h4 b2 HL
 go_wp2
 go_ret2
 exact ⟨O, oc, r, rows, R, rc, rfl, HH.out.1, HH.out.2.1, HH.out.2.2.1, HH.out.2.2.2.1, HH.out.2.2.2.2, HB2.out⟩
def sRoll : ByteArray := ⟨#[114, 111, 108, 108]⟩
/-- What 'roll' replies. -/
def replyRoll (s : Bk) : ByteArray × Nat := (nmd sRoll s.medals (lineO s.medals.length (bitsOf s.above)), 0)
set_option maxRecDepth 100000 in
set_option maxHeartbeats 4000000 in
theorem rollQ (s : Bk) (hs : BkT s) : AskC 95 s [] [] (replyRoll s) := by
 intro w G sb A c D d hst hA hD hE hT
 obtain ⟨M, mc, U, uc, Q, pc, T, tc, E, ec, g1, g2, g3, _, _, _, _, _, _, _, _, _⟩ := hst.ex
 have hal := hs.bk.1.abv
 have hml := hs.bk.1.med
 obtain ⟨ht1, ht2⟩ := hs.bk.2.bits
 have hnz := nm_size hs.nm.md
 have B1 := (Below.refl w.heap.size w).alloc (Nat.le_refl _) (.cells #[.slice A 0 c, .slice D 0 d] 124)
 have HB1 := hid B1
 have HSB := hid (g1.keep B1)
 have c0 := (g1.keep B1).cell 0
 have c1 := (g1.keep B1).cell 1
 simp only [stV, List.getElem?_toArray, List.getElem?_cons_zero, List.getElem?_cons_succ] at c0 c1
 have HM := hid (g2.below B1)
 have HU := hid (g3.below B1)
 have HTA := hid (hT.below B1)
 unfold replyRoll
 generalize bitsOf s.above = a at *
 rw [hal] at ht1 ht2 c1 HU
 rw [ht1] at HU
 clear ht1 hst hA hD hE hT g1 g2 g3 B1
 obtain ⟨names, hnm⟩ : ∃ l, l = s.medals := ⟨_, rfl⟩
 rw [← hnm] at hml ht2 c0 c1 HM HU hnz ⊢
 have HOK := hid ht2
 have HNZ := hid hnz
 clear ht2 hnm hnz hs hal
 by_cases h0 : names.length = 0
 · have hnl : names = [] := List.eq_nil_of_length_eq_zero h0
   subst hnl
   have HRE := hid (show nmd sRoll [] (lineO 0 a) = ⟨#[114, 111, 108, 108]⟩ from rfl)
   simp only [List.length_nil] at *
   go_enter Tryz.func95, Tryz.ntmps95
   go_wp2
   go_ret2
   exact ⟨by rw [HRE.out]; rfl, HB1.out⟩
 · have hz : ((names.length : Int) == 0) = false := by rw [beq_eq_false_iff_ne]; omega
   have hz2 : (names.length == 0) = false := by rw [beq_eq_false_iff_ne]; exact h0
   obtain ⟨l1, l2, l3, l4⟩ := lineO_all hml HOK.out
   have HLL := hid fun i hi => (l1 i).1 hi
   have HC := hid (ordLinesF names.length a (by omega) hml HOK.out U uc _ HU.out HTA.out)
   have HNL := hid (show names.length ≤ 6 from hml)
   obtain ⟨ln, hln⟩ : ∃ ln, ln = lineO names.length a := ⟨_, rfl⟩
   rw [← hln] at HC HLL ⊢
   obtain ⟨nn, hnn⟩ : ∃ nn, nn = names.length := ⟨_, rfl⟩
   have HNN := hid hnn
   rw [← hnn] at h0 hz hz2 hml HC HNL c0 c1 HM HU HOK l4 HLL
   clear hln l1 l2 l3 l4 hnn
   go_enter Tryz.func95, Tryz.ntmps95
   go_wp2_with fail
   refine (HC.out).mono ?_; rintro e w2 ⟨O, oc, r, rows, R, rc, rfl, h1, h2, h3, h4, h5, b2⟩
   have HB2 := hid (below_call HB1.out b2 HB1.out.size)
   have C0 := hid (cell_keep b2 c0)
   have HM2 := hid (HM.out.below b2)
   have HROW := hid (Sl.of_own h5)
   have hcap := (Sl.of_own h3).cap
   obtain ⟨bo, oo, u, rfl, lb, e1, ca⟩ := (Sl.of_own h3).at (k := 0) h1
   rw [h4] at e1
   simp only [Option.some.injEq, Nat.add_zero] at e1 ca
   subst e1
   have HCA := hid ca
   have hr0 : (0 : Int) < (r : Int) := by omega
   have hr01 : 0 < r := h1
   clear h3 h4 h5 b2 HC c0 c1 HM HU HTA HSB lb hz hz2 ca
   go_wp2_with fail
   have HNMF := hid fun X hm hr => namedF ⟨#[114, 111, 108, 108]⟩ M nn mc names R nn rc ln X hm hr HLL.out (by decide) HNZ.out (by have := HNL.out; omega)
   have HEQ := hid (show nmd ⟨#[114, 111, 108, 108]⟩ names ln = nmd sRoll names ln from rfl)
   refine wp_region_held_drew (S := (fun w' => w'.cell? ⟨sb, 0, none⟩ = some (.slice M nn mc) ∧ w'.cell? ⟨bo, oo, none⟩ = some (.slice R nn rc))) (by kernel_rfl) (by (try dsimp only); (exact ⟨C0.out, HCA.out⟩)) (fun hHeld => ?_)
   have HM2 := hid HM2.out.drew; have HROW := hid HROW.out.drew; have HB2 := hid HB2.out.drew; have C0 := hid (show w2.drew.cell? ⟨sb, 0, none⟩ = _ from C0.out); have HCA := hid (show w2.drew.cell? ⟨bo, oo, none⟩ = _ from HCA.out)
   generalize w2.drew = X1 at *
   obtain ⟨X, rfl⟩ : ∃ Y, Y = X1 := ⟨X1, rfl⟩
   refine tk ?_ 0 (some 25) rfl rfl ?_ ?_; rotate_left; · (intro w hSw; (try dsimp only at hSw); go_simp <;> with_reducible rfl)
   try simp only [Act.put, pA0, pA1, pA2]
   refine tk ?_ 1 (some 26) rfl rfl ?_ ?_; rotate_left; · (intro w hSw; (try dsimp only at hSw); go_simp <;> with_reducible rfl)
   try simp only [Act.put, pA0, pA1, pA2]
   refine tk ?_ 2 (some 27) rfl rfl ?_ ?_; rotate_left; · (intro w hSw; (try dsimp only at hSw); go_simp <;> with_reducible rfl)
   try simp only [Act.put, pA0, pA1, pA2]
   refine tk ?_ 3 (some 28) rfl rfl ?_ ?_; rotate_left; · (intro w hSw; (try dsimp only at hSw); go_simp <;> with_reducible rfl)
   try simp only [Act.put, pA0, pA1, pA2]
   refine tk ?_ 4 (some 29) rfl rfl ?_ ?_; rotate_left; · (intro w hSw; (try dsimp only at hSw); go_simp <;> with_reducible rfl)
   try simp only [Act.put, pA0, pA1, pA2]
   refine tk ?_ 5 (some 30) rfl rfl ?_ ?_; rotate_left; · (intro w hSw; (try dsimp only at hSw); go_simp <;> with_reducible rfl)
   try simp only [Act.put, pA0, pA1, pA2]
   refine tk ?_ 6 (some 31) rfl rfl ?_ ?_; rotate_left; · (intro w hSw; (try dsimp only at hSw); go_simp <;> with_reducible rfl)
   try simp only [Act.put, pA0, pA1, pA2]
   refine wpAnyH_ready (rs := [7]) (by kernel_rfl) (by simp) ?_
   refine AllReadyH.cons rfl (fun K hK => ?_) AllReadyH.nil
   go_simp
   refine (HNMF.out _ HM2.out HROW.out).mono ?_; rintro e X2 ⟨rfl, rfl⟩
   clear hHeld
   refine hK.out _ _ ?_ (fun hHeld => ?_); · ((try dsimp only); (exact ⟨C0.out, HCA.out⟩))
   clear hK K
   try simp only [Act.put, pA0, pA1, pA2]
   refine tk ?_ 8 (some 4) rfl rfl ?_ ?_; rotate_left; · (intro w hSw; (try dsimp only at hSw); go_simp <;> with_reducible rfl)
   try simp only [Act.put, pA0, pA1, pA2]
   refine tk ?_ 9 (some 5) rfl rfl ?_ ?_; rotate_left; · (intro w hSw; (try dsimp only at hSw); go_simp <;> with_reducible rfl)
   try simp only [Act.put, pA0, pA1, pA2]
   refine wpAnyH_done (by kernel_rfl) ?_ _
   go_wp2
   go_ret2
   exact ⟨by rw [HEQ.out]; rfl, HB2.out⟩
set_option maxRecDepth 100000 in
theorem mintRollAll (R : Nat → Prop) (m : Nat) (d : Value) (L : List (Nat × Nat)) (k : Int) (s : Bk) (J : List ByteArray) (out : Bool) (w : World) (hm : MinM w R m d L k s J out) (hs : BkT s) (he : EnvN w) (hT : Tab w) :
 Calls Tryz.prog 11 #[.pointer (some ⟨m, 0, none⟩), .string sRoll] w (AskR w (replyRoll s)) := by
 refine mintAskF R m d L k s J out sRoll (replyRoll s) w hm fun sb hst => ?_
 exact askYes 0 0 95 (by decide) R sb s sRoll [] [] (replyRoll s) (by decide) w he hT hst (by kernel_rfl) (fun args W => enters Tryz.func95 (by kernel_rfl) rfl args W) (by kernel_rfl) (by kernel_rfl) (rollQ s hs)
end Go.Proofs.YtnibidmlkbcfkaaGreatDoor
/- Walk of awake, over the question roll at any medals. Condition: the library's variables stand. -/
namespace Go.Proofs.YtnibidmlkbcfkaaGreatDoor
open Go.RowKit Go.Maps
def sMGold : ByteArray := ⟨#[109, 101, 100, 97, 108, 32, 103, 111, 108, 100]⟩
def sRoll2 : ByteArray := ⟨#[114, 111, 108, 108]⟩
abbrev sGd : ByteArray := ⟨#[103, 111, 108, 100]⟩
/-- The books behind one medal. -/
def sG : Bk := ⟨[sGd], [0], [], [], 0, 0, 0, 1, []⟩
theorem bkt_gold : BkT sG := (run_at [sMGold] bk0 sG BkT.begin (by kernel_rfl)).1
theorem rollG : AskC 95 sG [] [] (⟨#[114, 111, 108, 108, 32, 103, 111, 108, 100]⟩, 0) := by
 have h := rollQ sG bkt_gold
 rwa [show replyRoll sG = ((⟨#[114, 111, 108, 108, 32, 103, 111, 108, 100]⟩ : ByteArray), 0) from by kernel_rfl] at h
theorem doL_gold : doL bk0 sMGold = (sG, 0) := by kernel_rfl
/-- A mint with one medal is asked for the roll. -/
theorem mintRollQ (R : Nat → Prop) (m : Nat) (d : Value) (L : List (Nat × Nat)) (k : Int) (J : List ByteArray) (out : Bool) (w : World) (hm : MinM w R m d L k sG J out) (he : EnvN w) (hT : Tab w) :
 Calls Tryz.prog 11 #[.pointer (some ⟨m, 0, none⟩), .string sRoll2] w (AskR w (⟨#[114, 111, 108, 108, 32, 103, 111, 108, 100]⟩, 0)) := by
 refine mintAskF R m d L k sG J out sRoll2 _ w hm fun sb hst => ?_
 exact askYes 0 0 95 (by decide) R sb sG sRoll2 [] [] _ (by decide) w he hT hst (by kernel_rfl) (fun args W => enters Tryz.func95 (by kernel_rfl) rfl args W) (by kernel_rfl) (by kernel_rfl) rollG
/-- A mint is opened on new copies. -/
theorem openFresh (w w2 : World) (A2 : Option Addr) (c2 : Nat) (L : List (Nat × Nat)) (hB : Below w.heap.size w w2) (he : EnvN w) (hT : Tab w) (hs : Sl w2 A2 3 c2 (ptrs (L.map (·.1)))) (hn : NewC w2 w.heap.size L) (hl : L.length = 3) :
 Calls Tryz.prog 30 #[.slice A2 3 c2] w2 fun r w3 => ∃ m d R, r = .returned (.tuple #[.pointer (some ⟨m, 0, none⟩), .int .i64 0]) ∧ MinM w3 R m d L 1 bk0 [] false ∧ CpsM w3 L (likeC 1 []) ∧ Chs (inL L) w2 w3 ∧ (∀ i, R i ∨ footM m d i → w2.heap.size ≤ i) ∧ ∀ i, inL L i → w.heap.size ≤ i ∧ i < w2.heap.size := by
 have HLB : ∀ i, inL L i → w.heap.size ≤ i ∧ i < w2.heap.size := fun i hi => by
  rcases hi with hi | hi
  · obtain ⟨p, hp, rfl⟩ := List.mem_map.1 hi
    exact ⟨(hn.cpm p hp).2.1, (hn.cpm p hp).1.lt.1⟩
  · obtain ⟨p, hp, rfl⟩ := List.mem_map.1 hi
    exact ⟨(hn.cpm p hp).2.2, (hn.cpm p hp).1.lt.2⟩
 have hcps := cps_new hn hl
 have hr0 : runL stepL bk0 [] = some bk0 := rfl
 have htop : topM (likeC 0 []) = 0 := top_like 0 [] (by omega)
 have hrd : readM (likeC 0 []) = (bk0, []) := read_like 0 [] bk0 (by omega) (by simp) hr0
 have hop : openM (likeC 0 []) = likeC 1 [] := open_like 0 [] bk0 (by omega) (by simp) hr0
 have HOP := openG3 w w2 A2 c2 L (likeC 0 []) hB he hT hs hcps (fun i hi => (HLB i hi).1) (by rw [htop]; omega) (fun i y hy => by rw [best_like, ent_nil] at hy; cases hy)
 unfold OpenR at HOP
 rw [htop, hrd, hop, like_reach] at HOP
 refine HOP.mono ?_
 rintro e w3 hor
 rcases hor with ⟨hno, _, _⟩ | ⟨_, m, d, R, rfl, hmm, hcc, hch, hft⟩
 · omega
 exact ⟨m, d, R, rfl, hmm, hcc, hch, hft, HLB⟩
theorem doM_gold : doM (likeC 1 []) 1 bk0 [] false sMGold = (likeC 1 [sMGold], sG, [sMGold], false, 0) := by
 rw [like_do 1 bk0 [] sMGold (by decide), doL_gold]
 rfl
theorem word_gold : wordOf sMGold = ⟨#[109, 101, 100, 97, 108]⟩ := by kernel_rfl
set_option maxRecDepth 100000 in
set_option maxHeartbeats 4000000 in
theorem awakeG (w : World) (he : EnvN w) (hT : Tab w) :
 Calls Tryz.prog 22 #[] w fun e w' => e = .returned (.bool true) ∧ Below w.heap.size w w' := by
 have HC := hid (copies3 w)
 have HT := hid hT
 have HE := hid he
 clear hT he
 go_enter Tryz.func22, Tryz.ntmps22
 go_wp2_with fail
 refine (HC.out).mono ?_; rintro e w1 ⟨a, r, rfl, ⟨L, M, h1, h2, h3, h4, h5⟩, b1⟩
 obtain ⟨A, c, rfl⟩ := own_form h1
 have HB1 := hid b1
 have hl3 : L.length = 3 := by have := h1.1; simpa [ptrs] using this
 have HL3 := hid hl3
 have HO := hid (openFresh w w1 A c L b1 HE.out HT.out (Sl.of_own h1) h3 hl3)
 clear h1 h2 h3 h4 h5 b1 HC hl3
 go_wp2_with fail
 refine (HO.out).mono ?_; rintro e w2 ⟨m, d, R, rfl, hmm, hcc, hch, hft, hlb⟩
 have hlow : Below w.heap.size w w2 := hch.below HB1.out HB1.out.size (fun i hi => (hlb i hi).1)
 have HLO := hid hlow
 have hdo := doGW w w2 R m d L (likeC 1 []) 1 bk0 [] false sMGold hlow HE.out HT.out hmm hcc (fun i hi => ⟨fun hr => by have := hft i (.inl hr); have := (hlb i hi).2; omega, fun hr => by have := hft i (.inr hr); have := (hlb i hi).2; omega⟩) (by simp) BkI.begin (by decide) (by omega) (by omega) (by have := HL3.out; omega) (fun i hi => (hlb i hi).1) (fun i hi => by have := hft i (.inr hi); have := HB1.out.size; omega)
 rw [doM_gold, word_gold] at hdo
 have HDO := hid hdo
 have HFT := hid hft
 have HLB := hid hlb
 clear hmm hcc hch hft hlb hlow hdo HO
 go_wp2_with fail
 refine (HDO.out).mono ?_; rintro e w3 ⟨⟨word, rfl, hw⟩, R', d', hmi, hc3, hch3, hr3, hf3⟩
 obtain rfl := hw trivial
 have hlow3 : Below w.heap.size w w3 := hch3.below HLO.out HLO.out.size (fun i hi => by
  rcases hi with hi | hi
  · exact (HLB.out i hi).1
  · have := HFT.out i (.inr hi); have := HB1.out.size; omega)
 have HB3 := hid hlow3
 have hrq := mintRollQ R' m d' L 1 [sMGold] false w3 hmi (HE.out.keep hlow3) (HT.out.below hlow3)
 unfold AskR sRoll2 at hrq
 have HA := hid hrq
 clear hmi hc3 hch3 hr3 hf3 hlow3 hrq hw HDO
 go_wp2_with fail
 refine (HA.out).mono ?_; rintro e w4 ⟨rfl, b4⟩
 have HB4 := hid (below_call HB3.out b4 HB3.out.size)
 clear b4 HA
 go_wp2
 go_ret
 exact ⟨rfl, HB4.out⟩
end Go.Proofs.YtnibidmlkbcfkaaGreatDoor
