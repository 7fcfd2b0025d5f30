/- Texts of this proof, one behind the other; each says its condition at its head. -/
import Derived.Test.YtnibidmlkbcfkaaGreatDoorT37
import Derived.Test.YtnibidmlkbcfkaaGreatDoorT34
import Derived.Test.YtnibidmlkbcfkaaGreatDoorT32
import Derived.Test.YtnibidmlkbcfkaaGreatDoorT35
import Derived.Test.YtnibidmlkbcfkaaGreatDoorT5
import Derived.Test.YtnibidmlkbcfkaaGreatDoorT18
namespace Go.Proofs.YtnibidmlkbcfkaaGreatDoor
/- Walks of order's lines and Lines, and of the question roll, at any order of one to six elements. Conditions: what a mint's books keep; the library's variables stand. -/
section
open Go.RowKit Go.Maps Go.Shelf
/-- What the closure does, at any set. -/
theorem growF (n : Nat) (a : Nat → Nat → Bool) (hn : n ≤ 6) (ho : OrdOk n a) (B bo bx bl bg : Nat) (F : List Nat) (hb : BxL B bo bx bl bg) : ∀ (f : Nat) (lv : List Nat) (r s : Nat) (vl vo vr : Value) (w : World), (bitsL s).length ≤ f → GS n a B bo bx bl bg lv F r vl vo vr w → lv.length + (bitsL s).length = n → s < 2 ^ n → (r = 0 → F = lv ++ lnL n a f s) → r + 6 ^ f ≤ 900000 → Tab w → B ≤ w.heap.size →
 Calls Tryz.prog 73 #[.int .i64 (s : Nat), .pointer (some ⟨bx, 0, none⟩), .pointer (some ⟨bl, 0, none⟩), .pointer (some ⟨bo, 0, none⟩), .pointer (some ⟨bg, 0, none⟩)] w fun e w' => e = .returned (.tuple #[]) ∧ GrowR n a B bo bx bl bg lv F r (6 ^ f) vl vo vr w w' := by
 intro f
 induction f with
 | zero =>
  intro lv r s vl vo vr w hf h hl hs hF hr hT hB
  have hb0 : bitsL s = [] := List.eq_nil_of_length_eq_zero (by omega)
  have hs0 : s = 0 := by
   rcases Nat.eq_zero_or_pos s with e | e
   · exact e
   · obtain ⟨i, hi⟩ := Nat.exists_testBit_of_ne_zero (Nat.ne_of_gt e)
     have := (mem_bits (p64 hn hs)).2 hi
     rw [hb0] at this
     simp at this
  subst hs0
  exact growZ n a B bo bx bl bg lv F r vl vo vr w h (by omega) (fun e => by rw [hF e]; exact List.append_nil _) (by omega) hT hB hb
 | succ f ih =>
  intro lv r s vl vo vr w hf h hl hs hF hr hT hB
  by_cases h0 : s = 0
  · subst h0
    refine (growZ n a B bo bx bl bg lv F r vl vo vr w h (by omega) (fun e => by rw [hF e]; exact List.append_nil _) (Nat.le_trans (Nat.le_add_right _ _) hr) hT hB hb).mono ?_
    rintro e w' ⟨he, ⟨r', vl', vo', vr', h1, h2, h3, h4⟩, hc⟩
    exact ⟨he, ⟨r', vl', vo', vr', h1, by have := Nat.pow_pos (n := f + 1) (show 0 < 6 by decide); omega, h3, h4⟩, hc⟩
  · have hp : 6 ^ (f + 1) = 6 * 6 ^ f := by rw [Nat.pow_succ, Nat.mul_comm]
    rw [hp] at hr ⊢
    refine growS n a hn ho B bo bx bl bg lv F r f s (6 ^ f) vl vo vr w h hl hs h0 hF hr hT hB hb ?_
    intro lv' r' x vl' vo' vr' W hx hg hl' hF' hr' hT' hB'
    obtain ⟨f1, f2, f3, f4⟩ := clr_facts (p64 hn hs) hx
    exact ih lv' r' (clr s x) vl' vo' vr' W (by omega) hg hl' (by omega) hF' hr' hT' hB'
set_option maxRecDepth 100000 in
set_option maxHeartbeats 4000000 in
theorem linesF (n : Nat) (a : Nat → Nat → Bool) (_hn1 : 1 ≤ n) (hn : n ≤ 6) (ho : OrdOk n a) (w : World) (hT : Tab w) :
 Calls Tryz.prog 43 #[.agg (ordC n a)] w fun e w' => ∃ O oc r rows R rc, e = .returned (.slice O r oc) ∧ 1 ≤ r ∧ r ≤ 100000 ∧ w'.ownsRow w.heap.size 36 1 (.slice O r oc) r rows ∧ rows[0]? = some (.slice R n rc) ∧ w'.ownsRow w.heap.size 3 1 (.slice R n rc) n (iV (lineO n a)) ∧ Below w.heap.size w w' := by
 have he : ∀ args W, (callFunc 73 args).run Tryz.prog W = .ok (.enter 73 args) W := fun args W => enters Tryz.func73 (by kernel_rfl) rfl args W
 have HT := hid hT
 have hlen : (lineO n a).length = n := (lineO_all hn ho).2.2.2
 have hbf : (bitsL (2 ^ n - 1)).length = n := bits_full hn
 have hp1 : 0 < 2 ^ n := Nat.pow_pos (by decide)
 have h6 : 6 ^ n ≤ 6 ^ 6 := Nat.pow_le_pow_right (by decide) hn
 have HGF := hid fun B bo bx bl bg hb W (h : GS n a B bo bx bl bg [] (lineO n a) 0 (.slice none 0 0) (.slice none 0 0) (.slice none 0 0) W) (hT : Tab W) (hB : B ≤ W.heap.size) => growF n a hn ho B bo bx bl bg (lineO n a) hb n [] 0 (2 ^ n - 1) _ _ _ W (Nat.le_of_eq hbf) h (by rw [hbf]; simp) (by omega) (fun _ => rfl) (by rw [Nat.zero_add]; exact Nat.le_trans h6 (by decide)) hT hB
 have HAL := hid fun W => allF n a hn W
 have HR6 := hid (show ∀ q, q ≤ 0 + 6 ^ n → q ≤ 100000 from fun q hq => by rw [Nat.zero_add] at hq; exact Nat.le_trans hq (Nat.le_trans h6 (by decide)))
 have HLEN := hid hlen
 generalize ((2 ^ n - 1 : Nat) : Int) = full at *
 clear hT hlen hbf hp1 h6 ho
 have HGN := hid (show ∀ bo bx bl bg, growV bo bx bl bg = .func (.func 73) #[] #[.pointer (some ⟨bx, 0, none⟩), .pointer (some ⟨bl, 0, none⟩), .pointer (some ⟨bo, 0, none⟩), .pointer (some ⟨bg, 0, none⟩)] from fun _ _ _ _ => rfl)
 obtain ⟨oV, hoV⟩ : ∃ oV, oV = ordC n a := ⟨_, rfl⟩
 have HOV := hid hoV
 rw [← hoV] at HAL ⊢
 unfold ordC at hoV
 subst hoV
 go_enter Tryz.func43, Tryz.ntmps43
 go_wp2_with fail
 have HLN := hid (show GS n a (w.heap.size + 4) w.heap.size (w.heap.size + 1) (w.heap.size + 1 + 1) (w.heap.size + 1 + 1 + 1) [] (lineO n a) 0 (.slice none 0 0) (.slice none 0 0) (.slice none 0 0) ((((w.alloc (.cells (ordC n a) 78)).alloc (.cells #[.slice none 0 0] 39)).alloc (.cells #[.slice none 0 0] 36)).alloc (.cells #[growV w.heap.size (w.heap.size + 1) (w.heap.size + 1 + 1) (w.heap.size + 1 + 1 + 1)] 133)) from
  ⟨(((Blk.new w _ _).alloc _).alloc _).alloc _, Blk.new_at _ _ _ (by simp), ((Blk.new_at _ _ _ (by simp)).alloc _).alloc _, (Blk.new_at _ _ _ (by simp)).alloc _, World.ownsRow_nil _ _ _ _, ⟨[], World.ownsRow_nil _ _ _ _, fun h => absurd rfl h⟩, fun h => absurd rfl h, fun _ => rfl, fun g hg => by cases hg⟩)
 have HLO := hid (show Below w.heap.size w ((((w.alloc (.cells (ordC n a) 78)).alloc (.cells #[.slice none 0 0] 39)).alloc (.cells #[.slice none 0 0] 36)).alloc (.cells #[growV w.heap.size (w.heap.size + 1) (w.heap.size + 1 + 1) (w.heap.size + 1 + 1 + 1)] 133)) from ((((Below.refl _ w).alloc (Nat.le_refl _) _).alloc (by simp) _).alloc (by simp; omega) _).alloc (by simp; omega) _)
 have HSZ := hid (show ((((w.alloc (.cells (ordC n a) 78)).alloc (.cells #[.slice none 0 0] 39)).alloc (.cells #[.slice none 0 0] 36)).alloc (.cells #[growV w.heap.size (w.heap.size + 1) (w.heap.size + 1 + 1) (w.heap.size + 1 + 1 + 1)] 133)).heap.size = w.heap.size + 4 from by simp)
 unfold growV ordC at HLO HLN HSZ
 generalize ((((w.alloc (.cells #[.int .i64 (n : Nat), .int .i64 (oc n a 0), .int .i64 (oc n a 1), .int .i64 (oc n a 2), .int .i64 (oc n a 3), .int .i64 (oc n a 4), .int .i64 (oc n a 5)] 78)).alloc (.cells #[.slice none 0 0] 39)).alloc (.cells #[.slice none 0 0] 36)).alloc (.cells #[.func (.func 73) #[] #[.pointer (some ⟨w.heap.size + 1, 0, none⟩), .pointer (some ⟨w.heap.size + 1 + 1, 0, none⟩), .pointer (some ⟨w.heap.size, 0, none⟩), .pointer (some ⟨w.heap.size + 1 + 1 + 1, 0, none⟩)]] 133)) = W at *
 have HP := hid HT.out.pos
 have HBL := hid (show BxL (w.heap.size + 4) w.heap.size (w.heap.size + 1) (w.heap.size + 1 + 1) (w.heap.size + 1 + 1 + 1) from ⟨⟨by omega, by omega, by omega, by omega⟩, by have := HP.out; omega, by have := HP.out; omega, by have := HP.out; omega⟩)
 have HTW := hid (HT.out.below HLO.out)
 have HQ := hid HLN.out.ord
 have HGR := hid HLN.out.grow
 unfold ordC at HQ
 unfold growV at HGR
 refine wp_region_held_drew (S := (fun w' => w'.cell? ⟨w.heap.size + 1 + 1 + 1, 0, none⟩ = some (.func (.func 73) #[] #[.pointer (some ⟨w.heap.size + 1, 0, none⟩), .pointer (some ⟨w.heap.size + 1 + 1, 0, none⟩), .pointer (some ⟨w.heap.size, 0, none⟩), .pointer (some ⟨w.heap.size + 1 + 1 + 1, 0, none⟩)]) ∧ (∀ i, i < 7 → w'.cell? ⟨w.heap.size, i, none⟩ = (#[Value.int .i64 (n : Nat), .int .i64 (oc n a 0), .int .i64 (oc n a 1), .int .i64 (oc n a 2), .int .i64 (oc n a 3), .int .i64 (oc n a 4), .int .i64 (oc n a 5)] : Array Value)[i]?))) (by kernel_rfl) (by (try dsimp only); (first | exact ⟨HGR.out.cell 0, fun i _ => HQ.out.cell i⟩ | exact ⟨HGR.out.drew.cell 0, fun i _ => HQ.out.drew.cell i⟩)) (fun hHeld => ?_)
 have HGR := hid HGR.out.drew; have HQ := hid HQ.out.drew; have HBX := hid (Below.refl W.heap.size W).drew
 generalize W.drew = X1 at *
 obtain ⟨X, rfl⟩ : ∃ Y, Y = X1 := ⟨X1, rfl⟩
 refine tk ?_ 0 (some 7) rfl rfl ?_ ?_; rotate_left; · (intro w hSw; (try dsimp only at hSw); go_simp <;> with_reducible rfl)
 try simp only [Act.put,qA,qB,qC]
 have o0 := HQ.out.cell 0
 have o1 := HQ.out.cell 1
 have o2 := HQ.out.cell 2
 have o3 := HQ.out.cell 3
 have o4 := HQ.out.cell 4
 have o5 := HQ.out.cell 5
 have o6 := HQ.out.cell 6
 refine tk ?_ 1 (some 8) rfl rfl ?_ ?_; rotate_left; · (intro w hSw; (try dsimp only at hSw); go_simp <;> with_reducible rfl)
 try simp only [Act.put,qA,qB,qC]
 refine st 2 rfl fun K hK => ?_
 go_simp
 refine (HAL.out _).mono ?_; rintro e X ⟨rfl, bb⟩
 have HGR := hid (HGR.out.keep bb); have HQ := hid (HQ.out.keep bb); have HBX := hid (below_call HBX.out bb HBX.out.size)
 clear bb hHeld
 refine hK.out _ _ ?_ (fun hHeld => ?_); · ((try dsimp only); (first | exact ⟨HGR.out.cell 0, fun i _ => HQ.out.cell i⟩ | exact ⟨HGR.out.drew.cell 0, fun i _ => HQ.out.drew.cell i⟩))
 clear hK K
 try simp only [Act.put,qA,qB,qC]
 refine st 3 rfl fun K hK => ?_
 go_simp
 refine (HGF.out _ _ _ _ _ HBL.out X (HLN.out.keep HBX.out) (HTW.out.below HBX.out) (by have := HBX.out.size; have := HSZ.out; omega)).mono ?_; rintro e Y ⟨rfl, hgr⟩
 have HGW := hid hgr
 have HGR := hid (hgr.ex.elim fun _ ⟨_, _, _, _, _, h, _⟩ => h.grow); have HQ := hid (hgr.ex.elim fun _ ⟨_, _, _, _, _, h, _⟩ => h.ord)
 unfold ordC at HQ
 unfold growV at HGR
 clear hgr hHeld
 refine hK.out _ _ ?_ (fun hHeld => ?_); · ((try dsimp only); (first | exact ⟨HGR.out.cell 0, fun i _ => HQ.out.cell i⟩ | exact ⟨HGR.out.drew.cell 0, fun i _ => HQ.out.drew.cell i⟩))
 clear hK K
 try simp only [Act.put,qA,qB,qC]
 refine wpAnyH_done (by kernel_rfl) ?_ _
 obtain ⟨⟨r', vl', vo', vr', h1, h2, h3, h4⟩, hch⟩ := HGW.out
 obtain ⟨rows, hro, hr0⟩ := h3.oo
 obtain ⟨O, oc, rfl⟩ := own_form hro
 have hfs := h3.fst (by omega)
 rw [HLEN.out] at hfs
 obtain ⟨R, rc, rfl⟩ := own_form hfs
 have z3 := h3.out.cell 0
 simp only [List.getElem?_toArray, List.getElem?_cons_zero] at z3
 have HRES := hid (show 1 ≤ r' ∧ r' ≤ 100000 ∧ Y.ownsRow w.heap.size 36 1 (.slice O r' oc) r' rows ∧ rows[0]? = some (.slice R n rc) ∧ Y.ownsRow w.heap.size 3 1 (.slice R n rc) n (iV (lineO n a)) from ⟨h1, HR6.out _ h2, own_more hro (by omega), hr0 (by omega), own_more hfs (by omega)⟩)
 have HLW := hid (show Below w.heap.size w Y from hch.below (HLO.out.trans (HBX.out.mono HLO.out.size)) (by have := HLO.out.size; have := HBX.out.size; omega) fun i hi => by
  rcases hi with hi | hi | hi
  · omega
  · omega
  · rcases hi with hi | hi | hi <;> cases hi)
 clear h1 h2 h3 h4 hch hro hr0 hfs
 go_wp2
 go_ret
 exact ⟨O, oc, r', rows, R, rc, rfl, HRES.out.1, HRES.out.2.1, HRES.out.2.2.1, HRES.out.2.2.2.1, HRES.out.2.2.2.2, HLW.out⟩
set_option maxRecDepth 100000 in
set_option maxHeartbeats 4000000 in
theorem ordLinesF (n : Nat) (a : Nat → Nat → Bool) (hn1 : 1 ≤ n) (hn : n ≤ 6) (ho : OrdOk n a) (A : Option Addr) (c : Nat) (w : World) (hs : Sl w A n c (intV (ordL n a))) (hT : Tab w) :
 Calls Tryz.prog 14 #[.slice A n c] w fun e w' => ∃ O oc r rows R rc, e = .returned (.tuple #[.slice O r oc, .int .i64 0]) ∧ 1 ≤ r ∧ r ≤ 100000 ∧ w'.ownsRow w.heap.size 36 1 (.slice O r oc) r rows ∧ rows[0]? = some (.slice R n rc) ∧ w'.ownsRow w.heap.size 3 1 (.slice R n rc) n (iV (lineO n a)) ∧ Below w.heap.size w w' := by
 have HR := hid (ordRead n a A c w hn1 hn ho hs hT)
 have HLF := hid fun W (hT : Tab W) => linesF n a hn1 hn ho W hT
 have HT := hid hT
 clear hs hT
 unfold ordC at HR HLF
 go_enter Tryz.func14, Tryz.ntmps14
 go_wp2_with fail
 refine (HR.out).mono ?_; rintro e w1 ⟨rfl, b1⟩
 have bb := b1.alloc b1.size (.cells #[.int .i64 (n : Nat), .int .i64 (oc n a 0), .int .i64 (oc n a 1), .int .i64 (oc n a 2), .int .i64 (oc n a 3), .int .i64 (oc n a 4), .int .i64 (oc n a 5)] 78)
 have HB := hid bb
 have HL := hid (HLF.out _ (HT.out.below bb))
 clear b1 bb HR HLF
 go_wp2_with fail
 refine (HL.out).mono ?_; rintro e w2 ⟨O, oc, r, rows, R, rc, rfl, h0, h1, h2, h3, h4, b2⟩
 have HH := hid (And.intro h0 (And.intro h1 (And.intro (own_more h2 HB.out.size) (And.intro h3 (own_more h4 HB.out.size)))))
 have HB2 := hid (below_call HB.out b2 HB.out.size)
 clear h0 h1 h2 h3 h4 b2 HL
 go_wp2
 go_ret2
 exact ⟨O, oc, r, rows, R, rc, rfl, HH.out.1, HH.out.2.1, HH.out.2.2.1, HH.out.2.2.2.1, HH.out.2.2.2.2, HB2.out⟩
def sRoll : ByteArray := ⟨#[114, 111, 108, 108]⟩
/-- What 'roll' replies. -/
def replyRoll (s : Bk) : ByteArray × Nat := (nmd sRoll s.medals (lineO s.medals.length (bitsOf s.above)), 0)
set_option maxRecDepth 100000 in
set_option maxHeartbeats 4000000 in
theorem rollQ (s : Bk) (hs : BkT s) : AskC 95 s [] [] (replyRoll s) := by
 intro w G sb A c D d hst hA hD hE hT
 obtain ⟨M, mc, U, uc, Q, pc, T, tc, E, ec, g1, g2, g3, _, _, _, _, _, _, _, _, _⟩ := hst.ex
 have hal := hs.bk.1.abv
 have hml := hs.bk.1.med
 obtain ⟨ht1, ht2⟩ := hs.bk.2.bits
 have hnz := nm_size hs.nm.md
 have B1 := (Below.refl w.heap.size w).alloc (Nat.le_refl _) (.cells #[.slice A 0 c, .slice D 0 d] 124)
 have HB1 := hid B1
 have HSB := hid (g1.keep B1)
 have c0 := (g1.keep B1).cell 0
 have c1 := (g1.keep B1).cell 1
 simp only [stV, List.getElem?_toArray, List.getElem?_cons_zero, List.getElem?_cons_succ] at c0 c1
 have HM := hid (g2.below B1)
 have HU := hid (g3.below B1)
 have HTA := hid (hT.below B1)
 unfold replyRoll
 generalize bitsOf s.above = a at *
 rw [hal] at ht1 ht2 c1 HU
 rw [ht1] at HU
 clear ht1 hst hA hD hE hT g1 g2 g3 B1
 obtain ⟨names, hnm⟩ : ∃ l, l = s.medals := ⟨_, rfl⟩
 rw [← hnm] at hml ht2 c0 c1 HM HU hnz ⊢
 have HOK := hid ht2
 have HNZ := hid hnz
 clear ht2 hnm hnz hs hal
 by_cases h0 : names.length = 0
 · have hnl : names = [] := List.eq_nil_of_length_eq_zero h0
   subst hnl
   have HRE := hid (show nmd sRoll [] (lineO 0 a) = ⟨#[114, 111, 108, 108]⟩ from rfl)
   simp only [List.length_nil] at *
   go_enter Tryz.func95, Tryz.ntmps95
   go_wp2
   go_ret2
   exact ⟨by rw [HRE.out]; rfl, HB1.out⟩
 · have hz : ((names.length : Int) == 0) = false := by rw [beq_eq_false_iff_ne]; omega
   have hz2 : (names.length == 0) = false := by rw [beq_eq_false_iff_ne]; exact h0
   obtain ⟨l1, l2, l3, l4⟩ := lineO_all hml HOK.out
   have HLL := hid fun i hi => (l1 i).1 hi
   have HC := hid (ordLinesF names.length a (by omega) hml HOK.out U uc _ HU.out HTA.out)
   have HNL := hid (show names.length ≤ 6 from hml)
   obtain ⟨ln, hln⟩ : ∃ ln, ln = lineO names.length a := ⟨_, rfl⟩
   rw [← hln] at HC HLL ⊢
   obtain ⟨nn, hnn⟩ : ∃ nn, nn = names.length := ⟨_, rfl⟩
   have HNN := hid hnn
   rw [← hnn] at h0 hz hz2 hml HC HNL c0 c1 HM HU HOK l4 HLL
   clear hln l1 l2 l3 l4 hnn
   go_enter Tryz.func95, Tryz.ntmps95
   go_wp2_with fail
   refine (HC.out).mono ?_; rintro e w2 ⟨O, oc, r, rows, R, rc, rfl, h1, h2, h3, h4, h5, b2⟩
   have HB2 := hid (below_call HB1.out b2 HB1.out.size)
   have C0 := hid (cell_keep b2 c0)
   have HM2 := hid (HM.out.below b2)
   have HROW := hid (Sl.of_own h5)
   have hcap := (Sl.of_own h3).cap
   obtain ⟨bo, oo, u, rfl, lb, e1, ca⟩ := (Sl.of_own h3).at (k := 0) h1
   rw [h4] at e1
   simp only [Option.some.injEq, Nat.add_zero] at e1 ca
   subst e1
   have HCA := hid ca
   have hr0 : (0 : Int) < (r : Int) := by omega
   have hr01 : 0 < r := h1
   clear h3 h4 h5 b2 HC c0 c1 HM HU HTA HSB lb hz hz2 ca
   go_wp2_with fail
   have HNMF := hid fun X hm hr => namedF ⟨#[114, 111, 108, 108]⟩ M nn mc names R nn rc ln X hm hr HLL.out (by decide) HNZ.out (by have := HNL.out; omega)
   have HEQ := hid (show nmd ⟨#[114, 111, 108, 108]⟩ names ln = nmd sRoll names ln from rfl)
   refine wp_region_held_drew (S := (fun w' => w'.cell? ⟨sb, 0, none⟩ = some (.slice M nn mc) ∧ w'.cell? ⟨bo, oo, none⟩ = some (.slice R nn rc))) (by kernel_rfl) (by (try dsimp only); (exact ⟨C0.out, HCA.out⟩)) (fun hHeld => ?_)
   have HM2 := hid HM2.out.drew; have HROW := hid HROW.out.drew; have HB2 := hid HB2.out.drew; have C0 := hid (show w2.drew.cell? ⟨sb, 0, none⟩ = _ from C0.out); have HCA := hid (show w2.drew.cell? ⟨bo, oo, none⟩ = _ from HCA.out)
   generalize w2.drew = X1 at *
   obtain ⟨X, rfl⟩ : ∃ Y, Y = X1 := ⟨X1, rfl⟩
   refine tk ?_ 0 (some 25) rfl rfl ?_ ?_; rotate_left; · (intro w hSw; (try dsimp only at hSw); go_simp <;> with_reducible rfl)
   try simp only [Act.put,qA,qB,qC]
   refine tk ?_ 1 (some 26) rfl rfl ?_ ?_; rotate_left; · (intro w hSw; (try dsimp only at hSw); go_simp <;> with_reducible rfl)
   try simp only [Act.put,qA,qB,qC]
   refine tk ?_ 2 (some 27) rfl rfl ?_ ?_; rotate_left; · (intro w hSw; (try dsimp only at hSw); go_simp <;> with_reducible rfl)
   try simp only [Act.put,qA,qB,qC]
   refine tk ?_ 3 (some 28) rfl rfl ?_ ?_; rotate_left; · (intro w hSw; (try dsimp only at hSw); go_simp <;> with_reducible rfl)
   try simp only [Act.put,qA,qB,qC]
   refine tk ?_ 4 (some 29) rfl rfl ?_ ?_; rotate_left; · (intro w hSw; (try dsimp only at hSw); go_simp <;> with_reducible rfl)
   try simp only [Act.put,qA,qB,qC]
   refine tk ?_ 5 (some 30) rfl rfl ?_ ?_; rotate_left; · (intro w hSw; (try dsimp only at hSw); go_simp <;> with_reducible rfl)
   try simp only [Act.put,qA,qB,qC]
   refine tk ?_ 6 (some 31) rfl rfl ?_ ?_; rotate_left; · (intro w hSw; (try dsimp only at hSw); go_simp <;> with_reducible rfl)
   try simp only [Act.put,qA,qB,qC]
   refine st 7 rfl fun K hK => ?_
   go_simp
   refine (HNMF.out _ HM2.out HROW.out).mono ?_; rintro e X2 ⟨rfl, rfl⟩
   clear hHeld
   refine hK.out _ _ ?_ (fun hHeld => ?_); · ((try dsimp only); (exact ⟨C0.out, HCA.out⟩))
   clear hK K
   try simp only [Act.put,qA,qB,qC]
   refine tk ?_ 8 (some 4) rfl rfl ?_ ?_; rotate_left; · (intro w hSw; (try dsimp only at hSw); go_simp <;> with_reducible rfl)
   try simp only [Act.put,qA,qB,qC]
   refine tk ?_ 9 (some 5) rfl rfl ?_ ?_; rotate_left; · (intro w hSw; (try dsimp only at hSw); go_simp <;> with_reducible rfl)
   try simp only [Act.put,qA,qB,qC]
   refine wpAnyH_done (by kernel_rfl) ?_ _
   go_wp2
   go_ret2
   exact ⟨by rw [HEQ.out]; rfl, HB2.out⟩
set_option maxRecDepth 100000 in
theorem mintRollAll (R : Nat → Prop) (m : Nat) (d : Value) (L : List (Nat × Nat)) (k : Int) (s : Bk) (J : List ByteArray) (out : Bool) (w : World) (hm : MinM w R m d L k s J out) (hs : BkT s) (he : EnvN w) (hT : Tab w) :
 Calls Tryz.prog 11 #[.pointer (some ⟨m, 0, none⟩), .string sRoll] w (AskR w (replyRoll s)) := by
 refine mintAskF R m d L k s J out sRoll (replyRoll s) w hm fun sb hst => ?_
 exact askYes 0 0 95 (by decide) R sb s sRoll [] [] (replyRoll s) (by decide) w he hT hst (by kernel_rfl) (fun args W => enters Tryz.func95 (by kernel_rfl) rfl args W) (by kernel_rfl) (by kernel_rfl) (rollQ s hs)
end
/- Walk of words of planchettop; and plain law of TopRoll's order. Conditions: the numbers are below a thousand; the library's variables stand. -/
section
open Go.RowKit Go.Maps
set_option maxRecDepth 100000 in
set_option maxHeartbeats 2000000 in
theorem wordsF (A : Option Addr) (m c : Nat) (l : List Nat) (w : World) (ht : Sl w A m c (iV l)) (hl : ∀ i ∈ l, i < 1000) (hm2 : m ≤ 1000) (he : EnvN w) :
 Calls Tryz.prog 17 #[.slice A m c] w fun x w' => x = .returned (.string (numd ByteArray.empty l)) ∧ Below w.heap.size w w' := by
 have HT := hid ht
 have HLL := hid (show l.length = m by have := ht.len; unfold iV at this; simpa using this)
 have HI := hid hl
 have HEN := hid he
 clear ht hl he
 go_enter Tryz.func17, Tryz.ntmps17
 go_wp2
 go_loopg [3, 8] m (fun gk v i wr => ∃ k : Nat, gk + k = m ∧ i = .int .i64 k ∧ v = .string (numd ByteArray.empty (l.take k)) ∧ Hid ((numd ByteArray.empty (l.take k)).size ≤ 1000 + 4 * k) ∧ Hid (Below w.heap.size w wr))
 case atStart => exact ⟨0, by omega, rfl, rfl, hid (by show (0 : Nat) ≤ _; omega), hid (Below.refl _ _)⟩
 case round =>
  obtain ⟨k, hk, rfl, rfl, HSZ, HB⟩ := hrel
  have HK := hid hk
  by_cases hlt : k < m
  · have HLT := hid hlt
    obtain ⟨b, o, u, rfl, lb, e1, ca⟩ := (HT.out.below HB.out).at hlt
    unfold iV at e1
    rw [List.getElem?_map] at e1
    obtain ⟨i, hi, rfl⟩ := Option.map_eq_some_iff.1 e1
    have hin := HI.out i (List.mem_of_getElem? hi)
    have HST := hid (show numd ByteArray.empty (l.take (k + 1)) = numd ByteArray.empty (l.take k) ++ (⟨#[32]⟩ ++ itoaB i) by
     rw [List.take_add_one, hi, Option.toList_some, numd_snoc])
    have hz := itoaB_size hin
    have HIT := hid (itoaAny (i : Nat) (by omega) (by omega) wr (HEN.out.keep HB.out))
    have hsz := HSZ.out
    have hdef : (⟨(Lib.itoa (i : Int)).toArray⟩ : ByteArray) = itoaB i := rfl
    rw [hdef] at HIT
    generalize numd ByteArray.empty (l.take k) = v at *
    generalize itoaB i = s at *
    have h1s : (⟨#[32]⟩ ++ s : ByteArray).size = 1 + s.size := by rw [ByteArray.size_append]; rfl
    have cat1 : ∀ W : World, (Op.stringOp .add ⟨#[32]⟩ s).run Tryz.prog W = .ok (.string (⟨#[32]⟩ ++ s)) W := fun W => run_string_add_sum W _ _ (by have : (ByteArray.mk #[32]).size = 1 := rfl; omega)
    have cat2 : ∀ W : World, (Op.stringOp .add v (⟨#[32]⟩ ++ s)).run Tryz.prog W = .ok (.string (v ++ (⟨#[32]⟩ ++ s))) W := fun W => run_string_add_sum W _ _ (by omega)
    have HS2 := hid (show (v ++ (⟨#[32]⟩ ++ s)).size ≤ 1000 + 4 * (k + 1) by rw [ByteArray.size_append]; omega)
    clear hk e1 hi lb hsz hdef
    go_wp2_with fail
    refine (HIT.out).mono ?_; rintro e w2 ⟨rfl, b2⟩
    have HB2 := hid (below_call HB.out b2 HB.out.size)
    clear HIT b2
    go_wp2
    go_roundg (gk - 1)
    case measure => have := HK.out; have := HLT.out; omega
    case rel => exact ⟨k + 1, by have := HK.out; have := HLT.out; omega, by go_num, by rw [HST.out], by rw [HST.out]; exact HS2, HB2⟩
  · obtain rfl : k = m := by have := HK.out; omega
    have e : l.take k = l := List.take_of_length_le (by have := HLL.out; omega)
    rw [e]
    clear hk e
    go_wp2
    go_ret
    exact ⟨rfl, HB.out⟩
theorem bits_far (l : List Int) {i : Nat} (h : l.length ≤ i) (j : Nat) : bitsOf l i j = false := by
 unfold bitsOf
 rw [List.getD_eq_getElem?_getD, List.getElem?_eq_none h]
 simp
theorem ClI.all {s : Bk} {P : List (Nat × Nat)} (h : ClI s P) (hs : BkT s) : bitsOf s.above = foldA P := by
 have hal := hs.bk.1.abv
 obtain ⟨ht1, ht2⟩ := hs.bk.2.bits
 funext i j
 by_cases hi : i < s.medals.length
 · by_cases hj : j < s.medals.length
   · exact h.eq i j hi hj
   · have hb := bits_out s.above.length (bitsOf s.above) (i := i) (m := j) (by omega) (by omega)
     rw [← ht1] at hb
     rw [hb]
     cases e : foldA P i j with
     | false => rfl
     | true => exact absurd (h.sup i j e).2 hj
 · rw [bits_far s.above (by omega)]
   cases e : foldA P i j with
   | false => rfl
   | true => exact absurd (h.sup i j e).1 hi
end
/- Walks of strings.HasPrefix and of TrimPrefix. Condition: none. -/
section
open Go.RowKit Go.Maps
end
/- Walk of the question chance. Conditions: what a mint's books keep; the library's variables stand. -/
section
open Go.RowKit Go.Maps
def chaT (p q : Nat) : ByteArray := ⟨#[99, 104, 97, 110, 99, 101, 32]⟩ ++ itoaB p ++ ⟨#[47]⟩ ++ itoaB q
/-- What 'chance' replies. -/
def replyChance (s : Bk) (x y : ByteArray) : ByteArray × Nat :=
 if 0 ≤ idxZ s.medals x ∧ 0 ≤ idxZ s.medals y then
  if idxZ s.medals x = idxZ s.medals y then (ByteArray.empty, 2)
  else (chaT (chaN s.medals.length (bitsOf s.above) (idxZ s.medals x).toNat (idxZ s.medals y).toNat).1 (chaN s.medals.length (bitsOf s.above) (idxZ s.medals x).toNat (idxZ s.medals y).toNat).2, 0)
 else (ByteArray.empty, 4)
set_option maxRecDepth 100000 in
set_option maxHeartbeats 8000000 in
theorem chanceQ (s : Bk) (hs : BkT s) (x y : ByteArray) : AskC 97 s [x, y] [] (replyChance s x y) := by
 intro w G sb A c D d hst hA hD hE hT
 obtain ⟨M, mc, U, uc, Q, pc, T, tc, E, ec, g1, g2, g3, _, _, _, _, _, _, _, _, _⟩ := hst.ex
 have hal := hs.bk.1.abv
 have hml := hs.bk.1.med
 obtain ⟨ht1, ht2⟩ := hs.bk.2.bits
 have B1 := (Below.refl w.heap.size w).alloc (Nat.le_refl _) (.cells #[.slice A 2 c, .slice D 0 d] 124)
 have HB := hid B1
 have H3 := hid (Blk.new w 124 #[.slice A 2 c, .slice D 0 d])
 have c0 := (g1.keep B1).cell 0
 have c1 := (g1.keep B1).cell 1
 simp only [stV, List.getElem?_toArray, List.getElem?_cons_zero, List.getElem?_cons_succ] at c0 c1
 have HU := hid (g3.below B1)
 have HTA := hid (hT.below B1)
 have HEN := hid (hE.keep B1)
 have HPR := hid fun W (hW : Below w.heap.size w W) => pairF W s.medals x y A 2 c (.slice D 0 d) M mc (g2.below hW) (hA.below hW) ⟨_, _, _, rfl⟩
 have hi := (idxZ_bd x s.medals).2
 have hj := (idxZ_bd y s.medals).2
 have hrp0 : replyChance s x y = if 0 ≤ idxZ s.medals x ∧ 0 ≤ idxZ s.medals y then (if idxZ s.medals x = idxZ s.medals y then (ByteArray.empty, 2) else (chaT (chaN s.medals.length (bitsOf s.above) (idxZ s.medals x).toNat (idxZ s.medals y).toNat).1 (chaN s.medals.length (bitsOf s.above) (idxZ s.medals x).toNat (idxZ s.medals y).toNat).2, 0)) else (ByteArray.empty, 4) := rfl
 generalize replyChance s x y = rp at *
 have HRP := hid hrp0
 clear hrp0
 generalize bitsOf s.above = a at *
 generalize idxZ s.medals x = ia at *
 generalize idxZ s.medals y = ib at *
 rw [hal] at ht1 ht2 c1 HU
 rw [ht1] at HU
 clear ht1 hs hst hA hD hE hT g1 g2 g3 hal B1
 generalize hn : s.medals.length = n at *
 have HOK := hid ht2
 have HC0 := hid c0
 have HC1 := hid c1
 clear ht2 hn c0 c1
 go_enter Tryz.func97, Tryz.ntmps97
 go_wp2_with fail
 generalize w.alloc (.cells #[.slice A 2 c, .slice D 0 d] 124) = X at *
 generalize hok : (decide (0 ≤ ia) && decide (0 ≤ ib)) = ok at *
 go_cut [6, 7, 8] from 11 to 20 (fun u v z wx => u = .int .i64 ia ∧ v = .int .i64 ib ∧ z = .bool ok ∧ Hid (Below X.heap.size X wx))
 case first =>
  have HXX := hid (Below.refl X.heap.size X)
  refine wp_region_held_drew (S := (fun w' => w'.cell? ⟨w.heap.size, 0, none⟩ = some (.slice A 2 c) ∧ w'.cell? ⟨w.heap.size, 1, none⟩ = some (.slice D 0 d) ∧ w'.cell? ⟨sb, 0, none⟩ = some (.slice M n mc))) (by kernel_rfl) (by (try dsimp only); (first | exact ⟨H3.out.cell 0, H3.out.cell 1, HC0.out⟩ | exact ⟨H3.out.drew.cell 0, H3.out.drew.cell 1, HC0.out⟩)) (fun hHeld => ?_)
  have bd := (Below.refl X.heap.size X).drew
  have H3 := hid (H3.out.keep bd); have HC0 := hid (cell_keep bd HC0.out); have HB := hid (below_call HB.out bd HB.out.size); have HXX := hid (below_call HXX.out bd HXX.out.size)
  clear bd
  generalize X.drew = X1 at *
  obtain ⟨Y, rfl⟩ : ∃ Y, Y = X1 := ⟨X1, rfl⟩
  refine tk ?_ 0 (some 12) rfl rfl ?_ ?_; rotate_left; · (intro w hSw; (try dsimp only at hSw); go_simp <;> with_reducible rfl)
  try simp only [Act.put,qA,qB,qC]
  refine tk ?_ 1 (some 13) rfl rfl ?_ ?_; rotate_left; · (intro w hSw; (try dsimp only at hSw); go_simp <;> with_reducible rfl)
  try simp only [Act.put,qA,qB,qC]
  refine tk ?_ 2 (some 14) rfl rfl ?_ ?_; rotate_left; · (intro w hSw; (try dsimp only at hSw); go_simp <;> with_reducible rfl)
  try simp only [Act.put,qA,qB,qC]
  refine tk ?_ 3 (some 15) rfl rfl ?_ ?_; rotate_left; · (intro w hSw; (try dsimp only at hSw); go_simp <;> with_reducible rfl)
  try simp only [Act.put,qA,qB,qC]
  refine tk ?_ 4 (some 16) rfl rfl ?_ ?_; rotate_left; · (intro w hSw; (try dsimp only at hSw); go_simp <;> with_reducible rfl)
  try simp only [Act.put,qA,qB,qC]
  refine st 5 rfl fun K hK => ?_
  go_simp
  refine (HPR.out _ HB.out).mono ?_; rintro e Y ⟨rfl, bb⟩
  have H3 := hid (H3.out.keep bb); have HC0 := hid (cell_keep bb HC0.out); have HB := hid (below_call HB.out bb HB.out.size); have HXX := hid (below_call HXX.out bb HXX.out.size)
  clear bb hHeld
  refine hK.out _ _ ?_ (fun hHeld => ?_); · ((try dsimp only); (first | exact ⟨H3.out.cell 0, H3.out.cell 1, HC0.out⟩ | exact ⟨H3.out.drew.cell 0, H3.out.drew.cell 1, HC0.out⟩))
  clear hK K
  try simp only [Act.put,qA,qB,qC]
  refine tk ?_ 6 (some 11) rfl rfl ?_ ?_; rotate_left; · (intro w hSw; (try dsimp only at hSw); go_simp <;> with_reducible rfl)
  try simp only [Act.put,qA,qB,qC]
  refine tk ?_ 7 (some 18) rfl rfl ?_ ?_; rotate_left; · (intro w hSw; (try dsimp only at hSw); go_simp <;> with_reducible rfl)
  try simp only [Act.put,qA,qB,qC]
  refine tk ?_ 8 (some 19) rfl rfl ?_ ?_; rotate_left; · (intro w hSw; (try dsimp only at hSw); go_simp <;> with_reducible rfl)
  try simp only [Act.put,qA,qB,qC]
  refine tk ?_ 9 (some 20) rfl rfl ?_ ?_; rotate_left; · (intro w hSw; (try dsimp only at hSw); go_simp <;> with_reducible rfl)
  try simp only [Act.put,qA,qB,qC]
  refine tk ?_ 10 (some 6) rfl rfl ?_ ?_; rotate_left; · (intro w hSw; (try dsimp only at hSw); go_simp <;> with_reducible rfl)
  try simp only [Act.put,qA,qB,qC]
  refine tk ?_ 11 (some 7) rfl rfl ?_ ?_; rotate_left; · (intro w hSw; (try dsimp only at hSw); go_simp <;> with_reducible rfl)
  try simp only [Act.put,qA,qB,qC]
  refine tk ?_ 12 (some 8) rfl rfl ?_ ?_; rotate_left; · (intro w hSw; (try dsimp only at hSw); go_simp <;> with_reducible rfl)
  try simp only [Act.put,qA,qB,qC]
  refine wpAnyH_done (by kernel_rfl) ?_ _
  go_wp2_with fail
  go_meet
  case rel => exact ⟨rfl, rfl, rfl, HXX⟩
 case rest =>
  obtain ⟨rfl, rfl, rfl, HX⟩ := hcut
  have HB := hid (below_call HB.out HX.out HB.out.size)
  have HU := hid (HU.out.below HX.out)
  have HTA := hid (HTA.out.below HX.out)
  have HEN := hid (HEN.out.keep HX.out)
  have c1 := cell_keep HX.out HC1.out
  clear HPR HC0 HC1 H3 HX
  by_cases h0 : 0 ≤ ia ∧ 0 ≤ ib
  · have hokt : ok = true := by
     rw [← hok, Bool.and_eq_true, decide_eq_true_eq, decide_eq_true_eq]
     exact h0
    subst hokt
    have H0 := hid h0
    obtain ⟨i, hia⟩ : ∃ i : Nat, ia = (i : Nat) := ⟨ia.toNat, by omega⟩
    obtain ⟨j, hjb⟩ : ∃ j : Nat, ib = (j : Nat) := ⟨ib.toNat, by omega⟩
    subst hia hjb
    have hin : i < n := by omega
    have hjn : j < n := by omega
    clear hok h0
    by_cases hij : i = j
    · subst hij
      have HR2 := hid (show rp = (ByteArray.empty, 2) from HRP.out.trans ((if_pos H0.out).trans (if_pos rfl)))
      have HCH := hid (chanceNo n a i (by omega) hml HOK.out hin U uc wc HU.out HTA.out)
      go_wp2_with fail
      refine (HCH.out).mono ?_; rintro e w2 ⟨rfl, b2⟩
      have HB2 := hid (below_call HB.out (b2.alloc b2.size (.cells #[.int .i64 0, .int .i64 0] 48)) HB.out.size)
      clear b2 HCH
      go_wp2
      go_ret2
      exact ⟨by rw [HR2.out]; rfl, HB2.out⟩
    · have HCH := hid (chanceF n a i j (by omega) hml HOK.out hin hjn hij U uc wc HU.out HTA.out)
      have HIJ := hid hij
      have hb1 := allW_bd (a := a) hml
      have hb2 := befW_sum hml HOK.out hin hjn hij
      have hp1 : (chaN n a i j).1 ≤ 720 := Nat.le_trans (Nat.div_le_self _ _) (by omega)
      have hp2 : (chaN n a i j).2 ≤ 720 := Nat.le_trans (Nat.div_le_self _ _) hb1
      generalize hcp : chaN n a i j = cp at *
      have HCP := hid hcp
      obtain ⟨p, q⟩ := cp
      simp only at hp1 hp2 HCH
      have HI1 := hid fun (W : World) (h : EnvN W) => itoaAny (p : Nat) (by omega) (by omega) W h
      have HI2 := hid fun (W : World) (h : EnvN W) => itoaAny (q : Nat) (by omega) (by omega) W h
      have hz1 := itoaB_size (n := p) (by omega)
      have hz2 := itoaB_size (n := q) (by omega)
      have hd1 : (⟨(Lib.itoa (p : Int)).toArray⟩ : ByteArray) = itoaB p := rfl
      have hd2 : (⟨(Lib.itoa (q : Int)).toArray⟩ : ByteArray) = itoaB q := rfl
      rw [hd1] at HI1
      rw [hd2] at HI2
      have HTX := hid (show chaT p q = ⟨#[99, 104, 97, 110, 99, 101, 32]⟩ ++ itoaB p ++ ⟨#[47]⟩ ++ itoaB q from rfl)
      clear hd1 hd2 hb1 hb2 hcp
      generalize itoaB p = tp at *
      generalize itoaB q = tq at *
      have hs7 : (ByteArray.mk #[99, 104, 97, 110, 99, 101, 32]).size = 7 := rfl
      have hs1 : (ByteArray.mk #[47]).size = 1 := rfl
      have cat1 : ∀ W : World, (Op.stringOp .add ⟨#[99, 104, 97, 110, 99, 101, 32]⟩ tp).run Tryz.prog W = .ok (.string (⟨#[99, 104, 97, 110, 99, 101, 32]⟩ ++ tp)) W := fun W => run_string_add_sum W _ _ (by omega)
      have cat2 : ∀ W : World, (Op.stringOp .add (⟨#[99, 104, 97, 110, 99, 101, 32]⟩ ++ tp) ⟨#[47]⟩).run Tryz.prog W = .ok (.string (⟨#[99, 104, 97, 110, 99, 101, 32]⟩ ++ tp ++ ⟨#[47]⟩)) W := fun W => run_string_add_sum W _ _ (by rw [ByteArray.size_append]; omega)
      have cat3 : ∀ W : World, (Op.stringOp .add (⟨#[99, 104, 97, 110, 99, 101, 32]⟩ ++ tp ++ ⟨#[47]⟩) tq).run Tryz.prog W = .ok (.string (⟨#[99, 104, 97, 110, 99, 101, 32]⟩ ++ tp ++ ⟨#[47]⟩ ++ tq)) W := fun W => run_string_add_sum W _ _ (by rw [ByteArray.size_append, ByteArray.size_append]; omega)
      clear hz1 hz2 hs7 hs1 hp1 hp2
      go_wp2_with fail
      refine (HCH.out).mono ?_; rintro e w2 ⟨rfl, b2⟩
      have bA := b2.alloc b2.size (.cells #[.int .i64 (p : Nat), .int .i64 (q : Nat)] 48)
      have HB2 := hid (below_call HB.out bA HB.out.size)
      have HE2 := hid (HEN.out.keep bA)
      have H9 := hid (Blk.new w2 48 #[.int .i64 (p : Nat), .int .i64 (q : Nat)])
      clear b2 bA HCH c1
      go_wp2_with fail
      generalize w2.alloc (.cells #[.int .i64 (p : Nat), .int .i64 (q : Nat)] 48) = Z at *
      refine wp_region_held_drew (S := (fun w' => w'.cell? ⟨w2.heap.size, 0, none⟩ = some (.int .i64 (p : Nat)) ∧ w'.cell? ⟨w2.heap.size, 1, none⟩ = some (.int .i64 (q : Nat)))) (by kernel_rfl) (by (try dsimp only); (first | exact ⟨H9.out.cell 0, H9.out.cell 1⟩ | exact ⟨H9.out.drew.cell 0, H9.out.drew.cell 1⟩)) (fun hHeld => ?_)
      have bd := (Below.refl Z.heap.size Z).drew
      have H9 := hid (H9.out.keep bd); have HB2 := hid (below_call HB2.out bd HB2.out.size); have HE2 := hid (HE2.out.keep bd)
      clear bd
      generalize Z.drew = X1 at *
      obtain ⟨Y, rfl⟩ : ∃ Y, Y = X1 := ⟨X1, rfl⟩
      refine tk ?_ 0 (some 36) rfl rfl ?_ ?_; rotate_left; · (intro w hSw; (try dsimp only at hSw); go_simp <;> with_reducible rfl)
      try simp only [Act.put,qA,qB,qC]
      refine tk ?_ 1 (some 37) rfl rfl ?_ ?_; rotate_left; · (intro w hSw; (try dsimp only at hSw); go_simp <;> with_reducible rfl)
      try simp only [Act.put,qA,qB,qC]
      refine tk ?_ 5 (some 41) rfl rfl ?_ ?_; rotate_left; · (intro w hSw; (try dsimp only at hSw); go_simp <;> with_reducible rfl)
      try simp only [Act.put,qA,qB,qC]
      refine tk ?_ 6 (some 42) rfl rfl ?_ ?_; rotate_left; · (intro w hSw; (try dsimp only at hSw); go_simp <;> with_reducible rfl)
      try simp only [Act.put,qA,qB,qC]
      refine st 2 rfl fun K hK => ?_
      go_simp
      refine (HI1.out _ HE2.out).mono ?_; rintro e Y ⟨rfl, bb⟩
      have H9 := hid (H9.out.keep bb); have HB2 := hid (below_call HB2.out bb HB2.out.size); have HE2 := hid (HE2.out.keep bb)
      clear bb hHeld
      refine hK.out _ _ ?_ (fun hHeld => ?_); · ((try dsimp only); (first | exact ⟨H9.out.cell 0, H9.out.cell 1⟩ | exact ⟨H9.out.drew.cell 0, H9.out.drew.cell 1⟩))
      clear hK K
      try simp only [Act.put,qA,qB,qC]
      refine tk ?_ 3 (some 39) rfl rfl ?_ ?_; rotate_left; · (intro w hSw; (try dsimp only at hSw); go_simp <;> with_reducible rfl)
      try simp only [Act.put,qA,qB,qC]
      refine tk ?_ 4 (some 40) rfl rfl ?_ ?_; rotate_left; · (intro w hSw; (try dsimp only at hSw); go_simp <;> with_reducible rfl)
      try simp only [Act.put,qA,qB,qC]
      refine st 7 rfl fun K hK => ?_
      go_simp
      refine (HI2.out _ HE2.out).mono ?_; rintro e Y ⟨rfl, bb⟩
      have H9 := hid (H9.out.keep bb); have HB2 := hid (below_call HB2.out bb HB2.out.size); have HE2 := hid (HE2.out.keep bb)
      clear bb hHeld
      refine hK.out _ _ ?_ (fun hHeld => ?_); · ((try dsimp only); (first | exact ⟨H9.out.cell 0, H9.out.cell 1⟩ | exact ⟨H9.out.drew.cell 0, H9.out.drew.cell 1⟩))
      clear hK K
      try simp only [Act.put,qA,qB,qC]
      refine tk ?_ 8 (some 44) rfl rfl ?_ ?_; rotate_left; · (intro w hSw; (try dsimp only at hSw); go_simp <;> with_reducible rfl)
      try simp only [Act.put,qA,qB,qC]
      refine tk ?_ 9 (some 4) rfl rfl ?_ ?_; rotate_left; · (intro w hSw; (try dsimp only at hSw); go_simp <;> with_reducible rfl)
      try simp only [Act.put,qA,qB,qC]
      refine tk ?_ 10 (some 5) rfl rfl ?_ ?_; rotate_left; · (intro w hSw; (try dsimp only at hSw); go_simp <;> with_reducible rfl)
      try simp only [Act.put,qA,qB,qC]
      refine wpAnyH_done (by kernel_rfl) ?_ _
      go_wp2
      go_ret2
      exact ⟨by rw [HRP.out, if_pos H0.out, if_neg (by have := HIJ.out; omega), Int.toNat_natCast, Int.toNat_natCast, HCP.out, HTX.out]; rfl, HB2.out⟩
  · have hokf : ok = false := by
     rw [← hok, Bool.and_eq_false_iff, decide_eq_false_iff_not, decide_eq_false_iff_not]
     omega
    subst hokf
    have H0 := hid h0
    clear h0 hok
    go_wp2
    go_ret2
    exact ⟨by rw [HRP.out, if_neg H0.out]; rfl, HB.out⟩
end
/- Walks of fraction and of Contains. Conditions: the text is a chance's; the library's variables stand. -/
section
open Go.RowKit Go.Maps
end
end Go.Proofs.YtnibidmlkbcfkaaGreatDoor
