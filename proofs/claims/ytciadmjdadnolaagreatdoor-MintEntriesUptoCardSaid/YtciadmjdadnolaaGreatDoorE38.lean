/- Texts of this proof, one behind the other; each says its condition at its head. -/
import Derived.Test.YtciadmjdadnolaaGreatDoorE37
import Derived.Test.YtciadmjdadnolaaGreatDoorE35
/- Walks of order's Lines at one element, of roll, and of ask and Ask at 'roll'. Conditions: the library's table of 64 numbers and MaxLen stand in their variables. -/
namespace Go.Proofs.YtciadmjdadnolaaGreatDoor
open Go.RowKit Go.Maps
set_option maxRecDepth 100000 in
set_option maxHeartbeats 4000000 in
theorem linesF (A : Option Addr) (c : Nat) (w : World) (hs : Sl w A 1 c [.int .i64 0]) (hT : Tab w) :
 Calls Tryz.prog 108 #[.slice A 1 c] w fun e w' => ∃ O oc R rc, e = .returned (.tuple #[.slice O 1 oc, .int .i64 0]) ∧ w'.ownsRow w.heap.size 89 1 (.slice O 1 oc) 1 [.slice R 1 rc] ∧ w'.ownsRow w.heap.size 3 1 (.slice R 1 rc) 1 [.int .i64 0] ∧ Below w.heap.size w w' := by
 have HR := hid (orderRead1 A c w hs hT)
 have HT := hid hT
 clear hs hT
 unfold ord1 at HR
 go_enter Tryz.func108, Tryz.ntmps108
 go_wp2_with fail
 refine (HR.out).mono ?_; rintro e w1 ⟨rfl, b1⟩
 have HL := hid (linesOne (w1.alloc (.cells #[.int .i64 1, .int .i64 0, .int .i64 0, .int .i64 0, .int .i64 0, .int .i64 0, .int .i64 0] 150)) ((HT.out.below b1).below ((Below.refl _ w1).alloc (Nat.le_refl _) _)))
 have HB := hid (b1.alloc b1.size (.cells #[.int .i64 1, .int .i64 0, .int .i64 0, .int .i64 0, .int .i64 0, .int .i64 0, .int .i64 0] 150))
 unfold ord1 at HL
 clear b1 HR
 go_wp2_with fail
 refine (HL.out).mono ?_; rintro e w2 ⟨O, oc, R, rc, rfl, h2, h3, b2⟩
 have H2 := hid (own_more h2 HB.out.size)
 have H3 := hid (own_more h3 HB.out.size)
 have HB2 := hid (below_call HB.out b2 HB.out.size)
 clear h2 h3 b2 HL
 go_wp2
 go_ret2
 exact ⟨O, oc, R, rc, rfl, H2.out, H3.out, HB2.out⟩
set_option maxRecDepth 100000 in
set_option maxHeartbeats 4000000 in
theorem rollF (A0 : Option Addr) (q0 : Nat) (nb B : Nat) (M : Option Addr) (mc : Nat) (U : Option Addr) (uc : Nat) (w : World) (h : StG w nb B M mc U uc) (hT : Tab w) :
 Calls Tryz.prog 74 #[.pointer (some ⟨nb, 0, none⟩), .agg #[.slice A0 0 q0, .slice none 0 0]] w fun e w' => e = .returned (.tuple #[.string ⟨#[114, 111, 108, 108, 32, 103, 111, 108, 100]⟩, .int .i64 0]) ∧ Below w.heap.size w w' := by
 have HS := hid (h.keep ((Below.refl _ w).alloc (Nat.le_refl _) (.cells #[.slice A0 0 q0, .slice none 0 0] 91)))
 have HB := hid ((Below.refl w.heap.size w).alloc (Nat.le_refl _) (.cells #[.slice A0 0 q0, .slice none 0 0] 91))
 have HT := hid (hT.below HB.out)
 clear h hT
 go_enter Tryz.func74, Tryz.ntmps74
 have c0 := HS.out.blk.cell 0
 have c1 := HS.out.blk.cell 1
 simp only [stC, List.getElem?_toArray, List.getElem?_cons_zero, List.getElem?_cons_succ] at c0 c1
 go_wp2_with fail
 generalize w.alloc (.cells #[.slice A0 0 q0, .slice none 0 0] 91) = W at *
 have HL := hid (linesF U uc W (Sl.of_own HS.out.abv) HT.out)
 clear c0 c1
 refine (HL.out).mono ?_; rintro e w2 ⟨O, oc, R, rc, rfl, h2, h3, b2⟩
 have HS2 := hid (HS.out.keep b2)
 have H3 := hid h3
 have H2 := hid h2
 have HB2 := hid (below_call HB.out b2 HB.out.size)
 clear h2 h3 b2 HL HS HT HB
 go_wp2_with fail
 have c0 := HS2.out.blk.cell 0
 simp only [stC, List.getElem?_toArray, List.getElem?_cons_zero] at c0
 obtain ⟨bo, oo, u, hO, lb, e1, ca⟩ := (Sl.of_own H2.out).at (k := 0) (by omega)
 subst hO
 simp only [List.getElem?_cons_zero, Option.some.injEq, Nat.add_zero] at e1 ca
 subst e1
 have hnm := namedF ⟨#[114, 111, 108, 108]⟩ M 1 mc [sGold] R 1 rc [0] w2.drew (Sl.of_own HS2.out.med).drew (Sl.of_own H3.out).drew (fun i hi => by simp at hi; omega) (by decide) (fun s hs => by simp at hs; subst hs; decide) (by omega)
 rw [show nmd ⟨#[114, 111, 108, 108]⟩ [sGold] [0] = ⟨#[114, 111, 108, 108, 32, 103, 111, 108, 100]⟩ from by kernel_rfl] at hnm
 have HNM := hid hnm
 have hcap := (Sl.of_own H2.out).cap
 clear lb hnm
 go_region_held3 (fun w' => w'.cell? ⟨nb, 0, none⟩ = some (.slice M 1 mc) ∧ w'.cell? ⟨bo, oo, none⟩ = some (.slice R 1 rc)) (first | exact ⟨c0, ca⟩ | assumption) (first
  | (go_at_call 109; refine (HNM.out).mono ?_; rintro e w5 ⟨rfl, rfl⟩))
 all_goals go_wp2
 all_goals go_ret2
 exact ⟨rfl, HB2.out.drew⟩
set_option maxRecDepth 100000 in
set_option maxHeartbeats 4000000 in
theorem askR (nb B : Nat) (M : Option Addr) (mc : Nat) (U : Option Addr) (uc : Nat) (w : World) (h : StG w nb B M mc U uc) (hT : Tab w) (hm : MaxL w) :
 Calls Tryz.prog 41 #[.pointer (some ⟨nb, 0, none⟩), .string sRoll] w fun e w' => e = .returned (.tuple #[.string ⟨#[114, 111, 108, 108, 32, 103, 111, 108, 100]⟩, .int .i64 0]) ∧ Below w.heap.size w w' := by
 have HC := hid (questionsF w)
 have HM := hid hm
 have HS := hid h
 have HT := hid hT
 have he : ∀ args W, (callFunc 74 args).run Tryz.prog W = .ok (.enter 74 args) W := fun args W => enters Tryz.func74 (by kernel_rfl) rfl args W
 clear hm h hT
 go_enter Tryz.func41, Tryz.ntmps41
 go_wp2_with fail
 refine (HC.out).mono ?_; rintro e w1 ⟨bm, rfl, hmap, hb, b1⟩
 have HB1 := hid b1
 have HF := hid (findAsk bm (asS questionsL) sRoll sRoll 0 0 74 0 [] w1 (HM.out.keep b1) hmap word_R (by kernel_rfl) (key_str _ (by decide)) (read_R _ _) line_R)
 clear hmap hb b1 HC
 go_wp2_with fail
 refine (HF.out).mono ?_; rintro e w2 ⟨A, c, rfl, ho, b2⟩
 have HB2 := hid (below_call HB1.out b2 HB1.out.size)
 clear ho b2 HF
 have b3 := (HB2.out.alloc HB2.out.size (.cells #[.int .i64 0, .int .i64 0, .nilFunc, .func (.func 74) #[] #[]] 88)).alloc (by have := HB2.out.size; simp; omega) (.cells #[.slice A 0 c, .slice none 0 0] 91)
 have HRO := hid (rollF A c nb B M mc U uc _ (HS.out.keep b3) (HT.out.below b3))
 have HB3 := hid b3
 clear b3
 go_wp2_with fail
 refine (HRO.out).mono ?_; rintro e w4 ⟨rfl, b4⟩
 have HB4 := hid (below_call HB3.out b4 HB3.out.size)
 clear b4
 go_wp2
 go_ret2
 exact ⟨rfl, HB4.out⟩
set_option maxRecDepth 100000 in
set_option maxHeartbeats 4000000 in
theorem mintAsk (m : Nat) (a : Value) (k : Int) (nb B : Nat) (d : Value) (M : Option Addr) (mc : Nat) (U : Option Addr) (uc : Nat) (w : World) (hmi : MintB w m a k nb d false) (h : StG w nb B M mc U uc) (hT : Tab w) (hm : MaxL w) :
 Calls Tryz.prog 32 #[.pointer (some ⟨m, 0, none⟩), .string sRoll] w fun e w' => e = .returned (.tuple #[.string ⟨#[114, 111, 108, 108, 32, 103, 111, 108, 100]⟩, .int .i64 0]) ∧ Below w.heap.size w w' := by
 have HN := hid (mintNone m a k nb d false w hmi)
 have HA := hid (askR nb B M mc U uc w h hT hm)
 have c2 := hmi.cell 2
 simp only [List.getElem?_toArray, List.getElem?_cons_zero, List.getElem?_cons_succ] at c2
 clear hmi h hT hm
 go_enter Tryz.func32, Tryz.ntmps32
 go_wp2_with fail
 refine (HN.out).mono ?_; rintro e w' ⟨rfl, rfl⟩
 go_wp2_with fail
 refine (HA.out).mono ?_; rintro e w2 ⟨rfl, b2⟩
 have HB2 := hid b2
 clear b2
 go_wp2
 go_ret2
 exact ⟨rfl, HB2.out⟩
end Go.Proofs.YtciadmjdadnolaaGreatDoor
/- Walk of awake: a mint on three new copies takes a medal, and rolls it. Conditions: the library's table of 64 numbers and MaxLen stand in their variables. -/
namespace Go.Proofs.YtciadmjdadnolaaGreatDoor
open Go.RowKit Go.Maps
set_option maxRecDepth 100000 in
set_option maxHeartbeats 4000000 in
theorem awakeF (w : World) (hT : Tab w) (hm : MaxL w) :
 Calls Tryz.prog 13 #[] w fun e w' => e = .returned (.bool true) ∧ Below w.heap.size w w' := by
 have HC := hid (copies3 w)
 have HT := hid hT
 have HM := hid hm
 clear hT hm
 go_enter Tryz.func13, Tryz.ntmps13
 go_wp2_with fail
 refine (HC.out).mono ?_; rintro e w1 ⟨a, r, rfl, ⟨L, M, h1, h2, h3, h4, h5⟩, b1⟩
 obtain ⟨A, c, rfl⟩ := own_form h1
 have HB1 := hid b1
 have HL := hid h3
 have HLEN := hid (show L.length = 3 from by have := h1.1; simpa [ptrs] using this)
 have HO := hid (openNew A 3 c L w.heap.size w1 (Or.inl rfl) (Sl.of_own h1) h3)
 clear h1 h2 h3 h4 h5 b1 HC
 go_wp2_with fail
 refine (HO.out).mono ?_; rintro e w2 ⟨m, sb, a2, r2, rfl, hop⟩
 obtain ⟨A2, c2, rfl⟩ := own_form hop.own1
 have hlow : Below w.heap.size w w2 := hop.chs.below HB1.out HB1.out.size (fun i hi => by
  obtain ⟨p, hp, rfl⟩ := List.mem_map.1 hi
  exact (HL.out.cpm p hp).2.1)
 have HLO := hid hlow
 have HDO := hid (mintDo w w2 m sb A2 c2 L HM.out hlow (Nat.le_trans HB1.out.size hop.hm) hop.mint hop.st (own_more hop.own1 HB1.out.size) (fun i p hp => by
  have := hop.cp i p hp
  rwa [if_pos (by have := (List.getElem?_eq_some_iff.1 hp).1; have := HLEN.out; omega)] at this) (fun p hp => (HL.out.cpm p hp).2) HL.out.nod1 HL.out.nod2)
 clear hop hlow HO
 go_wp2_with fail
 refine (HDO.out).mono ?_; rintro e w3 ⟨nb, M1, mc, U, uc, D, dc, rfl, hmi, hst, b3⟩
 have HA := hid (mintAsk m _ 1 nb w.heap.size _ M1 mc U uc w3 hmi hst (HT.out.below b3) (HM.out.keep b3))
 have HB3 := hid b3
 clear hmi hst b3 HDO
 go_wp2_with fail
 refine (HA.out).mono ?_; rintro e w4 ⟨rfl, b4⟩
 have HB4 := hid (below_call HB3.out b4 HB3.out.size)
 clear b4 HA
 go_wp2
 go_ret
 exact ⟨rfl, HB4.out⟩
end Go.Proofs.YtciadmjdadnolaaGreatDoor
/- Walk of MintEntries. Conditions: the lines are short of the shelf's bound; the library's variables stand. -/
namespace Go.Proofs.YtciadmjdadnolaaGreatDoor
open Go.RowKit Go.Maps
def sBatch : ByteArray := ⟨#[98, 97, 116, 99, 104, 32, 49, 32, 48, 32, 48, 32, 49]⟩
theorem batch_ok (s : Bk) : (doL s sBatch).2 = 0 := by
 have h1 : (wordOf sBatch).data.toList = [98, 97, 116, 99, 104] := by kernel_rfl
 have h2 : lineL 0 4 sBatch = some ([], [1, 0, 0, 1]) := by kernel_rfl
 unfold doL
 rw [if_neg (by rw [h1]; decide), if_neg (by rw [h1]; decide), if_pos h1, h2]
 rfl
/-- What stands in the rounds: the mint, the copies, and the journal's lines. -/
structure EntS (w W : World) (K m : Nat) (A : Option Addr) (c : Nat) (L : List (Nat × Nat)) (s : Bk) (J : List ByteArray) (C : List Cp) (D : Option Addr) (dc : Nat) : Prop where
 op : OpdS w W K m A c L 1 s J C false
 ln : W.ownsRow K 9 1 (.slice D J.length dc) J.length (strV J)
theorem EntS.below {w W W' : World} {K m : Nat} {A : Option Addr} {c : Nat} {L : List (Nat × Nat)} {s : Bk} {J : List ByteArray} {C : List Cp} {D : Option Addr} {dc : Nat} (h : EntS w W K m A c L s J C D dc) (hb : Below W.heap.size W W') : EntS w W' K m A c L s J C D dc := ⟨h.op.below hb, own_below h.ln hb⟩
theorem batch_out (s : Bk) (J : List ByteArray) (hJ : J.length < 200) : ∃ C', doM (likeC 3 J) 1 s J false sBatch = (C', s, J, true, 5) := by
 unfold doM
 rw [if_neg (by simp), if_neg (by rw [batch_ok]; simp), if_neg (by omega), like_len, like_reach, if_neg (by simp), like_count, if_pos (by simp)]
 exact ⟨_, rfl⟩
set_option maxRecDepth 100000 in
set_option maxHeartbeats 4000000 in
theorem mintEntries_walk (w : World) (U : Option Addr) (n c0 : Nat) (l : List ByteArray) (he : EnvN w) (hT : Tab w) (hs : Sl w U n c0 (strV l)) (hl : ∀ x ∈ l, x.size ≤ 100000000) :
 Calls Tryz.prog 4 #[.slice U n c0] w fun e w' => e = .returned (.bool true) ∧ Below w.heap.size w w' := by
 have HOF := hid (openedF w U n c0 l he hT hs hl)
 have HEN := hid he
 have HT := hid hT
 have hjl : (runD bk0 [] (l.take 60)).2.length ≤ 60 := by
  have := runD_len (l.take 60) bk0 []
  rw [List.length_take, List.length_nil] at this
  omega
 have HJL := hid hjl
 have HRUN := hid (runD_runs (l.take 60) bk0 [] rfl)
 have HBK := hid (runD_keep (l.take 60) bk0 [] BkI.begin)
 generalize (runD bk0 [] (l.take 60)).1 = s at *
 generalize (runD bk0 [] (l.take 60)).2 = J at *
 clear he hT hs hl hjl
 go_enter Tryz.func4, Tryz.ntmps4
 go_wp2_with fail
 refine (HOF.out).mono ?_; rintro e w1 ⟨K, m, A, c, L, rfl, hop⟩
 have HOP := hid hop
 obtain ⟨R, d, hmm, hft⟩ := hop.mm
 obtain ⟨D0, dc0, rfl⟩ := own_form hmm.own
 obtain ⟨sb, A1, ca1, m1, m2, m3, m4⟩ := hmm.ex
 have HJO := hid (mintJournal m _ 1 sb D0 J.length dc0 J false w1 (by have := HJL.out; omega) m1 (Sl.of_own hmm.own))
 clear hop hmm hft m1 m2 m3 m4 HOF
 go_wp2_with fail
 refine (HJO.out).mono ?_; rintro e w2 ⟨D, dc, rfl, ho, b2⟩
 have HE := hid (show EntS w w2 K m A c L s J (likeC 1 J) D dc from ⟨HOP.out.below b2, own_more ho HOP.out.kw⟩)
 clear ho b2 HJO HOP
 go_wp2
 go_loopg [7] 2 (fun gk i wr => ∃ rd : Nat, gk + rd = 3 ∧ 1 ≤ rd ∧ i = .int .i64 rd ∧ Hid (EntS w wr K m A c L s J (likeC rd J) D dc))
 case atStart => exact ⟨1, by omega, by omega, rfl, HE⟩
 case round =>
  clear HE
  obtain ⟨rd, hrd, hrd1, rfl, HE⟩ := hrel
  have HRD := hid (And.intro hrd hrd1)
  by_cases hlt : rd < 3
  · have HLT := hid hlt
    have g0 : decide ((rd : Int) ≤ 2) = true := decide_eq_true (by omega)
    have g01 : decide (rd ≤ 2) = true := decide_eq_true (by omega)
    go_wp2
    clear g0 g01
    go_loopg [36] 3 (fun gk i wr => ∃ q : Nat, gk + q = 3 ∧ i = .int .i64 q ∧ Hid (EntS w wr K m A c L s J (likeC rd J) D dc))
    case atStart => exact ⟨0, by omega, rfl, HE⟩
    case round =>
     clear HE
     obtain ⟨q, hq, rfl, HE⟩ := hrel
     have HQ := hid hq
     by_cases hltq : q < 3
     · have HLTQ := hid hltq
       obtain ⟨b2, o2, u2, hA2, lb2, e2, ca2⟩ := (Sl.of_own HE.out.op.own).at hltq
       subst hA2
       obtain ⟨y, hy, rfl⟩ := ptrs_at e2
       rw [List.getElem?_map] at hy
       obtain ⟨p, hp, rfl⟩ := Option.map_eq_some_iff.1 hy
       obtain ⟨cc, hcc, hcp⟩ := HE.out.op.cps.at hp
       have hcc2 := List.eq_of_mem_replicate (List.mem_of_getElem? hcc)
       subst hcc2
       have HMK := hid (markF p.1 p.2 rd false (entJ rd J) wr hcp)
       simp only [mrkR, Bool.false_eq_true, if_false] at HMK
       have HCP := hid (show CpM wr p.1 p.2 rd false (entJ rd J) from hcp)
       have r1 : ((rd : Int) != (rd : Int)) = false := by simp
       have r2 : (rd != rd) = false := by simp
       have r3 : ((rd : Int) == (rd : Int)) = true := by simp
       clear hq lb2 e2 hy hp hcc hcp
       go_wp2_with fail
       refine (HMK.out).mono ?_; rintro e w' ⟨rfl, rfl⟩
       go_wp2
       clear HMK ca2
       go_loopg [52] 70 (fun gk i wr => ∃ e : Nat, gk + e = 70 ∧ i = .int .i64 e ∧ Hid (EntS w wr K m (some ⟨b2, o2, none⟩) c L s J (likeC rd J) D dc) ∧ Hid (CpM wr p.1 p.2 rd false (entJ rd J)))
       case atStart => exact ⟨0, by omega, rfl, HE, HCP⟩
       case round =>
        clear HE HCP
        obtain ⟨e, hek, rfl, HE, HCP⟩ := hrel
        have HEK := hid hek
        by_cases hlte : e < 70
        · have HLTE := hid hlte
          by_cases hj : e < J.length
          · obtain ⟨db, dof, ud, hD2, lbd, ed, cad⟩ := (Sl.of_own HE.out.ln).at hj
            subst hD2
            obtain ⟨x, hx, rfl⟩ := strV_at ed
            have hget : getR false (entJ rd J) (e : Nat) = ((rd : Int), x, 0) := by
             unfold getR entJ
             rw [if_neg (by simp), if_pos ⟨by omega, by omega⟩, Int.toNat_natCast, hx]
             rfl
            have HGT := hid (getF (e : Nat) p.1 p.2 rd false (entJ rd J) wr HCP.out)
            rw [hget] at HGT
            have hcapd := (Sl.of_own HE.out.ln).cap
            have HCAD := hid cad
            have g1 : decide ((e : Int) < (J.length : Int)) = true := decide_eq_true (by omega)
            have g2 : decide (e < J.length) = true := decide_eq_true hj
            have g3 : decide ((J.length : Int) ≤ (e : Int)) = false := decide_eq_false (by omega)
            have g4 : decide (J.length ≤ e) = false := decide_eq_false (by omega)
            clear hek lbd ed hx hget cad
            go_wp2_with fail
            refine (HGT.out).mono ?_; rintro ee w3 ⟨rfl, b3⟩
            have cad := cell_keep b3 HCAD.out
            have HE := hid (HE.out.below b3)
            have HCP := hid (HCP.out.keep b3)
            clear b3 HGT
            go_wp2
            go_roundg (70 - (e + 1))
            case measure => have := HEK.out; have := HLTE.out; omega
            case rel => exact ⟨e + 1, by have := HEK.out; have := HLTE.out; omega, by go_num, HE, HCP⟩
          · have hget : getR false (entJ rd J) (e : Nat) = (0, ByteArray.empty, 4) := by
             unfold getR entJ
             rw [if_neg (by simp), if_pos ⟨by omega, by omega⟩, Int.toNat_natCast, List.getElem?_eq_none (by omega)]
             rfl
            have HGT := hid (getF (e : Nat) p.1 p.2 rd false (entJ rd J) wr HCP.out)
            rw [hget] at HGT
            have g1 : decide ((e : Int) < (J.length : Int)) = false := decide_eq_false (by omega)
            have g2 : decide (e < J.length) = false := decide_eq_false hj
            have g3 : decide ((J.length : Int) ≤ (e : Int)) = true := decide_eq_true (by omega)
            have g4 : decide (J.length ≤ e) = true := decide_eq_true (by omega)
            clear hek hget
            go_wp2_with fail
            refine (HGT.out).mono ?_; rintro ee w3 ⟨rfl, b3⟩
            have HE := hid (HE.out.below b3)
            have HCP := hid (HCP.out.keep b3)
            clear b3 HGT
            go_wp2
            go_roundg (70 - (e + 1))
            case measure => have := HEK.out; have := HLTE.out; omega
            case rel => exact ⟨e + 1, by have := HEK.out; have := HLTE.out; omega, by go_num, HE, HCP⟩
        · obtain rfl : e = 70 := by have := HEK.out; omega
          have hq3 := HLTQ.out
          clear hek hlte HCP
          go_wp2
          go_roundg (3 - (q + 1))
          case measure => have := HQ.out; have := HLTQ.out; omega
          case rel => exact ⟨q + 1, by have := HQ.out; have := HLTQ.out; omega, by go_num, HE⟩
     · obtain rfl : q = 3 := by have := HQ.out; omega
       have HCL := hid (cloneC A 3 c _ (ptrs_one _) (by omega) wr (Sl.of_own HE.out.op.own))
       clear hq hltq
       go_wp2_with fail
       refine (HCL.out).mono ?_; rintro e w4 ⟨A4, c4, rfl, ho4, b4⟩
       have HE := hid (HE.out.below b4)
       have htop := top_like rd J (by omega)
       have hop := open_like rd J s (by omega) (by have := HJL.out; omega) HRUN.out
       have HOP := hid (openG3 w w4 A4 c4 L (likeC rd J) HE.out.op.low HEN.out HT.out (Sl.of_own ho4) HE.out.op.cps (fun i hi => (HE.out.op.oldL i hi).1) (by rw [htop]; omega) (fun i y hy => by
        rw [best_like] at hy
        unfold entJ at hy
        obtain ⟨z, hz, rfl⟩ := Option.map_eq_some_iff.1 hy
        exact runL_size HRUN.out z (List.mem_of_getElem? hz)))
       unfold OpenR at HOP
       rw [hop, like_reach] at HOP
       clear ho4 b4 htop hop HCL
       go_wp2_with fail
       refine (HOP.out).mono ?_; rintro e w5 hor
       rcases hor with ⟨hno, _, _⟩ | ⟨_, m5, d5, R5, rfl, _, hcc, hch, _⟩
       · omega
       have HE := hid (show EntS w w5 K m A c L s J (likeC ((rd + 1 : Nat) : Int) J) D dc from ⟨HE.out.op.opened hcc hch, own_chsM HE.out.ln hch (fun g hg e => by
        have h1 := (HE.out.ln.lt g hg).1
        have h2 := (HE.out.op.oldL g e).2
        omega)⟩)
       clear hcc hch HOP
       go_wp2
       go_roundg (3 - (rd + 1))
       case measure => have := HRD.out; have := HLT.out; omega
       case rel => exact ⟨rd + 1, by have := HRD.out; have := HLT.out; omega, by omega, by go_num, HE⟩
  · obtain rfl : rd = 3 := by have := HRD.out; omega
    have HE := hid (show EntS w wr K m A c L s J (likeC 3 J) D dc from HE.out)
    have hbo := batch_out s J (by have := HJL.out; omega)
    obtain ⟨C', hC'⟩ := hbo
    have HDG := hid (OpdS.doG sBatch HE.out.op HEN.out HT.out (by have := HJL.out; omega) HBK.out (by decide))
    rw [hC'] at HDG
    clear hrd hrd1 hlt hC'
    go_wp2_with fail
    refine (HDG.out).mono ?_; rintro e w5 ⟨⟨word, rfl⟩, hod⟩
    have HOD := hid hod
    obtain ⟨R, d, hmm, hft⟩ := hod.mm
    obtain ⟨sb5, A5, ca5, m1, m2, m3, m4⟩ := hmm.ex
    have HOU := hid (mintOut m _ 1 sb5 d true w5 m1)
    have HAW := hid (awakeF w5 (HT.out.below HOD.out.low) (HEN.out.max.keep HOD.out.low))
    clear hod hmm hft m1 m2 m3 m4 HDG
    go_wp2_with fail
    refine (HOU.out).mono ?_; rintro e w' ⟨rfl, rfl⟩
    go_wp2_with fail
    refine (HAW.out).mono ?_; rintro e w6 ⟨rfl, b6⟩
    have HB6 := hid (below_call HOD.out.low b6 HOD.out.low.size)
    clear b6
    go_wp2
    go_ret
    exact ⟨rfl, HB6.out⟩
end Go.Proofs.YtciadmjdadnolaaGreatDoor
