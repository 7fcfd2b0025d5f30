/- Texts of this proof, one behind the other; each says its condition at its head. -/
import Derived.Test.YtciadmjdadnolaaGreatDoorK31
import Derived.Test.YtciadmjdadnolaaGreatDoorK33
import Derived.Test.YtciadmjdadnolaaGreatDoorK6
import Derived.Test.YtciadmjdadnolaaGreatDoorK7
import Derived.Stop.LaidErr
import Derived.Deep.Strs
import Derived.Deep.DeepHandedRow
import Derived.Test.YtciadmjdadnolaaGreatDoorK1
import Derived.Deep.Fields
import Derived.OpenShut
import Derived.ChangeMaps5
import Derived.Deep.Slices
/- Walk of a mint's Do at any line. Conditions: the mint and its copies lie in memory, apart; the library's variables stand; the text is short of the shelf's bound. -/
namespace Go.Proofs.YtciadmjdadnolaaGreatDoor
open Go.RowKit Go.Maps
set_option maxRecDepth 100000 in
set_option maxHeartbeats 4000000 in
theorem doG (w0 w : World) (R : Nat → Prop) (m : Nat) (d : Value) (L : List (Nat × Nat)) (C : List Cp) (k : Int) (s : Bk) (J : List ByteArray) (out : Bool) (x : ByteArray) (hlow : Below w0.heap.size w0 w) (he : EnvN w0) (hT : Tab w0)
 (hm : MinM w R m d L k s J out) (hc : CpsM w L C) (hap : ∀ i, inL L i → ¬ R i ∧ ¬ footM m d i) (hJ : J.length ≤ 200) (hb : BkI s) (hx : x.size ≤ 100000000) (hk0 : 0 ≤ k) (hk1 : k ≤ 1000000000) (hn : L.length ≤ 1000)
 (hLlow : ∀ i, inL L i → w0.heap.size ≤ i) (hflow : ∀ i, footM m d i → w0.heap.size ≤ i) :
 Calls Tryz.prog 8 #[.pointer (some ⟨m, 0, none⟩), .string x] w fun r w' => (∃ word, r = .returned (.tuple #[.string word, .int .i64 ((doM C k s J out x).2.2.2.2 : Nat)])) ∧ DoneM w w' R m d L k (doM C k s J out x) := by
 obtain ⟨D, dc, hd⟩ := own_form hm.own
 subst hd
 obtain ⟨sb, A, ca, h1, h2, h3, h4⟩ := hm.ex
 have HN := hid (mintNone m _ k sb _ out w h1)
 have g2 := h1.cell 2
 have g4 := h1.cell 4
 simp only [List.getElem?_toArray, List.getElem?_cons_zero, List.getElem?_cons_succ] at g2 g4
 have HMM := hid hm
 have HC := hid hc
 have HAP := hid hap
 have HB := hid hb
 have HJ := hid hJ
 have HLO := hid hlow
 cases out with
 | true =>
  have HQ := hid (show doM C k s J true x = (C, s, J, true, 5) from by unfold doM; rw [if_pos rfl])
  clear hm hc hap hJ hb hlow he hT hLlow hflow h1 h2 h3 h4
  go_enter Tryz.func8, Tryz.ntmps8
  go_wp2_with fail
  refine (HN.out).mono ?_; rintro e w' ⟨rfl, rfl⟩
  go_wp2
  go_ret2
  rw [HQ.out]
  exact ⟨⟨_, rfl⟩, R, _, HMM.out, HC.out, Chs.refl _ _, fun _ hi => .inl hi, fun _ hi => .inl hi⟩
 | false =>
  have HDO := hid (doF R sb s x w hb hx (he.keep hlow) (hT.below hlow) h3)
  have HEN := hid he
  have HLL := hid hLlow
  have HFL := hid hflow
  have hlen : L.length = C.length := hc.len
  have HLEN := hid hlen
  clear hm hc hap hJ hb hlow he hT hLlow hflow h1 h2 h3 h4 hlen
  go_enter Tryz.func8, Tryz.ntmps8
  go_wp2_with fail
  refine (HN.out).mono ?_; rintro e w' ⟨rfl, rfl⟩
  go_wp2_with fail
  refine (HDO.out).mono ?_; rintro e w1 hdr
  obtain ⟨nb, rfl, hst', b1⟩ := DoR.form hdr
  have HST := hid hst'
  have HM1 := hid (HMM.out.below b1)
  have HC1 := hid (HC.out.below b1)
  have B1 := hid b1
  clear hdr hst' b1 HDO HN g2 g4
  obtain ⟨sb1, A1, ca1, h1, h2, _, _⟩ := HM1.out.ex
  have d0 := h1.cell 0
  simp only [List.getElem?_toArray, List.getElem?_cons_zero] at d0
  have hzip : (((L.zip C).map fun q => (q.1.1, q.2.away)).map (·.1)) = L.map (·.1) := by
   rw [List.map_map]
   conv => rhs; rw [← List.map_fst_zip (l₁ := L) (l₂ := C) (by rw [HLEN.out]; exact Nat.le_refl _), List.map_map]
   rfl
  have HIR := hid (inReachF A1 L.length ca1 ((L.zip C).map fun q => (q.1.1, q.2.away)) w1 (by omega) (by rw [hzip]; exact h2) (fun q hq => by
   obtain ⟨z, hz, rfl⟩ := List.mem_map.1 hq
   obtain ⟨i, hi⟩ := List.getElem?_of_mem hz
   rw [List.getElem?_zip_eq_some] at hi
   have h := (HC1.out.cp i z.1 z.2 hi.1 hi.2).blk.cell 2
   simpa using h))
  rw [show onL ((L.zip C).map fun q => (q.1.1, q.2.away)) = onB L C from rfl, onB_len HLEN.out] at HIR
  clear h1 h2 hzip
  go_wp2_with fail
  refine (HIR.out).mono ?_; rintro e w2 ⟨A2, c2, rfl, ho2, b2⟩
  have HM2 := hid (HM1.out.below b2)
  have HC2 := hid (HC1.out.below b2)
  have B2 := hid b2
  have B12 := hid (below_call B1.out b2 B1.out.size)
  have HO2 := hid ho2
  clear b2 ho2 d0 HIR
  by_cases hz : (doL s x).2 = 0
  · obtain ⟨v1, v2, v3, v4, v5, hst⟩ := HST.out hz
    have HD := hid (show DoH w w2 w1.heap.size R m (.slice D J.length dc) L k s J C nb (doL s x).1 (reachN C) (.slice A2 (reachN C) c2) from
     ⟨HM2.out, HC2.out, hst.read.below B2.out, ⟨B1.out.size, B2.out.size⟩, HO2.out, Chs.of_below B12.out, HAP.out, fun i hi => by
      rcases hi with hi | hi | hi
      · exact HC.out.lt hi
      · exact HMM.out.foot_lt hi
      · exact HMM.out.lt i hi⟩)
    have HXS := hid (doL_size hz)
    have HZ := hid hz
    rw [hz]
    obtain ⟨wk, hwk⟩ : ∃ wk, wk = w1.heap.size := ⟨_, rfl⟩
    rw [← hwk] at HD
    clear hst hz HST HM1 HC1 B1 HM2 HC2 B2 HO2 B12 hwk
    obtain ⟨sb2, A3, ca3, h1, h2, _, _⟩ := HD.out.mm.ex
    have z3 := h1.cell 3
    have z0 := h1.cell 0
    simp only [List.getElem?_toArray, List.getElem?_cons_zero, List.getElem?_cons_succ] at z0 z3
    by_cases hj : J.length = 200
    · have HQ := hid (show doM C k s J false x = (C, s, J, false, 7) from by
       unfold doM
       rw [if_neg (by simp), if_neg (by simpa using HZ.out), if_pos hj])
      have q1 : ((J.length : Int) == 200) = true := by rw [beq_iff_eq]; omega
      have q2 : (J.length == 200) = true := by rw [beq_iff_eq]; exact hj
      clear h1 h2 hj
      go_wp2
      go_ret2
      rw [HQ.out]
      exact ⟨⟨_, rfl⟩, HD.out.leave⟩
    · have HJ2 := hid hj
      have q1 : ((J.length : Int) == 200) = false := by rw [beq_eq_false_iff_ne]; omega
      have q2 : (J.length == 200) = false := by rw [beq_eq_false_iff_ne]; exact hj
      have HRN := hid (show reachN C ≤ L.length from by rw [HLEN.out]; unfold reachN; exact List.countP_le_length)
      have hrn := HRN.out
      clear h1 h2 hj
      go_wp2_with fail
      refine (mostF A3 L.length ca3 (reachN C : Nat) w2 (by omega) (by omega)).mono ?_; rintro e w' ⟨rfl, rfl⟩
      by_cases hmo : L.length < 2 * reachN C
      · have g1 : decide ((L.length : Int) < 2 * (reachN C : Nat)) = true := decide_eq_true (by omega)
        have g2 : decide (L.length < 2 * reachN C) = true := decide_eq_true hmo
        have HMO := hid hmo
        clear z0 z3 q1 q2 hmo
        go_wp2
        clear g1 g2
        obtain ⟨f, hf⟩ : ∃ f : Cp → Cp, f = fun c => c.put J.length k x := ⟨_, rfl⟩
        have HFE := hid hf
        have HFA := hid (show ∀ c, (f c).away = c.away from fun c => by rw [hf]; exact Cp.put_away c _ _ _)
        have HJ200 := hid (show J.length < 200 from by have := HJ.out; have := HJ2.out; omega)
        clear hf
        obtain ⟨nr, hnr⟩ : ∃ nr, nr = reachN C := ⟨_, rfl⟩
        rw [← hnr] at HD hrn ⊢
        have HNR := hid hnr
        clear hnr
        go_loopg [9, 59] nr (fun gk v i wr => ∃ dd : Nat, gk + dd = nr ∧ i = .int .i64 dd ∧ v = .int .i64 (tookN k C dd : Nat) ∧ Hid (DoH w wr wk R m (.slice D J.length dc) L k s J (onF f dd C) nb (doL s x).1 nr (.slice A2 nr c2)))
        case atStart => exact ⟨0, by omega, rfl, rfl, by rw [onF_zero]; exact HD⟩
        case round =>
         clear HD
         obtain ⟨dd, hdd, rfl, rfl, HD⟩ := hrel
         have HDD := hid hdd
         have htl := tookN_le (k := k) (C := C) (d := dd)
         by_cases hlt : dd < nr
         · have HLT := hid hlt
           obtain ⟨b2, o2, u2, hA2, lb2, e2, ca2⟩ := (Sl.of_own HD.out.own2).at hlt
           subst hA2
           obtain ⟨y, hy, rfl⟩ := ptrs_at e2
           rw [onB_away (onF_away f HFA.out dd C)] at hy
           obtain ⟨i, p, c, p1, rfl, p3, p4, p5, p6, p7⟩ := onB_at f HLEN.out hy
           have hcp := (HD.out.below (Below.refl _ wr).drew).cps.cp i p c p1 p6
           have HPU := hid (putC J.length k x p c wr.drew hcp p4 HJ200.out hk0 hk1 HXS.out)
           have HP1 := hid p1
           have HP6 := hid p6
           have HP7 := hid p7
           have HTK := hid (tookN_succ (k := k) p5)
           obtain ⟨sb2, A5, ca5, h1, h2, _, _⟩ := HD.out.mm.ex
           have z1 := h1.cell 1
           have z3 := h1.cell 3
           simp only [List.getElem?_toArray, List.getElem?_cons_zero, List.getElem?_cons_succ] at z1 z3
           clear hdd hlt hy e2 lb2 hcp p1 p3 p4 p5 p6 p7 h1 h2
           by_cases hkm : k < c.mark
           · rw [if_pos hkm] at HPU HTK
             have HFC := hid (show f c = c.put J.length k x from by rw [HFE.out])
             clear hkm
             go_wp2_with fail
             go_region_held3 (fun w' => w'.cell? ⟨m, 1, none⟩ = some (.int .i64 k) ∧ w'.cell? ⟨m, 3, none⟩ = some (.slice D J.length dc)) (first | assumption | (exact ⟨z1, z3⟩) | (exact HK.out)) (first
              | (go_at_call 24; refine (HPU.out).mono ?_; rintro e w5 ⟨rfl, hc5, hg5⟩; have J5 := hid ((HD.out.below (Below.refl _ wr).drew).copy HP1.out HP6.out (Cp.put_away c _ _ _) hc5 hg5); have HK := hid (show w5.cell? ⟨m, 1, none⟩ = some (.int .i64 k) ∧ w5.cell? ⟨m, 3, none⟩ = some (.slice D J.length dc) from by obtain ⟨_, _, _, h9, _⟩ := J5.out.mm.ex; exact ⟨h9.cell 1, h9.cell 3⟩); clear hc5 hg5))
             all_goals go_wp2
             all_goals go_roundg (gk - 1)
             case measure => have := HDD.out; have := HLT.out; omega
             case rel => exact ⟨dd + 1, by have := HDD.out; have := HLT.out; omega, by go_num, by rw [HTK.out, Nat.add_zero], by rw [HP7.out, HFC.out]; exact J5⟩
           · rw [if_neg hkm] at HPU HTK
             have HFC := hid (show f c = c.put J.length k x from by rw [HFE.out])
             clear hkm
             go_wp2_with fail
             go_region_held3 (fun w' => w'.cell? ⟨m, 1, none⟩ = some (.int .i64 k) ∧ w'.cell? ⟨m, 3, none⟩ = some (.slice D J.length dc)) (first | assumption | (exact ⟨z1, z3⟩) | (exact HK.out)) (first
              | (go_at_call 24; refine (HPU.out).mono ?_; rintro e w5 ⟨rfl, hc5, hg5⟩; have J5 := hid ((HD.out.below (Below.refl _ wr).drew).copy HP1.out HP6.out (Cp.put_away c _ _ _) hc5 hg5); have HK := hid (show w5.cell? ⟨m, 1, none⟩ = some (.int .i64 k) ∧ w5.cell? ⟨m, 3, none⟩ = some (.slice D J.length dc) from by obtain ⟨_, _, _, h9, _⟩ := J5.out.mm.ex; exact ⟨h9.cell 1, h9.cell 3⟩); clear hc5 hg5))
             all_goals go_wp2
             all_goals go_roundg (gk - 1)
             case measure => have := HDD.out; have := HLT.out; omega
             case rel => exact ⟨dd + 1, by have := HDD.out; have := HLT.out; omega, by go_num, by rw [HTK.out]; go_num, by rw [HP7.out, HFC.out]; exact J5⟩
         · obtain rfl : dd = nr := by have := HDD.out; omega
           have HCO := hid (show onF f dd C = onAll (fun c => c.put J.length k x) C from by rw [HNR.out, onF_all, HFE.out])
           have HTA := hid (show tookN k C dd = C.countP fun c => !c.away && decide (c.mark ≤ k) from by rw [HNR.out]; exact tookN_all)
           rw [HCO.out] at HD
           clear hdd hlt
           obtain ⟨sb2, A5, ca5, h1, h2, _, _⟩ := HD.out.mm.ex
           have z0 := h1.cell 0
           have z2 := h1.cell 2
           have z3 := h1.cell 3
           have z4 := h1.cell 4
           have f2 := h1.free 2
           have f4 := h1.free 4
           simp only [List.getElem?_toArray, List.getElem?_cons_zero, List.getElem?_cons_succ] at z0 z2 z3 z4
           generalize htk : tookN k C dd = tk at *
           go_wp2_with fail
           refine (mostF A5 L.length ca5 (tk : Nat) wr (by omega) (by omega)).mono ?_; rintro e w' ⟨rfl, rfl⟩
           by_cases hmt : L.length < 2 * tk
           · have g1 : decide ((L.length : Int) < 2 * (tk : Nat)) = true := decide_eq_true (by omega)
             have g2 : decide (L.length < 2 * tk) = true := decide_eq_true hmt
             have HQ := hid (show doM C k s J false x = (onAll (fun c => c.put J.length k x) C, (doL s x).1, J ++ [x], false, 0) from by
              unfold doM
              rw [if_neg (by simp), if_neg (by simpa using HZ.out), if_neg HJ2.out, if_neg (by rw [← HLEN.out, ← HNR.out]; simpa using (show L.length < 2 * dd from by have := HMO.out; rw [← HNR.out] at this; exact this)), if_neg (by rw [← HLEN.out, ← HTA.out]; simpa using hmt)])
             have HOW := hid (show (wr.setCell ⟨m, 2, none⟩ (.pointer (some ⟨nb, 0, none⟩))).ownsRow 0 9 1 (.slice D J.length dc) J.length (strV J) from own_grown HD.out.mm.own h1 (by decide) (setGrown wr ⟨m, 2, none⟩ _))
             have HM6 := hid (show MintB (wr.setCell ⟨m, 2, none⟩ (.pointer (some ⟨nb, 0, none⟩))) m (.slice A5 L.length ca5) k nb (.slice D J.length dc) false from h1.set 2 _)
             have hs6 : (wr.setCell ⟨m, 2, none⟩ (.pointer (some ⟨nb, 0, none⟩))).heap.size = wr.heap.size := by simp
             have HS6 := hid hs6
             have hj200 := HJ200.out
             clear hmt h1 h2 hs6
             go_wp2_with (at_builtin; refine push1L TS22 (wr.setCell ⟨m, 2, none⟩ (.pointer (some ⟨nb, 0, none⟩))) #[.string x] 0 _ _ _ HOW.out _ _ wr.heap.size HS6.out rfl rfl rfl rfl rfl (by simp [Value.oneCell']) (by omega) (by omega) (Nat.zero_le _) ?_; intro v1 w8 hown1 hgr hap; obtain ⟨D8, c8, rfl⟩ := own_form hown1; have HF := hid (HD.out.fin (n := 0) (J' := J ++ [x]) (d' := .slice D8 (J.length + 1) c8) (by rw [strV_snoc, List.length_append, List.length_singleton]; exact hown1) hgr (by rw [HS6.out] at hap; exact hap)); have HM8 := hid (HM6.out.grown hgr (own_ne_blk HOW.out HM6.out (by decide))); have q3 := HM8.out.cell 3; have f3 := HM8.out.free 3; simp only [List.getElem?_toArray, List.getElem?_cons_zero, List.getElem?_cons_succ] at q3; have HWD := hid (word_word (s := x) (by omega) _ (show MaxL (w8.setCell ⟨m, 3, none⟩ (.slice D8 (J.length + 1) c8)) from by obtain ⟨_, _, _, _, a3, _⟩ := HF.out; exact HEN.out.max.keep (a3.below HLO.out HLO.out.size (fun i hi => hi.elim (HLL.out i) (HFL.out i))))); clear hown1 hgr hap)
             refine (HWD.out).mono ?_; rintro e w' ⟨rest, ok, kk, rfl, rfl⟩
             have HF2 := hid (HF.out.below (below_drewN (Below.refl _ _) kk))
             clear HWD
             go_wp2
             go_ret2
             rw [HQ.out]
             exact ⟨⟨_, rfl⟩, HF2.out⟩
           · have g1 : decide ((L.length : Int) < 2 * (tk : Nat)) = false := decide_eq_false (by omega)
             have g2 : decide (L.length < 2 * tk) = false := decide_eq_false hmt
             have HQ := hid (show doM C k s J false x = (onAll (fun c => c.put J.length k x) C, s, J, true, 5) from by
              unfold doM
              rw [if_neg (by simp), if_neg (by simpa using HZ.out), if_neg HJ2.out, if_neg (by rw [← HLEN.out, ← HNR.out]; simpa using (show L.length < 2 * dd from by have := HMO.out; rw [← HNR.out] at this; exact this)), if_pos (by rw [← HLEN.out, ← HTA.out]; exact hmt)])
             clear hmt h1 h2
             go_wp2
             go_ret2
             rw [HQ.out]
             exact ⟨⟨_, rfl⟩, HD.out.gone⟩
      · have g1 : decide ((L.length : Int) < 2 * (reachN C : Nat)) = false := decide_eq_false (by omega)
        have g2 : decide (L.length < 2 * reachN C) = false := decide_eq_false hmo
        have HQ := hid (show doM C k s J false x = (C, s, J, false, 8) from by
         unfold doM
         rw [if_neg (by simp), if_neg (by simpa using HZ.out), if_neg HJ2.out, if_pos (by rw [← HLEN.out]; exact hmo)])
        clear hmo
        go_wp2
        go_ret2
        rw [HQ.out]
        exact ⟨⟨_, rfl⟩, HD.out.leave⟩
  · have HQ := hid (show doM C k s J false x = (C, s, J, false, (doL s x).2) from by
     unfold doM
     rw [if_neg (by simp), if_pos hz])
    have hz2 : ¬ (((doL s x).2 : Nat) : Int) = 0 := by omega
    obtain ⟨qn, hqn⟩ : ∃ qn, qn = (doL s x).2 := ⟨_, rfl⟩
    rw [← hqn] at hz2 HQ ⊢
    clear hz hqn
    go_wp2
    go_ret2
    rw [HQ.out]
    exact ⟨⟨_, rfl⟩, R, _, HM2.out, HC2.out, Chs.of_below B12.out, fun _ hi => .inl hi, fun _ hi => .inl hi⟩
end Go.Proofs.YtciadmjdadnolaaGreatDoor
/- Walk of the law's opened: a mint on three new copies that did some lines. Conditions: the lines are short of the shelf's bound; the library's variables stand. -/
namespace Go.Proofs.YtciadmjdadnolaaGreatDoor
open Go.RowKit Go.Maps
/-- A mint, its copies and the slice of them, all made behind w; kk: the copies' mark. -/
structure OpdS (w W : World) (K m : Nat) (A : Option Addr) (c : Nat) (L : List (Nat × Nat)) (kk : Int) (s : Bk) (J : List ByteArray) (C : List Cp) (out : Bool) : Prop where
 mm : ∃ R d, MinM W R m d L 1 s J out ∧ ∀ i, R i ∨ footM m d i → K ≤ i
 cps : CpsM W L C
 own : W.ownsRow w.heap.size 42 1 (.slice A 3 c) 3 (ptrs (L.map (·.1)))
 oldL : ∀ i, inL L i → w.heap.size ≤ i ∧ i < K
 oldA : ∀ g, (Value.slice A 3 c).ownBlock = some g → g < K
 low : Below w.heap.size w W
 wk : w.heap.size ≤ K
 kw : K ≤ W.heap.size
section
variable {w W W' : World} {K m : Nat} {A : Option Addr} {c : Nat} {L : List (Nat × Nat)} {kk : Int} {s s' : Bk} {J J' : List ByteArray} {C C' : List Cp} {out out' : Bool}
theorem own_notL {B : Nat} {n : Nat} {v : Value} {xs : List Value} (h : W.ownsRow B 42 1 v n xs) (hc : CpsM W L C) : ∀ g, v.ownBlock = some g → ¬ inL L g := fun g hg hi => by
 rcases hi with hi | hi
 · obtain ⟨p, hp, rfl⟩ := List.mem_map.1 hi
   obtain ⟨j, hj⟩ := List.getElem?_of_mem hp
   obtain ⟨cc, _, hcc⟩ := hc.at hj
   exact own_ne_blk h hcc.blk (by decide) hg.symm
 · obtain ⟨p, hp, rfl⟩ := List.mem_map.1 hi
   obtain ⟨j, hj⟩ := List.getElem?_of_mem hp
   obtain ⟨cc, _, hcc⟩ := hc.at hj
   exact own_ne_map h hcc.map hg.symm
theorem OpdS.below (h : OpdS w W K m A c L kk s J C out) (hb : Below W.heap.size W W') : OpdS w W' K m A c L kk s J C out := by
 obtain ⟨R, d, h1, h2⟩ := h.mm
 exact ⟨⟨R, d, h1.below hb, h2⟩, h.cps.below hb, own_below h.own hb, h.oldL, h.oldA, below_call h.low hb h.low.size, h.wk, Nat.le_trans h.kw hb.size⟩
/-- The mint did a line. -/
theorem OpdS.done {R : Nat → Prop} {d : Value} {q : List Cp × Bk × List ByteArray × Bool × Nat} (h : OpdS w W K m A c L kk s J C out) (hf : ∀ i, R i ∨ footM m d i → K ≤ i) (hd : DoneM W W' R m d L 1 q) : OpdS w W' K m A c L kk q.2.1 q.2.2.1 q.1 q.2.2.2.1 := by
 obtain ⟨R', d', h1, h2, h3, h4, h5⟩ := hd
 have hkw := h.kw
 have hwk := h.wk
 refine ⟨⟨R', d', h1, fun i hi => ?_⟩, h2, own_chsM h.own h3 (fun g hg e => ?_), h.oldL, h.oldA, h3.below h.low h.low.size (fun i hi => ?_), h.wk, Nat.le_trans h.kw h3.size⟩
 · rcases hi with hi | hi
   · rcases h4 i hi with hi | hi
     · exact hf i (.inl hi)
     · omega
   · rcases h5 i hi with hi | hi
     · exact hf i (.inr hi)
     · omega
 · rcases e with e | e
   · exact own_notL h.own h.cps g hg e
   · have := h.oldA g hg
     have := hf g (.inr e)
     omega
 · rcases hi with hi | hi
   · exact (h.oldL i hi).1
   · have := hf i (.inr hi)
     omega
/-- Another mint was opened on the copies. -/
theorem OpdS.opened (h : OpdS w W K m A c L kk s J C out) (hc : CpsM W' L C') (hs : Chs (inL L) W W') : OpdS w W' K m A c L kk s J C' out := by
 obtain ⟨R, d, h1, h2⟩ := h.mm
 refine ⟨⟨R, d, h1.chs hs (fun i hi e => ?_) (fun i hi e => ?_), h2⟩, hc, own_chsM h.own hs (own_notL h.own h.cps), h.oldL, h.oldA, hs.below h.low h.low.size (fun i hi => (h.oldL i hi).1), h.wk, Nat.le_trans h.kw hs.size⟩
 · have := h2 i (.inl hi)
   have := (h.oldL i e).2
   omega
 · have := h2 i (.inr hi)
   have := (h.oldL i e).2
   omega
/-- What Do asks of the mint. -/
theorem OpdS.doG (x : ByteArray) (h : OpdS w W K m A c L kk s J C out) (hen : EnvN w) (hT : Tab w) (hJ : J.length ≤ 200) (hb : BkI s) (hx : x.size ≤ 100000000) :
 Calls Tryz.prog 8 #[.pointer (some ⟨m, 0, none⟩), .string x] W fun r W' => (∃ word, r = .returned (.tuple #[.string word, .int .i64 ((doM C 1 s J out x).2.2.2.2 : Nat)])) ∧ OpdS w W' K m A c L kk (doM C 1 s J out x).2.1 (doM C 1 s J out x).2.2.1 (doM C 1 s J out x).1 (doM C 1 s J out x).2.2.2.1 := by
 obtain ⟨R, d, h1, h2⟩ := h.mm
 have hlen : L.length = 3 := by have := h.own.1; simpa [ptrs] using this
 have hwk := h.wk
 refine (Go.Proofs.YtciadmjdadnolaaGreatDoor.doG w W R m d L C 1 s J out x h.low hen hT h1 h.cps (fun i hi => ⟨fun hr => ?_, fun hr => ?_⟩) hJ hb hx (by omega) (by omega) (by omega) (fun i hi => (h.oldL i hi).1) (fun i hi => ?_)).mono fun r W' ⟨a, b⟩ => ⟨a, h.done h2 b⟩
 · have := h2 i (.inl hr)
   have := (h.oldL i hi).2
   omega
 · have := h2 i (.inr hr)
   have := (h.oldL i hi).2
   omega
 · have := h2 i (.inr hi)
   omega
end
end Go.Proofs.YtciadmjdadnolaaGreatDoor
/- What the rows' condition and the world's shape give state.do: the library's variables of numbers. No condition. -/
namespace Go.Proofs.YtciadmjdadnolaaGreatDoor
open Go Go.ChangeShapes Go.WideShapes Go.ChangeAt Go.RowKit
set_option maxRecDepth 100000 in
theorem pow_is : (Rows.laid_internal_strconv_uint64pow10 : DataW Unit) = Lib.tabData .u64 Lib.pow10Tab := by kernel_rfl
theorem tPow : (Tryz.prog.globals[3]?).map (·.type) = some 324 := by kernel_rfl
theorem gRng : Tryz.prog.globalNamed "strconv.ErrRange" = some 2 := by kernel_rfl
theorem gSyn : Tryz.prog.globalNamed "strconv.ErrSyntax" = some 1 := by kernel_rfl
theorem tRng : (Tryz.prog.globals[2]?).map (·.type) = some 116 := by kernel_rfl
theorem tSyn : (Tryz.prog.globals[1]?).map (·.type) = some 116 := by kernel_rfl
theorem starE : "*errors.errorString" = "*" ++ "errors.errorString" := by decide
theorem rowE (u : TypeId) (h : Tryz.prog.typeName? 3 u = some "*errors.errorString") : u = 320 :=
 typeName_ptr_named (nm := "errors.errorString") (by rw [starE.symm]; kernel_rfl) (by kernel_rfl) (by decide) u (by rw [starE.symm]; exact h)
theorem var_cell {W : World} {n : String} {g : Nat} {v : Value} (hg : Tryz.prog.globalNamed n = some g) (h : W.var? Tryz.prog n = some #[v]) : W.cell? ⟨g, 0, none⟩ = some v := by
 unfold World.var? at h
 rw [hg] at h
 simp only [Option.bind_some] at h
 cases hw : W.heap[g]? with
 | none => rw [hw] at h; cases h
 | some o =>
  rw [hw] at h
  cases o with
  | cells cs t f =>
   simp only [Option.some.injEq] at h
   subst h
   simp [World.cell?, hw]
  | _ => cases h
set_option maxRecDepth 100000 in
theorem env_of {W : World} (hL : laidMetH Tryz.prog laid W) (hsh : W.ShapedOpen Tryz.prog) : EnvN W := by
 rw [laid_plain] at hL
 have h2 : laidMet Tryz.prog (("internal/strconv.uint64pow10", Lib.tabData .u64 Lib.pow10Tab) :: laidRest.tail) W := by
  rw [← pow_is]
  exact hL.tail.tail
 have h4 := h2.tail.tail
 refine ⟨of_shape hsh, Lib.tabIs_of_head gPow tPow Tryz.underlying324 Tryz.underlying235 (by kernel_rfl) (by kernel_rfl) h2, ?_, ?_⟩
 · obtain ⟨a, s, hv, _⟩ := laid_sentinel h4.tail gSyn tSyn Tryz.underlying116 rowE Tryz.underlying320 Tryz.underlying322 rfl rfl Tryz.underlying9 (by kernel_rfl) (by kernel_rfl)
   exact ⟨_, var_cell gSyn hv, .inr ⟨_, _, rfl⟩⟩
 · obtain ⟨a, s, hv, _⟩ := laid_sentinel h4 gRng tRng Tryz.underlying116 rowE Tryz.underlying320 Tryz.underlying322 rfl rfl Tryz.underlying9 (by kernel_rfl) (by kernel_rfl)
   exact ⟨_, var_cell gRng hv, .inr ⟨_, _, rfl⟩⟩
section
variable {H : Type}
theorem bulk_part {d : DataW H} {l : List (DataW H)} (h : d ∈ l) : Rows.uptoBulk d ≤ Rows.uptoBulkAll l := by
 induction l with
 | nil => cases h
 | cons x r ih =>
  simp only [Rows.uptoBulkAll]
  cases List.mem_cons.1 h with
  | inl e => subst e; omega
  | inr e => have := ih e; omega
theorem bulk_str {s : ByteArray} {l : List (DataW H)} (h : DataW.lit (.string s.data.toList) ∈ l) (hb : Rows.uptoBulkAll l ≤ 1048576) : s.size ≤ 1048576 := by
 have h1 := bulk_part h
 have h2 : Rows.uptoBulk (DataW.lit (H := H) (.string s.data.toList)) = s.data.toList.length + 1 := by simp [Rows.uptoBulk]
 have e : s.data.toList.length = s.size := by rw [Array.length_toList]; rfl
 omega
variable {enc : TypeId × Value → H} {P : Program} {w : World} {base : Nat} {spare : Nat → Bool} {held : Bool}
end
end Go.Proofs.YtciadmjdadnolaaGreatDoor
/- Slices of acts. No condition. -/
namespace Go.Proofs.YtciadmjdadnolaaGreatDoor
open Go.RowKit Go.Maps Go.ChangeShapes Go.WideShapes Go.ChangeMaps Go.Deep
/-- An act. -/
structure Ac where
 kind : Int
 n : Int
 m : Int
 i : Int
 line : ByteArray
def ac (ts : List Ac) (r : Nat) : Ac := ts.getD r ⟨0, 0, 0, 0, ByteArray.empty⟩
theorem ac_of {ts : List Ac} {r : Nat} {u : Ac} (h : ts[r]? = some u) : ac ts r = u := by simp [ac, h]
/-- A slice of acts that reads as ts. -/
structure Sl5 (w : World) (A : Option Addr) (n c : Nat) (ts : List Ac) : Prop where
 len : ts.length = n
 cap : n ≤ c
 capm : c ≤ maxLen
 pos : 0 < n → ∃ b o, A = some ⟨b, o, none⟩ ∧ b < w.heap.size ∧ ∀ (j : Nat) (u : Ac), ts[j]? = some u → w.cell? ⟨b, o + j * 5, none⟩ = some (.int .i64 u.kind) ∧ w.cell? ⟨b, o + (j * 5 + 1), none⟩ = some (.int .i64 u.n) ∧ w.cell? ⟨b, o + (j * 5 + 2), none⟩ = some (.int .i64 u.m) ∧ w.cell? ⟨b, o + (j * 5 + 3), none⟩ = some (.int .i64 u.i) ∧ w.cell? ⟨b, o + (j * 5 + 4), none⟩ = some (.string u.line)
section
variable {w w' : World} {A : Option Addr} {n c : Nat} {ts : List Ac}
theorem Sl5.below (h : Sl5 w A n c ts) (hb : Below w.heap.size w w') : Sl5 w' A n c ts :=
 ⟨h.len, h.cap, h.capm, fun hn => by
  obtain ⟨b, o, e, hl, hc⟩ := h.pos hn
  refine ⟨b, o, e, by have := hb.size; omega, fun j u hu => ?_⟩
  obtain ⟨h0, h1, h2, h3, h4⟩ := hc j u hu
  exact ⟨cell_keep hb h0, cell_keep hb h1, cell_keep hb h2, cell_keep hb h3, cell_keep hb h4⟩⟩
theorem Sl5.at (h : Sl5 w A n c ts) {k : Nat} (hk : k < n) : ∃ b o, A = some ⟨b, o, none⟩ ∧ b < w.heap.size ∧ w.cell? ⟨b, o + k * 5, none⟩ = some (.int .i64 (ac ts k).kind) ∧ w.cell? ⟨b, o + k * 5 + 1, none⟩ = some (.int .i64 (ac ts k).n) ∧ w.cell? ⟨b, o + k * 5 + 2, none⟩ = some (.int .i64 (ac ts k).m) ∧ w.cell? ⟨b, o + k * 5 + 3, none⟩ = some (.int .i64 (ac ts k).i) ∧ w.cell? ⟨b, o + k * 5 + 4, none⟩ = some (.string (ac ts k).line) := by
 obtain ⟨b, o, e, hb, hc⟩ := h.pos (by omega)
 have hl : k < ts.length := by have := h.len; omega
 have e2 : ac ts k = ts[k] := ac_of (List.getElem?_eq_getElem hl)
 have hx : ts[k]? = some (ac ts k) := by rw [e2]; exact List.getElem?_eq_getElem hl
 obtain ⟨h0, h1, h2, h3, h4⟩ := hc k _ hx
 exact ⟨b, o, e, hb, h0, h1, h2, h3, h4⟩
theorem Sl5.take (h : Sl5 w A n c ts) (k : Nat) (hk : k ≤ n) : Sl5 w A k c (ts.take k) :=
 ⟨by rw [List.length_take, h.len]; omega, by have := h.cap; omega, h.capm, fun hn => by
  obtain ⟨b, o, e, hb, hc⟩ := h.pos (by omega)
  exact ⟨b, o, e, hb, fun j u hu => hc j u (by
   rw [List.getElem?_take] at hu
   split at hu
   · exact hu
   · cases hu)⟩⟩
end
section
variable {H : Type} {enc : TypeId × Value → H} {P : Program} {w : World} {base : Nat} {spare : Nat → Bool} {held : Bool}
end
end Go.Proofs.YtciadmjdadnolaaGreatDoor
/- A slice of acts that came in, short by the bulk. No condition. -/
namespace Go.Proofs.YtciadmjdadnolaaGreatDoor
open Go Go.ChangeShapes Go.WideShapes Go.ChangeAt Go.RowKit Go.Deep
section
variable {H : Type} {enc : TypeId × Value → H} {P : Program} {w : World} {base : Nat} {spare : Nat → Bool} {held : Bool}
theorem open_acts2 {t e i st : TypeId} {fs : Array Field} {fuel : Nat} {cs : List Value} {x : DataW H × List MemPlace} (ht : P.underlying t = some (.slice e)) (he : P.underlying e = some (.struct fs)) (hi : P.underlying i = some (.int .i64)) (hst : P.underlying st = some .string)
 (hf : ∀ j, j < 5 → ∃ f, fs[j]? = some f ∧ f.type = (if j < 4 then i else st) ∧ f.offset = j ∧ P.cellsOf f.type = 1) (hc2 : P.cellsOf e = 5) (hsp : ∀ k, spare k = true)
 (h : DataW.trod enc P w base spare held fuel t cs = some x) (hk : Rows.uptoBulk x.1 ≤ 1048576) :
 ∃ (A : Option Addr) (len cap : Nat) (xs : List Ac), cs = [.slice A len cap] ∧ Sl5 w A len cap xs ∧ ∀ u ∈ xs, u.line.size ≤ 100000000 := by
 rcases open_slice ht h with ⟨rfl, _⟩ | ⟨a, len, cap, m, n, D, Pl, rfl, hb, hl, hm, hmm, hx, hi'⟩
 · exact ⟨none, 0, 0, [], rfl, ⟨rfl, Nat.le_refl _, Nat.zero_le _, fun h => absurd h (by omega)⟩, fun u hu => by simp at hu⟩
 · rw [hsp, if_pos rfl] at hmm
   subst hmm
   have each : ∀ k, k < len → ∃ u : Ac, w.cell? (a.add (k * 5)) = some (.int .i64 u.kind) ∧ w.cell? (a.add (k * 5 + 1)) = some (.int .i64 u.n) ∧ w.cell? (a.add (k * 5 + 2)) = some (.int .i64 u.m) ∧ w.cell? (a.add (k * 5 + 3)) = some (.int .i64 u.i) ∧ w.cell? (a.add (k * 5 + 4)) = some (.string u.line) ∧ u.line.size ≤ 100000000 := by
    intro k hk2
    obtain ⟨cs', hcs, ht'⟩ := hi' k (by omega)
    rw [hc2] at hcs
    obtain ⟨_, hcl, hat⟩ := World.cells?_some hcs
    obtain ⟨ys, n', hn', hyD, hlen, hyl, hfd⟩ := DataW.trod_struct he ht'
    have e0 := hat 0 (by omega)
    have e1 := hat 1 (by omega)
    have e2 := hat 2 (by omega)
    have e3 := hat 3 (by omega)
    have e4 := hat 4 (by omega)
    obtain ⟨c0, c1, c2, c3, c4, rfl⟩ : ∃ c0 c1 c2 c3 c4, cs' = [c0, c1, c2, c3, c4] := by
     match cs', hcl with
     | [c0, c1, c2, c3, c4], _ => exact ⟨c0, c1, c2, c3, c4, rfl⟩
    have key : ∀ (j : Nat) (v : Value), j < 5 → [c0, c1, c2, c3, c4][j]? = some v → ∃ y, DataW.trod enc P w base spare held n' (if j < 4 then i else st) [v] = some y ∧ ys[j]? = some y := by
     intro j v hj hv
     obtain ⟨f, hf1, hf2, hf3, hf4⟩ := hf j hj
     have h1 := hfd j f hf1
     rw [hf3, hf4] at h1
     have hd : ([c0, c1, c2, c3, c4].drop j).take 1 = [v] := by
      match j, hj, hv with
      | 0, _, hv => simpa using hv
      | 1, _, hv => simpa using hv
      | 2, _, hv => simpa using hv
      | 3, _, hv => simpa using hv
      | 4, _, hv => simpa using hv
     rw [hd] at h1
     have hjl : j < ys.length := by rw [hyl]; exact (Array.getElem?_eq_some_iff.1 hf1).1
     rw [← hf2]
     exact ⟨ys[j], by rw [← List.getElem?_eq_getElem hjl]; exact h1, List.getElem?_eq_getElem hjl⟩
    have ints : ∀ (j : Nat) (v : Value), j < 4 → [c0, c1, c2, c3, c4][j]? = some v → ∃ z : Int, v = .int .i64 z := by
     intro j v hj hv
     obtain ⟨y, hy2, _⟩ := key j v (by omega) hv
     rw [if_pos hj] at hy2
     obtain ⟨n0, h0, _, _⟩ := DataW.trod_int hi hy2
     simp at h0
     exact ⟨n0, h0⟩
    obtain ⟨z0, rfl⟩ := ints 0 c0 (by omega) rfl
    obtain ⟨z1, rfl⟩ := ints 1 c1 (by omega) rfl
    obtain ⟨z2, rfl⟩ := ints 2 c2 (by omega) rfl
    obtain ⟨z3, rfl⟩ := ints 3 c3 (by omega) rfl
    obtain ⟨y, hy3, hy4⟩ := key 4 c4 (by omega) rfl
    rw [if_neg (by omega)] at hy3
    obtain ⟨s, hs0, hs1, _⟩ := DataW.trod_string hst hy3
    simp at hs0
    subst hs0
    have hsz : s.size ≤ 100000000 := by
     have m1 : D k ∈ (List.range len).map D := List.mem_map.2 ⟨k, List.mem_range.2 hk2, rfl⟩
     have b1 := bulk_part m1
     have hk3 := hk
     rw [hx] at hk3
     simp only [Rows.uptoBulk] at hk3
     have b3 : D k = .agg (ys.map (·.1)) := congrArg Prod.fst hyD
     rw [b3] at b1
     simp only [Rows.uptoBulk] at b1
     have m2 : DataW.lit (.string s.data.toList) ∈ ys.map (·.1) := by
      rw [hs1] at hy4
      exact List.mem_map.2 ⟨_, List.mem_of_getElem? hy4, rfl⟩
     have := bulk_str m2 (by omega)
     omega
    refine ⟨⟨z0, z1, z2, z3, s⟩, ?_, ?_, ?_, ?_, ?_, hsz⟩
    · rw [Go.Deep.add_add] at e0; simpa using e0
    · rw [Go.Deep.add_add] at e1; simpa using e1
    · rw [Go.Deep.add_add] at e2; simpa using e2
    · rw [Go.Deep.add_add] at e3; simpa using e3
    · rw [Go.Deep.add_add] at e4; simpa using e4
   by_cases h0 : len = 0
   · subst h0
     exact ⟨some a, 0, m, [], rfl, ⟨rfl, Nat.zero_le _, hm, fun h => absurd h (by omega)⟩, fun u hu => by simp at hu⟩
   · have hs : a.spot = none := by
      obtain ⟨u, hu, _⟩ := each 0 (by omega)
      unfold World.cell? Addr.add at hu
      simp at hu
      split at hu
      · rename_i hs
        by_cases e : a.spot.isSome
        · simp [e] at hu
        · cases hsp' : a.spot
          · rfl
          · simp [hsp'] at e
      · cases hu
     obtain ⟨b, o, sp⟩ := a
     simp at hs
     subst hs
     have hadd : ∀ j, (⟨b, o, none⟩ : Addr).add j = ⟨b, o + j, none⟩ := fun j => by unfold Addr.add; split <;> simp_all
     have each2 : ∀ k : Nat, ∃ u : Ac, u.line.size ≤ 100000000 ∧ (k < len → w.cell? ⟨b, o + k * 5, none⟩ = some (.int .i64 u.kind) ∧ w.cell? ⟨b, o + (k * 5 + 1), none⟩ = some (.int .i64 u.n) ∧ w.cell? ⟨b, o + (k * 5 + 2), none⟩ = some (.int .i64 u.m) ∧ w.cell? ⟨b, o + (k * 5 + 3), none⟩ = some (.int .i64 u.i) ∧ w.cell? ⟨b, o + (k * 5 + 4), none⟩ = some (.string u.line)) := by
      intro k
      by_cases hk : k < len
      · obtain ⟨u, h1, h2, h3, h4, h5, h6⟩ := each k hk
        rw [hadd] at h1 h2 h3 h4 h5
        exact ⟨u, h6, fun _ => ⟨h1, h2, h3, h4, h5⟩⟩
      · exact ⟨⟨0, 0, 0, 0, ByteArray.empty⟩, Nat.zero_le _, fun h => absurd h hk⟩
     obtain ⟨U, hU⟩ := Classical.axiomOfChoice each2
     refine ⟨_, _, _, (List.range len).map U, rfl, ⟨by simp, hl, hm, fun _ => ⟨b, o, rfl, ?_, fun j u hu => ?_⟩⟩, fun u hu => by obtain ⟨i, _, rfl⟩ := List.mem_map.1 hu; exact (hU i).1⟩
     · exact World.block_lt_of_cell? w ⟨b, o + 0 * 5, none⟩ ((hU 0).2 (by omega)).1
     · have hj : j < len := by have := (List.getElem?_eq_some_iff.1 hu).1; simpa using this
       have e : u = U j := by simpa [hj] using hu.symm
       subst e
       exact (hU j).2 hj
end
end Go.Proofs.YtciadmjdadnolaaGreatDoor
