/- Texts of this proof, one behind the other; each says its condition at its head. -/
import Derived.Test.YtnibidmlkbcfkaaGreatDoorT28
import Derived.Test.YtnibidmlkbcfkaaGreatDoorT29
import Derived.Test.YtnibidmlkbcfkaaGreatDoorT4
import Derived.Test.YtnibidmlkbcfkaaGreatDoorT5
import Derived.Stop.LaidErr
import Derived.Deep.Strs
import Derived.Deep.DeepHandedRow
import Derived.Test.YtnibidmlkbcfkaaGreatDoorT25
import Derived.Test.YtnibidmlkbcfkaaGreatDoorT26
namespace Go.Proofs.YtnibidmlkbcfkaaGreatDoor
/- Walk of a mint's Do at any line. Conditions: the mint and its copies lie in memory, apart; the library's variables stand; the text is short of the shelf's bound. -/
section
open Go.RowKit Go.Maps
set_option maxRecDepth 100000 in
set_option maxHeartbeats 4000000 in
theorem doGW (w0 w : World) (R : Nat → Prop) (m : Nat) (d : Value) (L : List (Nat × Nat)) (C : List Cp) (k : Int) (s : Bk) (J : List ByteArray) (out : Bool) (x : ByteArray) (hlow : Below w0.heap.size w0 w) (he : EnvN w0) (hT : Tab w0)
 (hm : MinM w R m d L k s J out) (hc : CpsM w L C) (hap : ∀ i, inL L i → ¬ R i ∧ ¬ footM m d i) (hJ : J.length ≤ 200) (hb : BkI s) (hx : x.size ≤ 100000000) (hk0 : 0 ≤ k) (hk1 : k ≤ 1000000000) (hn : L.length ≤ 1000)
 (hLlow : ∀ i, inL L i → w0.heap.size ≤ i) (hflow : ∀ i, footM m d i → w0.heap.size ≤ i) :
 Calls Tryz.prog 27 #[.pointer (some ⟨m, 0, none⟩), .string x] w fun r w' => (∃ word, r = .returned (.tuple #[.string word, .int .i64 ((doM C k s J out x).2.2.2.2 : Nat)]) ∧ ((doM C k s J out x).2.2.2.2 = 0 → word = wordOf x)) ∧ DoneM w w' R m d L k (doM C k s J out x) := by
 obtain ⟨D, dc, hd⟩ := own_form hm.own
 subst hd
 obtain ⟨sb, A, ca, h1, h2, h3, h4⟩ := hm.ex
 have HN := hid (mintNone m _ k sb _ out w h1)
 have g2 := h1.cell 2
 have g4 := h1.cell 4
 simp only [List.getElem?_toArray, List.getElem?_cons_zero, List.getElem?_cons_succ] at g2 g4
 have HMM := hid hm
 have HC := hid hc
 have HAP := hid hap
 have HB := hid hb
 have HJ := hid hJ
 have HLO := hid hlow
 cases out with
 | true =>
  have HQ := hid (show doM C k s J true x = (C, s, J, true, 5) from by unfold doM; rw [if_pos rfl])
  clear hm hc hap hJ hb hlow he hT hLlow hflow h1 h2 h3 h4
  go_enter Tryz.func27, Tryz.ntmps27
  go_wp2_with fail
  refine (HN.out).mono ?_; rintro e w' ⟨rfl, rfl⟩
  go_wp2
  go_ret2
  rw [HQ.out]
  exact ⟨⟨_, rfl, fun h => by cases h⟩, R, _, HMM.out, HC.out, Chs.refl _ _, fun _ hi => .inl hi, fun _ hi => .inl hi⟩
 | false =>
  have HDO := hid (doF R sb s x w hb hx (he.keep hlow) (hT.below hlow) h3)
  have HEN := hid he
  have HLL := hid hLlow
  have HFL := hid hflow
  have hlen : L.length = C.length := hc.len
  have HLEN := hid hlen
  clear hm hc hap hJ hb hlow he hT hLlow hflow h1 h2 h3 h4 hlen
  go_enter Tryz.func27, Tryz.ntmps27
  go_wp2_with fail
  refine (HN.out).mono ?_; rintro e w' ⟨rfl, rfl⟩
  go_wp2_with fail
  refine (HDO.out).mono ?_; rintro e w1 hdr
  obtain ⟨nb, rfl, hst', b1⟩ := DoR.form hdr
  have HST := hid hst'
  have HM1 := hid (HMM.out.below b1)
  have HC1 := hid (HC.out.below b1)
  have B1 := hid b1
  clear hdr hst' b1 HDO HN g2 g4
  obtain ⟨sb1, A1, ca1, h1, h2, _, _⟩ := HM1.out.ex
  have d0 := h1.cell 0
  simp only [List.getElem?_toArray, List.getElem?_cons_zero] at d0
  have hzip : (((L.zip C).map fun q => (q.1.1, q.2.away)).map (·.1)) = L.map (·.1) := by
   rw [List.map_map]
   conv => rhs; rw [← List.map_fst_zip (l₁ := L) (l₂ := C) (by rw [HLEN.out]; exact Nat.le_refl _), List.map_map]
   rfl
  have HIR := hid (inReachF A1 L.length ca1 ((L.zip C).map fun q => (q.1.1, q.2.away)) w1 (by omega) (by rw [hzip]; exact h2) (fun q hq => by
   obtain ⟨z, hz, rfl⟩ := List.mem_map.1 hq
   obtain ⟨i, hi⟩ := List.getElem?_of_mem hz
   rw [List.getElem?_zip_eq_some] at hi
   have h := (HC1.out.cp i z.1 z.2 hi.1 hi.2).blk.cell 2
   simpa using h))
  rw [show onL ((L.zip C).map fun q => (q.1.1, q.2.away)) = onB L C from rfl, onB_len HLEN.out] at HIR
  clear h1 h2 hzip
  go_wp2_with fail
  refine (HIR.out).mono ?_; rintro e w2 ⟨A2, c2, rfl, ho2, b2⟩
  have HM2 := hid (HM1.out.below b2)
  have HC2 := hid (HC1.out.below b2)
  have B2 := hid b2
  have B12 := hid (below_call B1.out b2 B1.out.size)
  have HO2 := hid ho2
  clear b2 ho2 d0 HIR
  by_cases hz : (doL s x).2 = 0
  · obtain ⟨v1, v2, v3, v4, v5, hst⟩ := HST.out hz
    have HD := hid (show DoH w w2 w1.heap.size R m (.slice D J.length dc) L k s J C nb (doL s x).1 (reachN C) (.slice A2 (reachN C) c2) from
     ⟨HM2.out, HC2.out, hst.read.below B2.out, ⟨B1.out.size, B2.out.size⟩, HO2.out, Chs.of_below B12.out, HAP.out, fun i hi => by
      rcases hi with hi | hi | hi
      · exact HC.out.lt hi
      · exact HMM.out.foot_lt hi
      · exact HMM.out.lt i hi⟩)
    have HXS := hid (doL_size hz)
    have HZ := hid hz
    rw [hz]
    obtain ⟨wk, hwk⟩ : ∃ wk, wk = w1.heap.size := ⟨_, rfl⟩
    rw [← hwk] at HD
    clear hst hz HST HM1 HC1 B1 HM2 HC2 B2 HO2 B12 hwk
    obtain ⟨sb2, A3, ca3, h1, h2, _, _⟩ := HD.out.mm.ex
    have z3 := h1.cell 3
    have z0 := h1.cell 0
    simp only [List.getElem?_toArray, List.getElem?_cons_zero, List.getElem?_cons_succ] at z0 z3
    by_cases hj : J.length = 200
    · have HQ := hid (show doM C k s J false x = (C, s, J, false, 7) from by
       unfold doM
       rw [if_neg (by simp), if_neg (by simpa using HZ.out), if_pos hj])
      have q1 : ((J.length : Int) == 200) = true := by rw [beq_iff_eq]; omega
      have q2 : (J.length == 200) = true := by rw [beq_iff_eq]; exact hj
      clear h1 h2 hj
      go_wp2
      go_ret2
      rw [HQ.out]
      exact ⟨⟨_, rfl, fun h => by cases h⟩, HD.out.leave⟩
    · have HJ2 := hid hj
      have q1 : ((J.length : Int) == 200) = false := by rw [beq_eq_false_iff_ne]; omega
      have q2 : (J.length == 200) = false := by rw [beq_eq_false_iff_ne]; exact hj
      have HRN := hid (show reachN C ≤ L.length from by rw [HLEN.out]; unfold reachN; exact List.countP_le_length)
      have hrn := HRN.out
      clear h1 h2 hj
      go_wp2_with fail
      refine (mostF A3 L.length ca3 (reachN C : Nat) w2 (by omega) (by omega)).mono ?_; rintro e w' ⟨rfl, rfl⟩
      by_cases hmo : L.length < 2 * reachN C
      · have g1 : decide ((L.length : Int) < 2 * (reachN C : Nat)) = true := decide_eq_true (by omega)
        have g2 : decide (L.length < 2 * reachN C) = true := decide_eq_true hmo
        have HMO := hid hmo
        clear z0 z3 q1 q2 hmo
        go_wp2
        clear g1 g2
        obtain ⟨f, hf⟩ : ∃ f : Cp → Cp, f = fun c => c.put J.length k x := ⟨_, rfl⟩
        have HFE := hid hf
        have HFA := hid (show ∀ c, (f c).away = c.away from fun c => by rw [hf]; exact Cp.put_away c _ _ _)
        have HJ200 := hid (show J.length < 200 from by have := HJ.out; have := HJ2.out; omega)
        clear hf
        obtain ⟨nr, hnr⟩ : ∃ nr, nr = reachN C := ⟨_, rfl⟩
        rw [← hnr] at HD hrn ⊢
        have HNR := hid hnr
        clear hnr
        go_loopg [9, 59] nr (fun gk v i wr => ∃ dd : Nat, gk + dd = nr ∧ i = .int .i64 dd ∧ v = .int .i64 (tookN k C dd : Nat) ∧ Hid (DoH w wr wk R m (.slice D J.length dc) L k s J (onF f dd C) nb (doL s x).1 nr (.slice A2 nr c2)))
        case atStart => exact ⟨0, by omega, rfl, rfl, by rw [onF_zero]; exact HD⟩
        case round =>
         clear HD
         obtain ⟨dd, hdd, rfl, rfl, HD⟩ := hrel
         have HDD := hid hdd
         have htl := tookN_le (k := k) (C := C) (d := dd)
         by_cases hlt : dd < nr
         · have HLT := hid hlt
           obtain ⟨b2, o2, u2, hA2, lb2, e2, ca2⟩ := (Sl.of_own HD.out.own2).at hlt
           subst hA2
           obtain ⟨y, hy, rfl⟩ := ptrs_at e2
           rw [onB_away (onF_away f HFA.out dd C)] at hy
           obtain ⟨i, p, c, p1, rfl, p3, p4, p5, p6, p7⟩ := onB_at f HLEN.out hy
           have hcp := (HD.out.below (Below.refl _ wr).drew).cps.cp i p c p1 p6
           have HPU := hid (putC J.length k x p c wr.drew hcp p4 HJ200.out hk0 hk1 HXS.out)
           have HP1 := hid p1
           have HP6 := hid p6
           have HP7 := hid p7
           have HTK := hid (tookN_succ (k := k) p5)
           obtain ⟨sb2, A5, ca5, h1, h2, _, _⟩ := HD.out.mm.ex
           have z1 := h1.cell 1
           have z3 := h1.cell 3
           simp only [List.getElem?_toArray, List.getElem?_cons_zero, List.getElem?_cons_succ] at z1 z3
           clear hdd hlt hy e2 lb2 hcp p1 p3 p4 p5 p6 p7 h1 h2
           by_cases hkm : k < c.mark
           · rw [if_pos hkm] at HPU HTK
             have HFC := hid (show f c = c.put J.length k x from by rw [HFE.out])
             clear hkm
             go_wp2_with fail
             go_region_held3 (fun w' => w'.cell? ⟨m, 1, none⟩ = some (.int .i64 k) ∧ w'.cell? ⟨m, 3, none⟩ = some (.slice D J.length dc)) (first | assumption | (exact ⟨z1, z3⟩) | (exact HK.out)) (first
              | (go_at_call 56; refine (HPU.out).mono ?_; rintro e w5 ⟨rfl, hc5, hg5⟩; have J5 := hid ((HD.out.below (Below.refl _ wr).drew).copy HP1.out HP6.out (Cp.put_away c _ _ _) hc5 hg5); have HK := hid (show w5.cell? ⟨m, 1, none⟩ = some (.int .i64 k) ∧ w5.cell? ⟨m, 3, none⟩ = some (.slice D J.length dc) from by obtain ⟨_, _, _, h9, _⟩ := J5.out.mm.ex; exact ⟨h9.cell 1, h9.cell 3⟩); clear hc5 hg5))
             all_goals go_wp2
             all_goals go_roundg (gk - 1)
             case measure => have := HDD.out; have := HLT.out; omega
             case rel => exact ⟨dd + 1, by have := HDD.out; have := HLT.out; omega, by go_num, by rw [HTK.out, Nat.add_zero], by rw [HP7.out, HFC.out]; exact J5⟩
           · rw [if_neg hkm] at HPU HTK
             have HFC := hid (show f c = c.put J.length k x from by rw [HFE.out])
             clear hkm
             go_wp2_with fail
             go_region_held3 (fun w' => w'.cell? ⟨m, 1, none⟩ = some (.int .i64 k) ∧ w'.cell? ⟨m, 3, none⟩ = some (.slice D J.length dc)) (first | assumption | (exact ⟨z1, z3⟩) | (exact HK.out)) (first
              | (go_at_call 56; refine (HPU.out).mono ?_; rintro e w5 ⟨rfl, hc5, hg5⟩; have J5 := hid ((HD.out.below (Below.refl _ wr).drew).copy HP1.out HP6.out (Cp.put_away c _ _ _) hc5 hg5); have HK := hid (show w5.cell? ⟨m, 1, none⟩ = some (.int .i64 k) ∧ w5.cell? ⟨m, 3, none⟩ = some (.slice D J.length dc) from by obtain ⟨_, _, _, h9, _⟩ := J5.out.mm.ex; exact ⟨h9.cell 1, h9.cell 3⟩); clear hc5 hg5))
             all_goals go_wp2
             all_goals go_roundg (gk - 1)
             case measure => have := HDD.out; have := HLT.out; omega
             case rel => exact ⟨dd + 1, by have := HDD.out; have := HLT.out; omega, by go_num, by rw [HTK.out]; go_num, by rw [HP7.out, HFC.out]; exact J5⟩
         · obtain rfl : dd = nr := by have := HDD.out; omega
           have HCO := hid (show onF f dd C = onAll (fun c => c.put J.length k x) C from by rw [HNR.out, onF_all, HFE.out])
           have HTA := hid (show tookN k C dd = C.countP fun c => !c.away && decide (c.mark ≤ k) from by rw [HNR.out]; exact tookN_all)
           rw [HCO.out] at HD
           clear hdd hlt
           obtain ⟨sb2, A5, ca5, h1, h2, _, _⟩ := HD.out.mm.ex
           have z0 := h1.cell 0
           have z2 := h1.cell 2
           have z3 := h1.cell 3
           have z4 := h1.cell 4
           have f2 := h1.free 2
           have f4 := h1.free 4
           simp only [List.getElem?_toArray, List.getElem?_cons_zero, List.getElem?_cons_succ] at z0 z2 z3 z4
           generalize htk : tookN k C dd = tk at *
           go_wp2_with fail
           refine (mostF A5 L.length ca5 (tk : Nat) wr (by omega) (by omega)).mono ?_; rintro e w' ⟨rfl, rfl⟩
           by_cases hmt : L.length < 2 * tk
           · have g1 : decide ((L.length : Int) < 2 * (tk : Nat)) = true := decide_eq_true (by omega)
             have g2 : decide (L.length < 2 * tk) = true := decide_eq_true hmt
             have HQ := hid (show doM C k s J false x = (onAll (fun c => c.put J.length k x) C, (doL s x).1, J ++ [x], false, 0) from by
              unfold doM
              rw [if_neg (by simp), if_neg (by simpa using HZ.out), if_neg HJ2.out, if_neg (by rw [← HLEN.out, ← HNR.out]; simpa using (show L.length < 2 * dd from by have := HMO.out; rw [← HNR.out] at this; exact this)), if_neg (by rw [← HLEN.out, ← HTA.out]; simpa using hmt)])
             have HOW := hid (show (wr.setCell ⟨m, 2, none⟩ (.pointer (some ⟨nb, 0, none⟩))).ownsRow 0 9 1 (.slice D J.length dc) J.length (strV J) from own_grown HD.out.mm.own h1 (by decide) (setGrown wr ⟨m, 2, none⟩ _))
             have HM6 := hid (show MintB (wr.setCell ⟨m, 2, none⟩ (.pointer (some ⟨nb, 0, none⟩))) m (.slice A5 L.length ca5) k nb (.slice D J.length dc) false from h1.set 2 _)
             have hs6 : (wr.setCell ⟨m, 2, none⟩ (.pointer (some ⟨nb, 0, none⟩))).heap.size = wr.heap.size := by simp
             have HS6 := hid hs6
             have hj200 := HJ200.out
             clear hmt h1 h2 hs6
             go_wp2_with (at_builtin; refine push1L TS22 (wr.setCell ⟨m, 2, none⟩ (.pointer (some ⟨nb, 0, none⟩))) #[.string x] 0 _ _ _ HOW.out _ _ wr.heap.size HS6.out rfl rfl rfl rfl rfl (by simp [Value.oneCell']) (by omega) (by omega) (Nat.zero_le _) ?_; intro v1 w8 hown1 hgr hap; obtain ⟨D8, c8, rfl⟩ := own_form hown1; have HF := hid (HD.out.fin (n := 0) (J' := J ++ [x]) (d' := .slice D8 (J.length + 1) c8) (by rw [strV_snoc, List.length_append, List.length_singleton]; exact hown1) hgr (by rw [HS6.out] at hap; exact hap)); have HM8 := hid (HM6.out.grown hgr (own_ne_blk HOW.out HM6.out (by decide))); have q3 := HM8.out.cell 3; have f3 := HM8.out.free 3; simp only [List.getElem?_toArray, List.getElem?_cons_zero, List.getElem?_cons_succ] at q3; have HWD := hid (word_word (s := x) (by omega) _ (show MaxL (w8.setCell ⟨m, 3, none⟩ (.slice D8 (J.length + 1) c8)) from by obtain ⟨_, _, _, _, a3, _⟩ := HF.out; exact HEN.out.max.keep (a3.below HLO.out HLO.out.size (fun i hi => hi.elim (HLL.out i) (HFL.out i))))); clear hown1 hgr hap)
             refine (HWD.out).mono ?_; rintro e w' ⟨rest, ok, kk, rfl, rfl⟩
             have HF2 := hid (HF.out.below (below_drewN (Below.refl _ _) kk))
             clear HWD
             go_wp2
             go_ret2
             rw [HQ.out]
             exact ⟨⟨_, rfl, fun _ => rfl⟩, HF2.out⟩
           · have g1 : decide ((L.length : Int) < 2 * (tk : Nat)) = false := decide_eq_false (by omega)
             have g2 : decide (L.length < 2 * tk) = false := decide_eq_false hmt
             have HQ := hid (show doM C k s J false x = (onAll (fun c => c.put J.length k x) C, s, J, true, 5) from by
              unfold doM
              rw [if_neg (by simp), if_neg (by simpa using HZ.out), if_neg HJ2.out, if_neg (by rw [← HLEN.out, ← HNR.out]; simpa using (show L.length < 2 * dd from by have := HMO.out; rw [← HNR.out] at this; exact this)), if_pos (by rw [← HLEN.out, ← HTA.out]; exact hmt)])
             clear hmt h1 h2
             go_wp2
             go_ret2
             rw [HQ.out]
             exact ⟨⟨_, rfl, fun h => by cases h⟩, HD.out.gone⟩
      · have g1 : decide ((L.length : Int) < 2 * (reachN C : Nat)) = false := decide_eq_false (by omega)
        have g2 : decide (L.length < 2 * reachN C) = false := decide_eq_false hmo
        have HQ := hid (show doM C k s J false x = (C, s, J, false, 8) from by
         unfold doM
         rw [if_neg (by simp), if_neg (by simpa using HZ.out), if_neg HJ2.out, if_pos (by rw [← HLEN.out]; exact hmo)])
        clear hmo
        go_wp2
        go_ret2
        rw [HQ.out]
        exact ⟨⟨_, rfl, fun h => by cases h⟩, HD.out.leave⟩
  · have HQ := hid (show doM C k s J false x = (C, s, J, false, (doL s x).2) from by
     unfold doM
     rw [if_neg (by simp), if_pos hz])
    have hz2 : ¬ (((doL s x).2 : Nat) : Int) = 0 := by omega
    have HZN := hid hz
    obtain ⟨qn, hqn⟩ : ∃ qn, qn = (doL s x).2 := ⟨_, rfl⟩
    rw [← hqn] at hz2 HQ HZN ⊢
    clear hz hqn
    go_wp2
    go_ret2
    rw [HQ.out]
    exact ⟨⟨_, rfl, fun h => absurd h (by have := HZN.out; simpa using this)⟩, R, _, HM2.out, HC2.out, Chs.of_below B12.out, fun _ hi => .inl hi, fun _ hi => .inl hi⟩
theorem doG (w0 w : World) (R : Nat → Prop) (m : Nat) (d : Value) (L : List (Nat × Nat)) (C : List Cp) (k : Int) (s : Bk) (J : List ByteArray) (out : Bool) (x : ByteArray) (hlow : Below w0.heap.size w0 w) (he : EnvN w0) (hT : Tab w0)
 (hm : MinM w R m d L k s J out) (hc : CpsM w L C) (hap : ∀ i, inL L i → ¬ R i ∧ ¬ footM m d i) (hJ : J.length ≤ 200) (hb : BkI s) (hx : x.size ≤ 100000000) (hk0 : 0 ≤ k) (hk1 : k ≤ 1000000000) (hn : L.length ≤ 1000)
 (hLlow : ∀ i, inL L i → w0.heap.size ≤ i) (hflow : ∀ i, footM m d i → w0.heap.size ≤ i) :
 Calls Tryz.prog 27 #[.pointer (some ⟨m, 0, none⟩), .string x] w fun r w' => (∃ word, r = .returned (.tuple #[.string word, .int .i64 ((doM C k s J out x).2.2.2.2 : Nat)])) ∧ DoneM w w' R m d L k (doM C k s J out x) :=
 (doGW w0 w R m d L C k s J out x hlow he hT hm hc hap hJ hb hx hk0 hk1 hn hLlow hflow).mono fun _ _ ⟨⟨a, b, _⟩, c⟩ => ⟨⟨a, b⟩, c⟩
end
/- Walk of the law's opened: a mint on three new copies that did some lines. Conditions: the lines are short of the shelf's bound; the library's variables stand. -/
section
open Go.RowKit Go.Maps
/-- A mint, its copies and the slice of them, all made behind w; kk: the copies' mark. -/
structure OpdS (w W : World) (K m : Nat) (A : Option Addr) (c : Nat) (L : List (Nat × Nat)) (kk : Int) (s : Bk) (J : List ByteArray) (C : List Cp) (out : Bool) : Prop where
 mm : ∃ R d, MinM W R m d L 1 s J out ∧ ∀ i, R i ∨ footM m d i → K ≤ i
 cps : CpsM W L C
 own : W.ownsRow w.heap.size 67 1 (.slice A 3 c) 3 (ptrs (L.map (·.1)))
 oldL : ∀ i, inL L i → w.heap.size ≤ i ∧ i < K
 oldA : ∀ g, (Value.slice A 3 c).ownBlock = some g → g < K
 low : Below w.heap.size w W
 wk : w.heap.size ≤ K
 kw : K ≤ W.heap.size
section
variable {w W W' : World} {K m : Nat} {A : Option Addr} {c : Nat} {L : List (Nat × Nat)} {kk : Int} {s s' : Bk} {J J' : List ByteArray} {C C' : List Cp} {out out' : Bool}
theorem own_notL {B : Nat} {n : Nat} {v : Value} {xs : List Value} (h : W.ownsRow B 67 1 v n xs) (hc : CpsM W L C) : ∀ g, v.ownBlock = some g → ¬ inL L g := fun g hg hi => by
 rcases hi with hi | hi
 · obtain ⟨p, hp, rfl⟩ := List.mem_map.1 hi
   obtain ⟨j, hj⟩ := List.getElem?_of_mem hp
   obtain ⟨cc, _, hcc⟩ := hc.at hj
   exact own_ne_blk h hcc.blk (by decide) hg.symm
 · obtain ⟨p, hp, rfl⟩ := List.mem_map.1 hi
   obtain ⟨j, hj⟩ := List.getElem?_of_mem hp
   obtain ⟨cc, _, hcc⟩ := hc.at hj
   exact own_ne_map h hcc.map hg.symm
theorem OpdS.below (h : OpdS w W K m A c L kk s J C out) (hb : Below W.heap.size W W') : OpdS w W' K m A c L kk s J C out := by
 obtain ⟨R, d, h1, h2⟩ := h.mm
 exact ⟨⟨R, d, h1.below hb, h2⟩, h.cps.below hb, own_below h.own hb, h.oldL, h.oldA, below_call h.low hb h.low.size, h.wk, Nat.le_trans h.kw hb.size⟩
/-- The mint did a line. -/
theorem OpdS.done {R : Nat → Prop} {d : Value} {q : List Cp × Bk × List ByteArray × Bool × Nat} (h : OpdS w W K m A c L kk s J C out) (hf : ∀ i, R i ∨ footM m d i → K ≤ i) (hd : DoneM W W' R m d L 1 q) : OpdS w W' K m A c L kk q.2.1 q.2.2.1 q.1 q.2.2.2.1 := by
 obtain ⟨R', d', h1, h2, h3, h4, h5⟩ := hd
 have hkw := h.kw
 have hwk := h.wk
 refine ⟨⟨R', d', h1, fun i hi => ?_⟩, h2, own_chsM h.own h3 (fun g hg e => ?_), h.oldL, h.oldA, h3.below h.low h.low.size (fun i hi => ?_), h.wk, Nat.le_trans h.kw h3.size⟩
 · rcases hi with hi | hi
   · rcases h4 i hi with hi | hi
     · exact hf i (.inl hi)
     · omega
   · rcases h5 i hi with hi | hi
     · exact hf i (.inr hi)
     · omega
 · rcases e with e | e
   · exact own_notL h.own h.cps g hg e
   · have := h.oldA g hg
     have := hf g (.inr e)
     omega
 · rcases hi with hi | hi
   · exact (h.oldL i hi).1
   · have := hf i (.inr hi)
     omega
/-- Another mint was opened on the copies. -/
theorem OpdS.opened (h : OpdS w W K m A c L kk s J C out) (hc : CpsM W' L C') (hs : Chs (inL L) W W') : OpdS w W' K m A c L kk s J C' out := by
 obtain ⟨R, d, h1, h2⟩ := h.mm
 refine ⟨⟨R, d, h1.chs hs (fun i hi e => ?_) (fun i hi e => ?_), h2⟩, hc, own_chsM h.own hs (own_notL h.own h.cps), h.oldL, h.oldA, hs.below h.low h.low.size (fun i hi => (h.oldL i hi).1), h.wk, Nat.le_trans h.kw hs.size⟩
 · have := h2 i (.inl hi)
   have := (h.oldL i e).2
   omega
 · have := h2 i (.inr hi)
   have := (h.oldL i e).2
   omega
/-- What Do asks of the mint. -/
theorem OpdS.doG (x : ByteArray) (h : OpdS w W K m A c L kk s J C out) (hen : EnvN w) (hT : Tab w) (hJ : J.length ≤ 200) (hb : BkI s) (hx : x.size ≤ 100000000) :
 Calls Tryz.prog 27 #[.pointer (some ⟨m, 0, none⟩), .string x] W fun r W' => (∃ word, r = .returned (.tuple #[.string word, .int .i64 ((doM C 1 s J out x).2.2.2.2 : Nat)])) ∧ OpdS w W' K m A c L kk (doM C 1 s J out x).2.1 (doM C 1 s J out x).2.2.1 (doM C 1 s J out x).1 (doM C 1 s J out x).2.2.2.1 := by
 obtain ⟨R, d, h1, h2⟩ := h.mm
 have hlen : L.length = 3 := by have := h.own.1; simpa [ptrs] using this
 have hwk := h.wk
 refine (Go.Proofs.YtnibidmlkbcfkaaGreatDoor.doG w W R m d L C 1 s J out x h.low hen hT h1 h.cps (fun i hi => ⟨fun hr => ?_, fun hr => ?_⟩) hJ hb hx (by omega) (by omega) (by omega) (fun i hi => (h.oldL i hi).1) (fun i hi => ?_)).mono fun r W' ⟨a, b⟩ => ⟨a, h.done h2 b⟩
 · have := h2 i (.inl hr)
   have := (h.oldL i hi).2
   omega
 · have := h2 i (.inr hr)
   have := (h.oldL i hi).2
   omega
 · have := h2 i (.inr hi)
   omega
end
theorem ent_nil : entJ 0 [] = fun _ => none := by funext i; unfold entJ; simp
theorem cps_new {w : World} {B : Nat} {L : List (Nat × Nat)} (h : NewC w B L) (hl : L.length = 3) : CpsM w L (likeC 0 []) := by
 refine ⟨hl.trans rfl, fun i p c hp hc => ?_, h.nod1, h.nod2⟩
 have hc := List.eq_of_mem_replicate (List.mem_of_getElem? hc)
 subst hc
 rw [ent_nil]
 exact (h.cpm p (List.mem_of_getElem? hp)).1
theorem doM_run {l : List ByteArray} {n : Nat} {x : ByteArray} (hx : l[n]? = some x) (hl : (runD bk0 [] (l.take n)).2.length < 200) : ∃ e, doM (likeC 1 (runD bk0 [] (l.take n)).2) 1 (runD bk0 [] (l.take n)).1 (runD bk0 [] (l.take n)).2 false x = (likeC 1 (runD bk0 [] (l.take (n + 1))).2, (runD bk0 [] (l.take (n + 1))).1, (runD bk0 [] (l.take (n + 1))).2, false, e) := by
 rw [like_do 1 _ _ x hl, runD_take l n x bk0 [] hx]
 split
 · exact ⟨_, rfl⟩
 · exact ⟨_, rfl⟩
end
/- What the rows' condition and the world's shape give state.do: the library's variables of numbers. No condition. -/
section
open Go Go.ChangeShapes Go.WideShapes Go.ChangeAt Go.RowKit
set_option maxRecDepth 100000 in
theorem pow_is : (Rows.laid_internal_strconv_uint64pow10 : DataW Unit) = Lib.tabData .u64 Lib.pow10Tab := by kernel_rfl
theorem tPow : (Tryz.prog.globals[1]?).map (·.type) = some 202 := by kernel_rfl
theorem gRng : Tryz.prog.globalNamed "strconv.ErrRange" = some 3 := by kernel_rfl
theorem gSyn : Tryz.prog.globalNamed "strconv.ErrSyntax" = some 2 := by kernel_rfl
theorem tRng : (Tryz.prog.globals[3]?).map (·.type) = some 97 := by kernel_rfl
theorem tSyn : (Tryz.prog.globals[2]?).map (·.type) = some 97 := by kernel_rfl
theorem starE : "*errors.errorString" = "*" ++ "errors.errorString" := by decide
theorem rowE (u : TypeId) (h : Tryz.prog.typeName? 3 u = some "*errors.errorString") : u = 279 :=
 typeName_ptr_named (nm := "errors.errorString") (by rw [starE.symm]; kernel_rfl) (by kernel_rfl) (by decide) u (by rw [starE.symm]; exact h)
theorem var_cell {W : World} {n : String} {g : Nat} {v : Value} (hg : Tryz.prog.globalNamed n = some g) (h : W.var? Tryz.prog n = some #[v]) : W.cell? ⟨g, 0, none⟩ = some v := by
 unfold World.var? at h
 rw [hg] at h
 simp only [Option.bind_some] at h
 cases hw : W.heap[g]? with
 | none => rw [hw] at h; cases h
 | some o =>
  rw [hw] at h
  cases o with
  | cells cs t f =>
   simp only [Option.some.injEq] at h
   subst h
   simp [World.cell?, hw]
  | _ => cases h
set_option maxRecDepth 100000 in
theorem env_of {W : World} (hL : laidMetH Tryz.prog laid W) (hsh : W.ShapedOpen Tryz.prog) : EnvN W := by
 rw [laid_plain] at hL
 have h2 : laidMet Tryz.prog (("internal/strconv.uint64pow10", Lib.tabData .u64 Lib.pow10Tab) :: laidRest.tail) W := by
  rw [← pow_is]
  exact hL.tail.tail
 have h4 := h2.tail.tail
 refine ⟨of_shape hsh, Lib.tabIs_of_head gPow tPow Tryz.underlying202 Tryz.underlying163 (by kernel_rfl) (by kernel_rfl) h2, ?_, ?_⟩
 · obtain ⟨a, s, hv, _⟩ := laid_sentinel h4.tail gSyn tSyn Tryz.underlying97 rowE Tryz.underlying279 Tryz.underlying281 rfl rfl Tryz.underlying9 (by kernel_rfl) (by kernel_rfl)
   exact ⟨_, var_cell gSyn hv, .inr ⟨_, _, rfl⟩⟩
 · obtain ⟨a, s, hv, _⟩ := laid_sentinel h4 gRng tRng Tryz.underlying97 rowE Tryz.underlying279 Tryz.underlying281 rfl rfl Tryz.underlying9 (by kernel_rfl) (by kernel_rfl)
   exact ⟨_, var_cell gRng hv, .inr ⟨_, _, rfl⟩⟩
section
variable {H : Type}
theorem bulk_part {d : DataW H} {l : List (DataW H)} (h : d ∈ l) : Rows.uptoBulk d ≤ Rows.uptoBulkAll l := by
 induction l with
 | nil => cases h
 | cons x r ih =>
  simp only [Rows.uptoBulkAll]
  cases List.mem_cons.1 h with
  | inl e => subst e; omega
  | inr e => have := ih e; omega
theorem bulk_str {s : ByteArray} {l : List (DataW H)} (h : DataW.lit (.string s.data.toList) ∈ l) (hb : Rows.uptoBulkAll l ≤ 1048576) : s.size ≤ 1048576 := by
 have h1 := bulk_part h
 have h2 : Rows.uptoBulk (DataW.lit (H := H) (.string s.data.toList)) = s.data.toList.length + 1 := by simp [Rows.uptoBulk]
 have e : s.data.toList.length = s.size := by rw [Array.length_toList]; rfl
 omega
variable {enc : TypeId × Value → H} {P : Program} {w : World} {base : Nat} {spare : Nat → Bool} {held : Bool}
/-- A slice of strings that came in. -/
theorem open_lines {t e : TypeId} {fuel : Nat} {cs : List Value} {x : DataW H × List MemPlace} (ht : P.underlying t = some (.slice e)) (he : P.underlying e = some .string) (hc : P.cellsOf e = 1)
 (h : DataW.trod enc P w base spare held fuel t cs = some x) (hk : Rows.uptoBulk x.1 ≤ 1048576) : ∃ (A : Option Addr) (n c : Nat) (l : List ByteArray), cs = [.slice A n c] ∧ Sl w A n c (strV l) ∧ ∀ y ∈ l, y.size ≤ 100000000 := by
 rcases Go.Deep.open_strs ht he hc h with ⟨rfl, _⟩ | ⟨a, len, cap, m, Sx, rfl, hb, hl, hm, hmm, hx, hi⟩
 · exact ⟨none, 0, 0, [], rfl, Sl.nil w, fun y hy => by simp at hy⟩
 · have hlm : len ≤ m := by rw [hmm]; split <;> omega
   subst hx
   have hbk : Rows.uptoBulkAll ((List.range len).map fun i => DataW.lit (H := H) (.string (Sx i).data.toList)) ≤ 1048576 := by
    simp only [Rows.uptoBulk] at hk
    omega
   refine ⟨some a, len, cap, (List.range len).map Sx, rfl, ⟨by unfold strV; simp, hl, hm, fun hn => ?_⟩, fun y hy => ?_⟩
   · have hs : a.spot = none := by
      have hu := (hi 0 (by omega)).1
      unfold World.cell? Addr.add at hu
      simp at hu
      split at hu
      · rename_i hs
        by_cases e : a.spot.isSome
        · simp [e] at hu
        · cases hsp' : a.spot
          · rfl
          · simp [hsp'] at e
      · cases hu
     obtain ⟨b, o, sp⟩ := a
     simp at hs
     subst hs
     have hadd : ∀ j, (⟨b, o, none⟩ : Addr).add j = ⟨b, o + j, none⟩ := fun j => by unfold Addr.add; split <;> simp_all
     refine ⟨b, o, rfl, ?_, fun j u hu => ?_⟩
     · have h0 := (hi 0 (by omega)).1
       rw [hadd] at h0
       exact World.block_lt_of_cell? w _ h0
     · obtain ⟨y, hy, rfl⟩ := strV_at hu
       rw [List.getElem?_map] at hy
       obtain ⟨q, hq, rfl⟩ := Option.map_eq_some_iff.1 hy
       obtain ⟨hj, hq⟩ := List.getElem?_eq_some_iff.1 hq
       rw [List.length_range] at hj
       rw [List.getElem_range] at hq
       subst hq
       have := (hi j (by omega)).1
       rwa [hadd] at this
   · obtain ⟨i, hi2, rfl⟩ := List.mem_map.1 hy
     have := bulk_str (s := Sx i) (List.mem_map.2 ⟨i, hi2, rfl⟩) hbk
     omega
end
end
/- Plain law of tournaments: whom each player beats, as sets; what a mint's books keep of it. No condition. -/
section
open Go.RowKit Go.Maps
/-- A tournament of n players: b i j says that i beats j. -/
def TourOk (n : Nat) (b : Nat → Nat → Bool) : Prop := (∀ i, i < n → b i i = false) ∧ ∀ i j, i < n → j < n → i ≠ j → b i j = !b j i
/-- A list that is a tournament. -/
def TourI (l : List Int) : Prop := ∃ b, l = ordL l.length b ∧ TourOk l.length b
theorem TourOk.congr {n : Nat} {a b : Nat → Nat → Bool} (h : TourOk n a) (he : ∀ i j, i < n → j < n → a i j = b i j) : TourOk n b :=
 ⟨fun i hi => by rw [← he i i hi hi]; exact h.1 i hi, fun i j hi hj hij => by rw [← he i j hi hj, ← he j i hj hi]; exact h.2 i j hi hj hij⟩
/-- With a player more, who loses to all. -/
def joinA (n : Nat) (b : Nat → Nat → Bool) (i j : Nat) : Bool := decide (i < n) && (decide (j = n) || b i j && decide (j < n))
theorem joinA_ok {n : Nat} {b : Nat → Nat → Bool} (h : TourOk n b) : TourOk (n + 1) (joinA n b) := by
 refine ⟨fun i hi => ?_, fun i j hi hj hij => ?_⟩
 · unfold joinA
   by_cases e : i = n
   · simp [e]
   · have hi' : i < n := by omega
     simp [e, hi', h.1 i hi']
 · unfold joinA
   by_cases ei : i = n
   · subst ei
     have hj' : j < i := by omega
     simp [hj']
   · by_cases ej : j = n
     · subst ej
       have hi' : i < j := by omega
       simp [hi']
     · have hi' : i < n := by omega
       have hj' : j < n := by omega
       simp [hi', hj', ei, ej, h.2 i j hi' hj' hij]
theorem mk_up {n : Nat} (hn : n < 60) (f : Nat → Bool) : bits .or .i64 (mk n f) (p2 n) = mk (n + 1) (fun j => decide (j = n) || f j && decide (j < n)) := by
 have h1 := mk_push (n := n + 1) (k := n) (by omega) (by omega) (fun j => decide (j = n) || f j && decide (j < n)) (b := 1) (by simp)
 rw [Int.one_mul] at h1
 rw [← h1]
 congr 1
 apply mk_congr
 intro i hi
 have hne : ¬ i = n := by omega
 simp [hi, hne]
theorem ordL_join {n : Nat} (hn : n < 60) (b : Nat → Nat → Bool) : (ordL n b).map (fun v => bits .or .i64 v (p2 n)) ++ [0] = ordL (n + 1) (joinA n b) := by
 unfold ordL
 rw [List.range_succ, List.map_append, List.map_map]
 congr 1
 · refine List.map_congr_left fun i hi => ?_
   have hi := List.mem_range.1 hi
   simp only [Function.comp_apply]
   rw [mk_up hn]
   apply mk_congr
   intro j _
   unfold joinA
   simp [hi]
 · simp only [List.map_cons, List.map_nil]
   rw [show joinA n b n = fun _ => false by funext j; unfold joinA; simp, mk_none]
/-- With a result: x beats y. -/
def beatA (b : Nat → Nat → Bool) (x y i j : Nat) : Bool := if i = x ∧ j = y then true else if i = y ∧ j = x then false else b i j
theorem beatA_ok {n : Nat} {b : Nat → Nat → Bool} (h : TourOk n b) {x y : Nat} (hxy : x ≠ y) : TourOk n (beatA b x y) := by
 refine ⟨fun i hi => ?_, fun i j hi hj hij => ?_⟩
 · unfold beatA
   rw [if_neg (by omega), if_neg (by omega)]
   exact h.1 i hi
 · unfold beatA
   by_cases e1 : i = x ∧ j = y
   · rw [if_pos e1, if_neg (by omega), if_pos (by omega)]
     rfl
   · by_cases e2 : i = y ∧ j = x
     · rw [if_neg e1, if_pos e2, if_pos (by omega)]
       rfl
     · rw [if_neg e1, if_neg e2, if_neg (by omega), if_neg (by omega)]
       exact h.2 i j hi hj hij
theorem ordL_get {n : Nat} (b : Nat → Nat → Bool) {i : Nat} (hi : i < n) : (ordL n b).getD i 0 = mk n (b i) := by
 unfold ordL
 rw [List.getD_eq_getElem?_getD, List.getElem?_map, List.getElem?_range hi]
 rfl
theorem ordL_at {n : Nat} (b : Nat → Nat → Bool) {i : Nat} (hi : i < n) : (ordL n b)[i]? = some (mk n (b i)) := by
 unfold ordL
 rw [List.getElem?_map, List.getElem?_range hi]
 rfl
theorem ordL_put {n : Nat} (b : Nat → Nat → Bool) {i : Nat} (f : Nat → Bool) : (ordL n b).set i (mk n f) = ordL n (fun k => if k = i then f else b k) := by
 apply List.ext_getElem?
 intro k
 rw [List.getElem?_set]
 by_cases hk : k < n
 · rw [ordL_at _ hk, ordL_at _ hk, ordL_len]
   by_cases e : i = k
   · subst e
     simp [hk]
   · have e2 : ¬ k = i := fun h => e h.symm
     simp [e, e2]
 · have hl : (ordL n (fun k => if k = i then f else b k))[k]? = none := List.getElem?_eq_none (by rw [ordL_len]; omega)
   have hl2 : (ordL n b)[k]? = none := List.getElem?_eq_none (by rw [ordL_len]; omega)
   rw [hl, hl2, ordL_len]
   split <;> simp_all
theorem mk_set {n : Nat} (hn : n ≤ 60) {j : Nat} (hj : j < n) (f : Nat → Bool) : bits .or .i64 (mk n f) (p2 j) = mk n (fun k => if k = j then true else f k) := by
 rw [← mk_single hj, mk_or hn]
 apply mk_congr
 intro k _
 by_cases e : k = j <;> simp [e]
theorem mk_del {n : Nat} (hn : n ≤ 60) {j : Nat} (hj : j < n) (f : Nat → Bool) : bits .andNot .i64 (mk n f) (p2 j) = mk n (fun k => if k = j then false else f k) := by
 rw [← mk_single hj, mk_andNot hn]
 apply mk_congr
 intro k _
 by_cases e : k = j <;> simp [e]
theorem ordL_beat {n : Nat} (hn : n ≤ 60) (b : Nat → Nat → Bool) {x y : Nat} (hx : x < n) (hy : y < n) (hxy : x ≠ y) :
 putI (putI (ordL n b) x fun v => bits .or .i64 v (p2 y)) y (fun v => bits .andNot .i64 v (p2 x)) = ordL n (beatA b x y) := by
 unfold putI
 dsimp only
 rw [ordL_get b hx, mk_set hn hy, ordL_put, ordL_get _ hy, mk_del hn hx, ordL_put]
 apply ordL_congr
 intro i j _ _
 unfold beatA
 by_cases e1 : i = y
 · subst e1
   have e2 : ¬ i = x := fun h => hxy h.symm
   simp [e2]
 · simp only [if_neg e1]
   by_cases e2 : i = x
   · subst e2
     by_cases e3 : j = y
     · simp [e3]
     · simp [e3, e1]
   · simp [e1, e2]
theorem TourI.nil : TourI [] := ⟨fun _ _ => false, rfl, ⟨fun i hi => by simp at hi, fun i j hi => by simp at hi⟩⟩
theorem TourI.of {n : Nat} {b : Nat → Nat → Bool} (h : TourOk n b) : TourI (ordL n b) := ⟨b, by rw [ordL_len], by rw [ordL_len]; exact h⟩
theorem TourI.push {l : List Int} (h : TourI l) (hl : l.length < 60) : TourI (l.map (fun v => bits .or .i64 v (p2 l.length)) ++ [0]) := by
 obtain ⟨b, h1, h2⟩ := h
 generalize hn : l.length = n at *
 subst h1
 rw [ordL_join hl]
 exact TourI.of (joinA_ok h2)
theorem TourI.beat {l : List Int} (h : TourI l) (hl : l.length ≤ 60) {x y : Nat} (hx : x < l.length) (hy : y < l.length) (hxy : x ≠ y) : TourI (putI (putI l x fun v => bits .or .i64 v (p2 y)) y (fun v => bits .andNot .i64 v (p2 x))) := by
 obtain ⟨b, h1, h2⟩ := h
 generalize hn : l.length = n at *
 subst h1
 rw [ordL_beat hl b hx hy hxy]
 exact TourI.of (beatA_ok h2 hxy)
/-- What a mint's books keep of the players. -/
theorem TourI.player {s : Bk} (h : TourI s.beats) (hs : BkI s) (x : ByteArray) : TourI (playerL s x).1.beats := by
 unfold playerL
 split
 · have := hs.1.bea
   have := hs.1.pla
   exact h.push (by omega)
 · exact h
theorem TourI.beats {s : Bk} (h : TourI s.beats) (hs : BkI s) (x y : ByteArray) : TourI (beatL s x y).1.beats := by
 have h1 := hs.1.bea
 have h2 := hs.1.pla
 have b1 := idxZ_bd x s.players
 have b2 := idxZ_bd y s.players
 unfold beatL
 split
 · split
   · exact h
   · rename_i hp hq
     simp only [not_or] at hq
     obtain ⟨i, hi⟩ := Int.eq_ofNat_of_zero_le hp.1
     obtain ⟨j, hj⟩ := Int.eq_ofNat_of_zero_le hp.2
     have h3 := h.beat (x := i) (y := j) (by omega) (by omega) (by omega) (by omega)
     rw [hi, hj]
     exact h3
 · exact h
theorem beats_medal (s : Bk) (x : ByteArray) : (medalL s x).1.beats = s.beats := by
 unfold medalL; split <;> rfl
theorem beats_rank (s : Bk) (x y : ByteArray) : (rankL s x y).1.beats = s.beats := by
 unfold rankL; split
 · split <;> rfl
 · rfl
theorem beats_lay (s : Bk) (x y z u : Int) : (layL s x y z u).1.beats = s.beats := by
 unfold layL; split <;> rfl
theorem beats_pan (s : Bk) (x y z u : Int) : (panL s x y z u).1.beats = s.beats := by
 unfold panL; split <;> rfl
theorem beats_bet (s : Bk) (v k : Int) : (betL s v k).1.beats = s.beats := by
 unfold betL
 split
 · rfl
 · split
   · rfl
   · split <;> rfl
theorem TourI.doL {s : Bk} (h : TourI s.beats) (hs : BkI s) (x : ByteArray) : TourI (doL s x).1.beats := by
 unfold Go.Proofs.YtnibidmlkbcfkaaGreatDoor.doL
 split
 · split
   · rw [beats_bet]; exact h
   · exact h
 · split
   · split
     · rw [beats_pan]; exact h
     · exact h
   · split
     · split
       · rw [beats_lay]; exact h
       · exact h
     · split
       · split
         · exact h.beats hs _ _
         · exact h
       · split
         · split
           · exact h.player hs _
           · exact h
         · split
           · split
             · rw [beats_rank]; exact h
             · exact h
           · split
             · split
               · rw [beats_medal]; exact h
               · exact h
             · exact h
end
end Go.Proofs.YtnibidmlkbcfkaaGreatDoor
