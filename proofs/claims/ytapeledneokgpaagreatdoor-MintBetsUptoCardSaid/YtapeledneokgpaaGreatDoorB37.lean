/- Walk of MintBets. Conditions: the lines are short of the shelf's bound; the library's variables stand. -/
import Derived.Test.YtapeledneokgpaaGreatDoorB36
import Derived.Test.YtapeledneokgpaaGreatDoorB30
namespace Go.Proofs.YtapeledneokgpaaGreatDoor
open Go.RowKit Go.Maps
theorem itoaN (n : Nat) (hn : n < 1000) (w : World) (h : EnvN w) :
 Calls Tryz.prog 20 #[.int .i64 (n : Nat)] w fun e w' => e = .returned (.string (itoaB n)) ∧ Below w.heap.size w w' := itoaAny (n : Nat) (by omega) (by omega) w h
theorem price_txt (e : Nat) : numd sPrice [e] = (⟨#[112, 114, 105, 99, 101, 32]⟩ : ByteArray) ++ itoaB e := by
 show sPrice ++ (⟨#[32]⟩ ++ itoaB e) = _
 rw [← ByteArray.append_assoc]
 rfl
theorem catS (u v : ByteArray) (hu : u.size ≤ 1000000) (hv : v.size ≤ 1000000) (W : World) : (Op.stringOp .add u v).run Tryz.prog W = .ok (.string (u ++ v)) W := run_string_add_sum W _ _ (by omega)
theorem rep_eq (s : Bk) {e : Nat} (he : e < 8) : replyPrice s e = (numd sPrice (priceL (allB s.bets) e), 0) := by unfold replyPrice; rw [if_pos he]
theorem rep_parts (l : List (Int × Int)) (e : Int) : parts (numd sPrice (priceL l e)) = sPrice :: (priceL l e).map itoaB := by
 rw [parts_numd sPrice _ _ fun i hi => Nat.lt_trans (price_lt hi) (by decide), show parts sPrice = [sPrice] by kernel_rfl]
 rfl
theorem rep_size (l : List (Int × Int)) (e : Int) : (numd sPrice (priceL l e)).size ≤ 100 := by
 have h1 := numd_size (l := priceL l e) (fun i hi => Nat.lt_trans (price_lt hi) (by decide)) sPrice
 have h2 := price_len l e
 have h3 : sPrice.size = 5 := rfl
 rw [h3] at h1
 exact Nat.le_trans h1 (by generalize (priceL l e).length = z at *; omega)
theorem strV_len2 (l : List ByteArray) : (strV l).length = l.length := by unfold strV; simp
theorem itoa_mem {l : List Nat} {c : Nat} (hl : ∀ i ∈ l, i < 1000) (hc : c < 1000) : itoaB c ∈ l.map itoaB ↔ c ∈ l := by
 constructor
 · intro h
   obtain ⟨i, hi, e⟩ := List.mem_map.1 h
   have h1 := itoa_num (hl i hi)
   rw [e, itoa_num hc] at h1
   cases h1
   exact hi
 · exact fun h => List.mem_map.2 ⟨c, h, rfl⟩
set_option maxRecDepth 100000 in
set_option maxHeartbeats 40000000 in
theorem mintBets_walk (w : World) (U : Option Addr) (n c0 : Nat) (l : List ByteArray) (an am : Int) (he : EnvN w) (hT : Tab w) (hs : Sl w U n c0 (strV l)) (hl : ∀ x ∈ l, x.size ≤ 100000000) :
 Calls Tryz.prog 4 #[.slice U n c0, .int .i64 an, .int .i64 am] w fun e w' => e = .returned (.bool true) ∧ Below w.heap.size w w' := by
 have HOF := hid (openedF w U n c0 l he hT hs hl)
 have HEN := hid he
 have HT := hid hT
 have hjl : (runD bk0 [] (l.take 60)).2.length ≤ 60 := by
  have := runD_len (l.take 60) bk0 []
  rw [List.length_take, List.length_nil] at this
  omega
 have HJL := hid hjl
 have hrun := runD_runs (l.take 60) bk0 [] rfl
 generalize (runD bk0 [] (l.take 60)).1 = s at *
 generalize (runD bk0 [] (l.take 60)).2 = J at *
 obtain ⟨hbt, f, f0, fl, hf⟩ := run_at J bk0 s BkT.begin hrun
 have HSN := hid (show SndI s from by have h := snd_all f0 hf J.length (Nat.le_refl _); rwa [fl] at h)
 have HBT := hid hbt
 have HTH := hid fun (E k : Nat) (hE : E < 1000) (x : ByteArray) (hx : J[k]? = some x) => th_step hE (prcL (hf k x hx).2)
 have HSZ := hid fun (k : Nat) (x : ByteArray) (hx : J[k]? = some x) => kind_size (hf k x hx).2
 have HFL := hid fl
 have HF0 := hid f0
 have HAK := hid fun (e : Nat) (h8 : e < 8) (W : World) K m A c L (hW : OpdS w W K m A c L 1 s J (likeC 1 J) false) => show Calls Tryz.prog 12 #[.pointer (some ⟨m, 0, none⟩), .string ((⟨#[112, 114, 105, 99, 101, 32]⟩ : ByteArray) ++ itoaB e)] W (AskR W (numd sPrice (priceL (allB s.bets) e), 0)) from by
  obtain ⟨R, d, hmm, _⟩ := hW.mm
  have h := mintPriceQ e (Nat.lt_succ_of_lt h8) R m d L 1 s J false W hmm hbt HSN.out (he.keep hW.low) (hT.below hW.low)
  rwa [price_txt, rep_eq s h8] at h
 have HIT := hid fun (e : Nat) (h8 : e < 1000) (W : World) (hW : Below w.heap.size w W) => itoaN e h8 W (he.keep hW)
 have HNE := hid fun (e : Int) => price_some (allB_ok hbt.bk.1.bet) HSN.out e
 have HPT := hid fun (x : ByteArray) (hx : x.size ≤ 1000) (W : World) (hW : Below w.heap.size w W) => parts_parts (s := x) (by omega) W (he.keep hW).max
 clear he hT hs hl hjl hrun hbt hf fl f0
 obtain ⟨E, hE6, hE1, hEe⟩ : ∃ E : Nat, E ≤ 6 ∧ 1 ≤ E ∧ 1 + wrap64 ((IntKind.u64.wrap an).tmod 6) = (E : Int) := by
  have h0 : 0 ≤ IntKind.u64.wrap an := by rw [IntKind.wrap_u64]; omega
  have h1 : 0 ≤ IntKind.u64.wrap an % 6 := Int.emod_nonneg _ (by omega)
  have h2 : IntKind.u64.wrap an % 6 < 6 := Int.emod_lt_of_pos _ (by omega)
  rw [Int.tmod_eq_emod_of_nonneg h0]
  refine ⟨(1 + IntKind.u64.wrap an % 6).toNat, by omega, by omega, ?_⟩
  generalize IntKind.u64.wrap an % 6 = z at *
  simp only [wrap64]
  omega
 have hEe2 : 1 + IntKind.i64.wrap ((IntKind.u64.wrap an).tmod 6) = (E : Int) := by rw [← hEe]; first | rfl | (simp only [wrap64, IntKind.wrap_i64]; done)
 have hEw : IntKind.i64.wrap (E : Int) = (E : Int) := Go.IntWalk.i64_in _ (by omega)
 have hEw2 : wrap64 (E : Int) = (E : Int) := by simp only [wrap64]; omega
 obtain ⟨c, hc13, hce⟩ : ∃ c : Nat, c < 13 ∧ wrap64 ((IntKind.u64.wrap am).tmod 13) = (c : Int) := by
  have h0 : 0 ≤ IntKind.u64.wrap am := by rw [IntKind.wrap_u64]; omega
  have h1 : 0 ≤ IntKind.u64.wrap am % 13 := Int.emod_nonneg _ (by omega)
  have h2 : IntKind.u64.wrap am % 13 < 13 := Int.emod_lt_of_pos _ (by omega)
  rw [Int.tmod_eq_emod_of_nonneg h0]
  refine ⟨(IntKind.u64.wrap am % 13).toNat, by omega, ?_⟩
  generalize IntKind.u64.wrap am % 13 = z at *
  simp only [wrap64]
  omega
 have hce2 : IntKind.i64.wrap ((IntKind.u64.wrap am).tmod 13) = (c : Int) := by rw [← hce]; first | rfl | (simp only [wrap64, IntKind.wrap_i64]; done)
 have HEE := hid (And.intro hE1 hE6)
 have HCC := hid hc13
 go_enter Tryz.func4, Tryz.ntmps4
 go_wp2_with fail
 refine (HOF.out).mono ?_; rintro e w1 ⟨K, m, A, cA, L, rfl, hop⟩
 have HOP := hid hop
 clear hop HOF
 go_wp2_with fail
 clear hEe hEe2 hEw hEw2 hce hce2 hE1 hE6 hc13
 go_loopg [10] 6 (fun gk i wr => ∃ q : Nat, gk + q = 7 ∧ 1 ≤ q ∧ i = .int .i64 (q : Nat) ∧ Hid (OpdS w wr K m A cA L 1 s J (likeC 1 J) false))
 case atStart => exact ⟨1, rfl, by decide, rfl, HOP⟩
 case round =>
  clear HOP
  obtain ⟨q, hq, hq1, rfl, HOP⟩ := hrel
  have HQ := hid (And.intro hq hq1)
  by_cases hlt : q < 7
  · have HLT := hid hlt
    have g1 : decide ((q : Int) ≤ 6) = true := decide_eq_true (by omega)
    have HI1 := hid (HIT.out q (by omega) wr HOP.out.low)
    have hz := itoaB_size (n := q) (by omega)
    have HA1 := hid fun (W : World) (hW : Below wr.heap.size wr W) => HAK.out q (by omega) W K m A cA L (HOP.out.below hW)
    have hpl := HNE.out q
    have hpl2 : 2 ≤ (parts (numd sPrice (priceL (allB s.bets) q))).length := by
     rw [rep_parts, List.length_cons, List.length_map]
     have := List.length_pos_iff.2 hpl
     exact Nat.succ_le_succ this
    have hsz := rep_size (allB s.bets) q
    have HP1 := hid fun (W : World) (hW : Below w.heap.size w W) => HPT.out (numd sPrice (priceL (allB s.bets) q)) (Nat.le_trans hsz (by decide)) W hW
    clear hpl hsz
    generalize numd sPrice (priceL (allB s.bets) q) = rp at *
    generalize itoaB q = t at *
    have cat := catS ⟨#[112, 114, 105, 99, 101, 32]⟩ t (by show (6 : Nat) ≤ _; decide) (Nat.le_trans hz (by decide))
    generalize hpn : (parts rp).length = pn at *
    have g2 : decide ((pn : Int) < 2) = false := decide_eq_false (by omega)
    have g3 : decide (pn < 2) = false := decide_eq_false (by omega)
    unfold AskR at HA1
    clear hq hq1 hz
    go_wp2_with fail
    refine (HI1.out).mono ?_; rintro e w2 ⟨rfl, b2⟩
    have HA2 := hid (HA1.out w2 b2)
    have HOP := hid (HOP.out.below b2)
    clear HI1 HA1 b2
    go_wp2_with fail
    refine (HA2.out).mono ?_; rintro e w3 ⟨rfl, b3⟩
    have HOP := hid (HOP.out.below b3)
    have HP2 := hid (HP1.out w3 HOP.out.low)
    have HOP := hid (HOP.out.below ((Below.refl _ w3).alloc (Nat.le_refl _) (.cells (strV (parts rp)).toArray 9)))
    clear HA2 b3 HP1 hpn cat
    go_wp2_with fail
    refine (HP2.out).mono ?_; rintro e wp ⟨rfl, rfl⟩
    clear HP2
    go_wp2
    go_roundg (gk - 1)
    case measure => have := HQ.out; have := HLT.out; omega
    case rel => exact ⟨q + 1, by have := HQ.out; have := HLT.out; omega, by omega, by have := HLT.out; go_num, HOP⟩
  · obtain rfl : q = 7 := by have := HQ.out; have := hq; omega
    clear hq hq1 hlt HQ
    obtain ⟨R, d, hmm, hft⟩ := HOP.out.mm
    obtain ⟨D0, dc0, rfl⟩ := own_form hmm.own
    obtain ⟨sb, A1, ca1, m1, m2, m3, m4⟩ := hmm.ex
    have HJO := hid (mintJournal m _ 1 sb D0 J.length dc0 J false wr (by have := HJL.out; omega) m1 (Sl.of_own hmm.own))
    clear hmm hft m1 m2 m3 m4
    go_wp2_with fail
    refine (HJO.out).mono ?_; rintro e w3 ⟨D, dc, rfl, ho, b3⟩
    have HDO := hid ho
    have HOP := hid (HOP.out.below b3)
    have HSD := hid fun (W : World) (h : Below w3.heap.size w3 W) => (Sl.of_own HDO.out).below h
    have HOW := hid fun (W : World) (h : Below w3.heap.size w3 W) => HOP.out.below h
    have hcap := (Sl.of_own HDO.out).cap
    have hcapm := (Sl.of_own HDO.out).capm
    have hj60 := HJL.out
    have HB0 := hid (Below.refl w3.heap.size w3)
    have HT0 := hid (show thB E (f 0).bets = false from by rw [HF0.out]; rfl)
    clear ho b3 HJO
    go_wp2
    go_loopg [13, 61] J.length (fun gk v i wx => ∃ k : Nat, gk + k = J.length ∧ i = .int .i64 k ∧ v = .bool (thB E (f k).bets) ∧ Hid (Below w3.heap.size w3 wx))
    case atStart => exact ⟨0, by omega, rfl, by rw [HT0.out], HB0⟩
    case round =>
     clear HB0
     obtain ⟨k, hk, rfl, rfl, HB⟩ := hrel
     have HK := hid hk
     by_cases hlt : k < J.length
     · have HLT := hid hlt
       obtain ⟨db, dof, u, rfl, lbd, ed, cad⟩ := (HSD.out wr HB.out).at hlt
       obtain ⟨x, hx, rfl⟩ := strV_at ed
       have HST := hid (HTH.out E k (by have := HEE.out; omega) x hx)
       have HPF := hid fun W => prefixF x (betP E) W
       have HI1 := hid (HIT.out E (by have := HEE.out; omega) wr (HOW.out wr HB.out).low)
       have hz := itoaB_size (n := E) (by have := HEE.out; omega)
       unfold betP at HPF HST
       clear hk ed hx lbd
       cases hth : thB E (f k).bets with
       | true =>
        rw [hth, Bool.true_or] at HST
        clear HI1 HPF
        go_wp2
        go_roundg (J.length - (k + 1))
        case measure => have := HK.out; have := HLT.out; omega
        case rel => exact ⟨k + 1, by have := HK.out; have := HLT.out; omega, by have := HLT.out; have := HJL.out; go_num, by rw [HST.out], HB⟩
       | false =>
        rw [hth, Bool.false_or] at HST
        generalize itoaB E = t at *
        have cat1 := catS ⟨#[98, 101, 116, 32]⟩ t (by show (4 : Nat) ≤ _; decide) (Nat.le_trans hz (by decide))
        have cat2 := catS (⟨#[98, 101, 116, 32]⟩ ++ t) ⟨#[32]⟩ (by rw [ByteArray.size_append]; have : (ByteArray.mk #[98, 101, 116, 32]).size = 4 := rfl; omega) (by show (1 : Nat) ≤ _; decide)
        generalize preB x (⟨#[98, 101, 116, 32]⟩ ++ t ++ ⟨#[32]⟩) = pv at *
        clear hz
        go_wp2_with fail
        refine (HI1.out).mono ?_; rintro e w5 ⟨rfl, b5⟩
        have HB := hid (below_call HB.out b5 HB.out.size)
        clear HI1 b5
        go_wp2_with fail
        refine (HPF.out _).mono ?_; rintro e w6 ⟨rfl, rfl⟩
        clear HPF cat1 cat2
        go_wp2
        go_roundg (J.length - (k + 1))
        case measure => have := HK.out; have := HLT.out; omega
        case rel => exact ⟨k + 1, by have := HK.out; have := HLT.out; omega, by have := HLT.out; have := HJL.out; go_num, by rw [HST.out], HB⟩
     · have hkj : k = J.length := by have := HK.out; omega
       subst hkj
       rw [HFL.out]
       have HOP := hid (HOW.out wr HB.out)
       clear hk hlt HK HB HSD HOW HDO hcap hcapm HT0 HF0 HFL HTH HSZ
       have HEL := hid (show E < 8 from by have := HEE.out; omega)
       have hbm := bet_may HBT.out HSN.out HEE.out.1 HEE.out.2 HCC.out
       have hbx := (betX_do HEE.out.1 HEE.out.2 HCC.out s).2
       have HI1 := hid fun (W : World) (hW : Below w.heap.size w W) => HIT.out E (Nat.lt_trans HEL.out (by decide)) W hW
       have HIC := hid fun (W : World) (hW : Below w.heap.size w W) => HIT.out c (Nat.lt_trans HCC.out (by decide)) W hW
       have hz := itoaB_size (n := E) (Nat.lt_trans HEL.out (by decide))
       have hzc := itoaB_size (n := c) (Nat.lt_trans HCC.out (by decide))
       have HA1 := hid fun (W : World) (hW : Below wr.heap.size wr W) => HAK.out E HEL.out W K m A cA L (HOP.out.below hW)
       have hsz := rep_size (allB s.bets) E
       have HP1 := hid fun (W : World) (hW : Below w.heap.size w W) => HPT.out (numd sPrice (priceL (allB s.bets) E)) (Nat.le_trans hsz (by decide)) W hW
       rw [rep_parts] at HP1
       have hq : decide (c ∈ priceL (allB s.bets) E) = true ↔ itoaB c ∈ (priceL (allB s.bets) E).map itoaB := by
        rw [decide_eq_true_iff, itoa_mem (fun i hi => Nat.lt_trans (price_lt hi) (by decide)) (Nat.lt_trans HCC.out (by decide))]
       have HDO := hid fun (W : World) (hW : OpdS w W K m A cA L 1 s J (likeC 1 J) false) => OpdS.doG (betX E c) hW HEN.out HT.out (Nat.le_trans HJL.out (by decide)) HBT.out.bk (Nat.le_trans hbx (by decide))
       have hcode : (doM (likeC 1 J) 1 s J false (betX E c)).2.2.2.2 = if (decide (c ∈ priceL (allB s.bets) E) && !thB E s.bets) = true then 0 else 5 := by
        rw [like_do 1 s J (betX E c) (Nat.lt_of_le_of_lt HJL.out (by decide)), ← hbm]
        by_cases h0 : (doL s (betX E c)).2 = 0
        · rw [if_neg (by simpa using h0), h0]
        · rw [if_pos h0]
       rw [hcode] at HDO
       unfold betX at HDO
       clear hbm hbx hsz hcode HAK HIT
       have HY0 := hid (show ((priceL (allB s.bets) E).map itoaB).length ≠ 0 from by rw [List.length_map]; exact fun e => HNE.out E (List.eq_nil_of_length_eq_zero e))
       have HYM := hid (show ((priceL (allB s.bets) E).map itoaB).length ≤ maxLen from by rw [List.length_map]; exact Nat.le_trans (price_len _ _) (by unfold maxLen; decide))
       generalize decide (c ∈ priceL (allB s.bets) E) = q at *
       generalize thB E s.bets = th at *
       generalize numd sPrice (priceL (allB s.bets) E) = rp at *
       generalize (priceL (allB s.bets) E).map itoaB = ys at *
       obtain ⟨pm, hpm⟩ : ∃ pm, pm = ys.length := ⟨_, rfl⟩
       rw [← hpm] at HYM HY0
       have hpm0 : ¬ pm = 0 := HY0.out
       have hpm1 : (1 : Int) ≤ (pm : Int) + 1 := by omega
       have HCT := hid fun (pb : Nat) (W : World) (h : Blk W pb 9 (strV (sPrice :: ys)).toArray) => strHas (some ⟨pb, 1, none⟩) pm pm ys (itoaB c) q W ⟨by rw [strV_len2, hpm], Nat.le_refl _, HYM.out, fun _ => ⟨pb, 1, rfl, h.lt, fun j u hu => by
        rw [h.cell, List.getElem?_toArray, Nat.add_comm 1 j]
        exact hu⟩⟩ hq
       rw [List.length_cons, ← hpm] at HP1
       generalize itoaB E = t at *
       generalize itoaB c = tc at *
       have cat := catS ⟨#[112, 114, 105, 99, 101, 32]⟩ t (by show (6 : Nat) ≤ _; decide) (Nat.le_trans hz (by decide))
       have cat1 := catS ⟨#[98, 101, 116, 32]⟩ t (by show (4 : Nat) ≤ _; decide) (Nat.le_trans hz (by decide))
       have cat2 := catS (⟨#[98, 101, 116, 32]⟩ ++ t) ⟨#[32]⟩ (by rw [ByteArray.size_append]; have : (ByteArray.mk #[98, 101, 116, 32]).size = 4 := rfl; omega) (by show (1 : Nat) ≤ _; decide)
       have cat3 := catS (⟨#[98, 101, 116, 32]⟩ ++ t ++ ⟨#[32]⟩) tc (by rw [ByteArray.size_append, ByteArray.size_append]; have : (ByteArray.mk #[98, 101, 116, 32]).size = 4 := rfl; have : (ByteArray.mk #[32]).size = 1 := rfl; omega) (Nat.le_trans hzc (by decide))
       unfold AskR at HA1
       clear hz hzc hq hpm
       go_wp2_with fail
       refine (HI1.out _ HOP.out.low).mono ?_; rintro e w2 ⟨rfl, b2⟩
       have HA2 := hid (HA1.out w2 b2)
       have HOP := hid (HOP.out.below b2)
       clear HA1 b2
       go_wp2_with fail
       refine (HA2.out).mono ?_; rintro e w3 ⟨rfl, b3⟩
       have HOP := hid (HOP.out.below b3)
       clear HA2 b3 cat
       go_wp2_with fail
       go_cut [18] from 83 to 92 (fun x wx => x = .bool (q && !th) ∧ Hid (OpdS w wx K m A cA L 1 s J (likeC 1 J) false))
       case first =>
        clear cat1 cat2 cat3 HDO HI1
        cases q with
        | true =>
         refine wp_region_held_drew (S := (fun _ => True)) (by kernel_rfl) (by (try dsimp only); (all_goals trivial)) (fun hHeld => ?_)
         have HOP := hid (HOP.out.below (Below.refl _ w3).drew)
         generalize w3.drew = X1 at *
         obtain ⟨X, rfl⟩ : ∃ Y, Y = X1 := ⟨X1, rfl⟩
         refine tk ?_ 0 (some 83) rfl rfl ?_ ?_; rotate_left; · (intro w hSw; (try dsimp only at hSw); go_simp <;> with_reducible rfl)
         try simp only [Act.put, pA0, pA1, pA2]
         refine tk ?_ 3 (some 86) rfl rfl ?_ ?_; rotate_left; · (intro w hSw; (try dsimp only at hSw); go_simp <;> with_reducible rfl)
         try simp only [Act.put, pA0, pA1, pA2]
         refine wpAnyH_ready (rs := [1]) (by kernel_rfl) (by simp) ?_
         refine AllReadyH.cons rfl (fun K hK => ?_) AllReadyH.nil
         go_simp
         refine (HP1.out X HOP.out.low).mono ?_; rintro r wp ⟨rfl, rfl⟩
         have HPB := hid (Blk.new X 9 (strV (sPrice :: ys)).toArray)
         have HOP := hid (HOP.out.below ((Below.refl _ X).alloc (Nat.le_refl _) (.cells (strV (sPrice :: ys)).toArray 9)))
         clear hHeld
         obtain ⟨pb, hpb⟩ : ∃ b, b = X.heap.size := ⟨_, rfl⟩
         rw [← hpb] at HPB ⊢
         clear hpb
         generalize X.alloc (.cells (strV (sPrice :: ys)).toArray 9) = X1 at *
         obtain ⟨X, rfl⟩ : ∃ Y, Y = X1 := ⟨X1, rfl⟩
         refine hK.out _ _ ?_ (fun hHeld => ?_); · ((try dsimp only); (all_goals trivial))
         clear hK K
         try simp only [Act.put, pA0, pA1, pA2]
         refine tk ?_ 2 (some 85) rfl rfl ?_ ?_; rotate_left; · (intro w hSw; (try dsimp only at hSw); go_simp <;> with_reducible rfl)
         try simp only [Act.put, pA0, pA1, pA2]
         refine wpAnyH_ready (rs := [4]) (by kernel_rfl) (by simp) ?_
         refine AllReadyH.cons rfl (fun K hK => ?_) AllReadyH.nil
         go_simp
         refine (HIC.out X HOP.out.low).mono ?_; rintro r X ⟨rfl, b5⟩
         have HOP := hid (HOP.out.below b5)
         try have HPB := hid (HPB.out.keep b5)
         clear b5
         try clear hHeld
         refine hK.out _ _ ?_ (fun hHeld => ?_); · ((try dsimp only); (all_goals trivial))
         clear hK K
         try simp only [Act.put, pA0, pA1, pA2]
         refine wpAnyH_ready (rs := [5]) (by kernel_rfl) (by simp) ?_
         refine AllReadyH.cons rfl (fun K hK => ?_) AllReadyH.nil
         go_simp
         refine (HCT.out pb X HPB.out).mono ?_; rintro r X2 ⟨rfl, rfl⟩
         try clear hHeld
         refine hK.out _ _ ?_ (fun hHeld => ?_); · ((try dsimp only); (all_goals trivial))
         clear hK K
         try simp only [Act.put, pA0, pA1, pA2]
         refine tk ?_ 6 (some 89) rfl rfl ?_ ?_; rotate_left; · (intro w hSw; (try dsimp only at hSw); go_simp <;> with_reducible rfl)
         try simp only [Act.put, pA0, pA1, pA2]
         refine tk ?_ 7 (some 90) rfl rfl ?_ ?_; rotate_left; · (intro w hSw; (try dsimp only at hSw); go_simp <;> with_reducible rfl)
         try simp only [Act.put, pA0, pA1, pA2]
         refine tk ?_ 8 (some 91) rfl rfl ?_ ?_; rotate_left; · (intro w hSw; (try dsimp only at hSw); go_simp <;> with_reducible rfl)
         try simp only [Act.put, pA0, pA1, pA2]
         refine tk ?_ 9 (some 92) rfl rfl ?_ ?_; rotate_left; · (intro w hSw; (try dsimp only at hSw); go_simp <;> with_reducible rfl)
         try simp only [Act.put, pA0, pA1, pA2]
         refine tk ?_ 10 (some 18) rfl rfl ?_ ?_; rotate_left; · (intro w hSw; (try dsimp only at hSw); go_simp <;> with_reducible rfl)
         try simp only [Act.put, pA0, pA1, pA2]
         refine wpAnyH_done (by kernel_rfl) ?_ _
         go_wp2_with fail
         go_meet
         case rel => exact ⟨rfl, HOP⟩
        | false =>
         refine wp_region_held_drew (S := (fun _ => True)) (by kernel_rfl) (by (try dsimp only); (all_goals trivial)) (fun hHeld => ?_)
         have HOP := hid (HOP.out.below (Below.refl _ w3).drew)
         generalize w3.drew = X1 at *
         obtain ⟨X, rfl⟩ : ∃ Y, Y = X1 := ⟨X1, rfl⟩
         refine tk ?_ 0 (some 83) rfl rfl ?_ ?_; rotate_left; · (intro w hSw; (try dsimp only at hSw); go_simp <;> with_reducible rfl)
         try simp only [Act.put, pA0, pA1, pA2]
         refine tk ?_ 3 (some 86) rfl rfl ?_ ?_; rotate_left; · (intro w hSw; (try dsimp only at hSw); go_simp <;> with_reducible rfl)
         try simp only [Act.put, pA0, pA1, pA2]
         refine wpAnyH_ready (rs := [1]) (by kernel_rfl) (by simp) ?_
         refine AllReadyH.cons rfl (fun K hK => ?_) AllReadyH.nil
         go_simp
         refine (HP1.out X HOP.out.low).mono ?_; rintro r wp ⟨rfl, rfl⟩
         have HPB := hid (Blk.new X 9 (strV (sPrice :: ys)).toArray)
         have HOP := hid (HOP.out.below ((Below.refl _ X).alloc (Nat.le_refl _) (.cells (strV (sPrice :: ys)).toArray 9)))
         clear hHeld
         obtain ⟨pb, hpb⟩ : ∃ b, b = X.heap.size := ⟨_, rfl⟩
         rw [← hpb] at HPB ⊢
         clear hpb
         generalize X.alloc (.cells (strV (sPrice :: ys)).toArray 9) = X1 at *
         obtain ⟨X, rfl⟩ : ∃ Y, Y = X1 := ⟨X1, rfl⟩
         refine hK.out _ _ ?_ (fun hHeld => ?_); · ((try dsimp only); (all_goals trivial))
         clear hK K
         try simp only [Act.put, pA0, pA1, pA2]
         refine tk ?_ 2 (some 85) rfl rfl ?_ ?_; rotate_left; · (intro w hSw; (try dsimp only at hSw); go_simp <;> with_reducible rfl)
         try simp only [Act.put, pA0, pA1, pA2]
         refine wpAnyH_ready (rs := [4]) (by kernel_rfl) (by simp) ?_
         refine AllReadyH.cons rfl (fun K hK => ?_) AllReadyH.nil
         go_simp
         refine (HIC.out X HOP.out.low).mono ?_; rintro r X ⟨rfl, b5⟩
         have HOP := hid (HOP.out.below b5)
         try have HPB := hid (HPB.out.keep b5)
         clear b5
         try clear hHeld
         refine hK.out _ _ ?_ (fun hHeld => ?_); · ((try dsimp only); (all_goals trivial))
         clear hK K
         try simp only [Act.put, pA0, pA1, pA2]
         refine wpAnyH_ready (rs := [5]) (by kernel_rfl) (by simp) ?_
         refine AllReadyH.cons rfl (fun K hK => ?_) AllReadyH.nil
         go_simp
         refine (HCT.out pb X HPB.out).mono ?_; rintro r X2 ⟨rfl, rfl⟩
         try clear hHeld
         refine hK.out _ _ ?_ (fun hHeld => ?_); · ((try dsimp only); (all_goals trivial))
         clear hK K
         try simp only [Act.put, pA0, pA1, pA2]
         refine tk ?_ 6 (some 89) rfl rfl ?_ ?_; rotate_left; · (intro w hSw; (try dsimp only at hSw); go_simp <;> with_reducible rfl)
         try simp only [Act.put, pA0, pA1, pA2]
         refine takeD (i := 7) (v := undef) (some 90) rfl rfl (by kernel_rfl) (by kernel_rfl) (by kernel_rfl) (fun _ _ _ h => h) (Or.inr ⟨by rfl, rfl⟩) (by assumption) ?_
         try simp only [Act.put, pA0, pA1, pA2]
         refine takeD (i := 8) (v := undef) (some 91) rfl rfl (by kernel_rfl) (by kernel_rfl) (by kernel_rfl) (fun _ _ _ h => h) (Or.inr ⟨by rfl, rfl⟩) (by assumption) ?_
         try simp only [Act.put, pA0, pA1, pA2]
         refine tk ?_ 9 (some 92) rfl rfl ?_ ?_; rotate_left; · (intro w hSw; (try dsimp only at hSw); go_simp <;> with_reducible rfl)
         try simp only [Act.put, pA0, pA1, pA2]
         refine tk ?_ 10 (some 18) rfl rfl ?_ ?_; rotate_left; · (intro w hSw; (try dsimp only at hSw); go_simp <;> with_reducible rfl)
         try simp only [Act.put, pA0, pA1, pA2]
         refine wpAnyH_done (by kernel_rfl) ?_ _
         go_wp2_with fail
         go_meet
         case rel => exact ⟨rfl, HOP⟩
       case rest =>
        obtain ⟨rfl, HOP⟩ := hcut
        clear HCT HP1
        generalize (q && !th) = may at *
        go_wp2_with fail
        refine (HI1.out _ HOP.out.low).mono ?_; rintro e w5 ⟨rfl, b5⟩
        have HOP := hid (HOP.out.below b5)
        clear b5 HI1
        go_wp2_with fail
        refine (HIC.out _ HOP.out.low).mono ?_; rintro e w6 ⟨rfl, b6⟩
        have HOP := hid (HOP.out.below b6)
        have HD2 := hid (HDO.out _ HOP.out)
        clear b6 HIC HDO
        go_wp2_with fail
        refine (HD2.out).mono ?_; rintro e w7 ⟨⟨word, rfl⟩, hod⟩
        have HLW := hid hod.low
        have HAW := hid (awakeG w7 (HEN.out.keep HLW.out) (HT.out.below HLW.out))
        clear hod HD2 HOP
        cases may with
        | true =>
         rw [if_pos rfl]
         go_wp2_with fail
         refine (HAW.out).mono ?_; rintro e w8 ⟨rfl, b8⟩
         have HB8 := hid (below_call HLW.out b8 HLW.out.size)
         clear b8
         go_wp2
         go_ret
         exact ⟨rfl, HB8.out⟩
        | false =>
         rw [if_neg Bool.false_ne_true]
         go_wp2_with fail
         refine (HAW.out).mono ?_; rintro e w8 ⟨rfl, b8⟩
         have HB8 := hid (below_call HLW.out b8 HLW.out.size)
         clear b8
         go_wp2
         go_ret
         exact ⟨rfl, HB8.out⟩
end Go.Proofs.YtapeledneokgpaaGreatDoor
