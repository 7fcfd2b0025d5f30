/- Walk of the reference's win, with questions. Conditions: a state of numbers that sum to at most 60. -/
import Derived.Test.YtdclmhmdkhpekaaRefW
namespace Go.Proofs.Ytdclmhmdkhpekaa
open Go.RowKit
attribute [local go_sem ↓] shl_p2

/-- What is left to go through. -/
def lm (ok : Bool) (n : Nat) (f : Nat → Int) : Nat := if ok then 0 else 1 + (13845840 - kf f n).toNat
/-- What stands while the reference goes through the questions. -/
def LI (n q : Nat) (W : World) (mb g1 g2 gb : Nat) (L : List Int) (A : Option Addr) (c : Nat) (xs : List Int) (gk : Nat) (v : Value) (w : World) : Prop :=
  ∃ (ok : Bool) (f : Nat → Int) (a b : Nat) (L' : List Int), v = .bool ok ∧ QI n q W w mb g1 g2 a b gb f L L' A c xs ∧ Ok n xs f ∧ (ok = true → winS (q + 1) xs = true) ∧ (ok = false → Before n xs (goodQ (winS q) q xs) f) ∧ gk = lm ok n f

set_option maxRecDepth 100000 in
set_option maxHeartbeats 4000000 in
theorem winR_succ (n q : Nat) (hq : q ≤ 19) (HG0 : GoodR n q) : WinR n (q + 1) := by
  intro mb g1 g2 L A c xs W hx sx ht
  have eq1 : ((q + 1 : Nat) : Int) = (q : Int) + 1 := by omega
  rw [eq1]
  have hn := hx.hi
  have HT := hid (refTotal A n c xs 1000 (by omega) (by omega) hx.bd W sx.sl)
  have HX := hid hx
  have HTab := hid ht
  by_cases h1 : total xs ≤ 1
  · have k1 : decide (total xs ≤ 1) = true := decide_eq_true h1
    have HW := hid (show winS (q + 1) xs = true from winS_small h1 _)
    clear h1 ht
    go_enter Try.func60, Try.ntmps60
    go_wp2_with (go_at_call 65; refine HT.out.mono ?_; rintro e w' ⟨rfl, rfl⟩)
    go_ret
    exact ⟨ret_b HW.out, Aft.same HTab.out (Step.refl _ _ _ _)⟩
  have k1 : decide (total xs ≤ 1) = false := decide_eq_false h1
  have FQ : Fits ((q : Int) + 1) := ⟨by omega, by omega⟩
  have qb : (q : Int) ≤ 19 := by omega
  have q0 : ((q : Int) + 1 == 0) = false := by rw [beq_eq_false_iff_ne]; omega
  have HWt := hid fun m => refWeight A n c xs ((q : Int) + 1) (by omega) (by omega) hn.2 hx.bd (W.drewN m) (sx.sl.drewN m)
  by_cases h2 : weight xs ((q + 1 : Nat) : Int) ≤ p2 ((q + 1 : Nat) : Int)
  case neg =>
    have HW := hid (show winS (q + 1) xs = false by simp only [winS, k1, decide_eq_false h2, Bool.false_or, Bool.false_and])
    have k2 : decide (p2 ((q : Int) + 1) < weight xs ((q : Int) + 1)) = true := decide_eq_true (by rw [eq1] at h2; omega)
    clear h1 h2 ht
    go_enter Try.func60, Try.ntmps60
    go_wp2_with (go_at_call 65; refine HT.out.mono ?_; rintro e w' ⟨rfl, rfl⟩)
    go_quiet ((go_at_call 36; with_reducible exact quiet_same (HWt.out _)))
    go_wp2
    go_ret
    exact ⟨ret_b HW.out, Aft.same (HTab.out.drewN _) ((Step.refl _ _ _ _).drewN _)⟩
  have k2 : decide (p2 ((q : Int) + 1) < weight xs ((q : Int) + 1)) = false := decide_eq_false (by rw [eq1] at h2; omega)
  have HWA := hid (winS_ask h1 h2)
  have SX := hid sx
  have HG := hid HG0
  have m34 := make34 n (by omega)
  clear h1 h2 ht sx hx
  go_enter Try.func60, Try.ntmps60
  go_wp2_with (go_at_call 65; refine HT.out.mono ?_; rintro e w' ⟨rfl, rfl⟩)
  go_quiet ((go_at_call 36; with_reducible exact quiet_same (HWt.out _)))
  generalize hW : W.drewN _ = W1 at *
  have S1 := hid (show Step W W1 mb g1 g2 g1 g2 by rw [← hW]; exact (Step.refl _ _ _ _).drewN _)
  have SX1 := hid (SX.out.step S1.out)
  have T1 := hid (show Tab (OKr n) W1 mb g1 g2 L by rw [← hW]; exact HTab.out.drewN _)
  clear hW HT HWt HTab
  go_wp2_with fail
  refine (keyS A n c xs ((q : Int) + 1) hn.2 (fun j => HX.out.at0 j) (by omega) (by omega) W1 SX1.out.sl).mono ?_; rintro e w2 ⟨rfl, rfl⟩
  have hkey := key_ge HX.out (q + 1)
  have HOK := hid (show OKr n (keyN xs ((q : Int) + 1)) (winS (q + 1) xs) from ⟨q + 1, xs, HX.out, by omega, rfl, rfl⟩)
  have HEQ := hid (show ∀ b, OKr n (keyN xs ((q : Int) + 1)) b → b = winS (q + 1) xs from fun b hb => OKr.eq (q := q + 1) HX.out hb)
  have HKB := hid (show ((q : Int) + 2) * 61 ^ n ≤ keyN xs ((q : Int) + 1) ∧ keyN xs ((q : Int) + 1) < ((q : Int) + 3) * 61 ^ n from by
    rw [show ((q + 1 : Nat) : Int) = (q : Int) + 1 by omega] at hkey
    rw [show (q : Int) + 1 + 1 = (q : Int) + 2 by omega, show (q : Int) + 1 + 2 = (q : Int) + 3 by omega] at hkey
    exact hkey)
  have hkb := bounds_r n _ _ HOK.out
  generalize hkk : keyN xs ((q : Int) + 1) = k at *
  clear hkey hkk
  obtain ⟨N, ks, ws, ta⟩ := T1.out
  have TA := hid ta
  clear ta
  go_wp2_with fail
  refine (placeS (OKr n) mb g1 g2 N ks ws L k hkb.1 hkb.2 W1 TA.out).mono ?_; rintro e w3 ⟨⟨t, hf, rfl⟩, rfl⟩
  have hN := TA.out.nbd
  have hs := slot_lt (show 0 < N by omega) k t
  have c0 := TA.out.bm.cell 0
  have c1 := TA.out.bm.cell 1
  simp only [List.getElem?_toArray, List.getElem?_cons_zero, List.getElem?_cons_succ] at c0 c1
  have z1 := TA.out.bk.cell (slot N k t)
  rw [arr_get hs] at z1
  have z2 := TA.out.bw.cell (slot N k t)
  rw [barr_get hs] at z2
  by_cases hkk : ks (slot N k t) = k
  · have e1 : (ks (slot N k t) == k) = true := by rw [hkk]; simp
    have HB := hid (HEQ.out _ (show OKr n k (ws (slot N k t)) by have := TA.out.tru _ hs (by rw [hkk]; omega); rwa [hkk] at this))
    clear hf hkk
    generalize slot N k t = s at *
    go_wp2_with fail
    go_ret
    exact ⟨ret_b HB.out.symm, Aft.same T1.out S1.out⟩
  have e1 : (ks (slot N k t) == k) = false := by rw [beq_eq_false_iff_ne]; exact hkk
  have HNO := hid (show k ∉ L from TA.out.good.notin hf (hf.at_.resolve_right hkk))
  clear hf hkk
  generalize slot N k t = s at *
  go_wp2_with fail
  refine at_world fun W2 hW2 => ?_
  have lt1 := T1.out.lt
  have Q0 := hid (show QI n q W W2 mb g1 g2 g1 g2 W1.heap.size (fun _ => 0) L L A c xs from ⟨by rw [hW2]; exact T1.out.keep ((Below.refl _ _).alloc (Nat.le_refl _) _), by rw [hW2]; exact S1.out.then_below ((Below.refl _ _).alloc (Nat.le_refl _) _), by rw [hW2]; exact Blk.new _ _ _, S1.out.size, by omega, by rw [hW2]; exact SX1.out.keep ((Below.refl _ _).alloc (Nat.le_refl _) _), fun a ha => (SX.out.ne a ha).1, fun _ h => .inl h⟩)
  clear hW2 lt1 c0 c1 z1 z2 TA e1 hN hs
  have hgb := Q0.out.ge
  generalize W1.heap.size = gb at *
  clear m34 S1 SX1 T1
  have BD := hid fun j => HX.out.at0 j
  go_loopg [53] n (fun gk i wr => ∃ j : Nat, gk + j = n ∧ i = .int .i64 j ∧ QI n q W wr mb g1 g2 g1 g2 gb (fun i => if i < j then at0 xs i / 2 else 0) L L A c xs)
  case atStart => exact ⟨0, by omega, rfl, Q0.out.cong fun j _ => by simp⟩
  case round =>
    obtain ⟨j, hj, rfl, hQ⟩ := hrel
    have HQ := hid hQ
    clear hQ
    by_cases hlt : j < n
    · obtain ⟨b, o, rfl, lb, _, ca⟩ := HQ.out.sl.sl.num hlt
      have cq := HQ.out.blk.cell j
      rw [arr_get hlt, if_neg (by omega)] at cq
      have fq := HQ.out.blk.free j
      have bd := BD.out j
      go_wp2_with fail
      go_roundg (gk - 1)
      case measure => omega
      case rel => exact ⟨j + 1, by omega, by go_num, HQ.out.set j _ fun i hi => by
        by_cases e : i = j
        · subst e; simp
        · by_cases e2 : i < j
          · simp [e, e2, show i < j + 1 by omega]
          · simp [e, e2, show ¬ i < j + 1 by omega]⟩
    · have hjn : j = n := by omega
      subst hjn
      clear Q0
      have HQ1 := hid (HQ.out.cong (f' := fun i => at0 xs i / 2) fun i hi => by rw [if_pos hi])
      have hok1 : Ok j xs (fun i => at0 xs i / 2) := fun i _ => by
        show 0 ≤ at0 xs i / 2 ∧ at0 xs i / 2 ≤ at0 xs i
        have := BD.out i; omega
      have HO1 := hid hok1
      clear HQ hj hok1
      go_wp2_with fail
      refine (HG.out mb g1 g2 L A (some ⟨gb, 0, none⟩) c j xs (fl j fun i => at0 xs i / 2) wr HX.out (HO1.out.ask HX.out.len) HQ1.out.sl (HQ1.out.row (by omega)) HQ1.out.tab).mono ?_
      rintro e w4 ⟨rfl, h4⟩
      obtain ⟨a4, b4, L4, hq4⟩ := HQ1.out.aft h4
      have HQ4 := hid hq4
      have HE := hid (show goodQ (winS q) q xs (fl j fun i => at0 xs i / 2) = true → winS (q + 1) xs = true from fun h => by rw [HWA.out]; exact (firstQ_some_iff HX.out.nn).2 ⟨_, HO1.out.ask HX.out.len, h⟩)
      generalize goodQ (winS q) q xs (fl j fun i => at0 xs i / 2) = ok0 at *
      clear h4 hq4 HQ1
      go_wp2_with fail
      go_loopg [72] j (fun gk i wr => ∃ m : Nat, gk + m = j ∧ i = .int .i64 m ∧ QI j q W wr mb g1 g2 a4 b4 gb (fun i => if i < m then 0 else at0 xs i / 2) L L4 A c xs)
      case atStart => exact ⟨0, by omega, rfl, HQ4.out.cong fun i _ => by simp⟩
      case round =>
        obtain ⟨m, hm, rfl, hQ⟩ := hrel
        have HQ := hid hQ
        clear hQ
        by_cases hlt : m < j
        · have cq := HQ.out.blk.cell m
          rw [arr_get hlt, if_neg (by omega)] at cq
          have fq := HQ.out.blk.free m
          go_wp2_with fail
          go_roundg (gk - 1)
          case measure => omega
          case rel => exact ⟨m + 1, by omega, by go_num, HQ.out.set m _ fun i hi => by
            by_cases e : i = m
            · subst e; simp
            · by_cases e2 : i < m
              · simp [e, e2, show i < m + 1 by omega]
              · simp [e, e2, show ¬ i < m + 1 by omega]⟩
        · have hjm : m = j := by omega
          subst hjm
          have HQ5 := hid (HQ.out.cong (f' := fun _ => 0) fun i hi => by rw [if_pos hi])
          clear HQ HQ4 hm
          go_wp2_with fail
          go_loopg [11] (lm ok0 m fun _ => 0) (fun gk v wr => LI m q W mb g1 g2 gb L A c xs gk v wr)
          case atStart => exact ⟨ok0, _, _, _, _, rfl, HQ5.out, fun i _ => ⟨Int.le_refl _, (BD.out i).1⟩, HE.out, fun _ => before_zero, rfl⟩
          case round =>
            obtain ⟨ok, f, a, b, L5, rfl, hQ, hok, h1, h0, hgk⟩ := hrel
            have HQ := hid hQ; have HO := hid hok; have H0 := hid h0; have HGK := hid hgk
            have fb : ∀ i, i < m → 0 ≤ f i ∧ f i ≤ 60 := fun i hi => by have := hok i hi; have := BD.out i; omega
            have FB := hid fb
            clear hQ hok h0 hgk fb HQ5
            cases ok with
            | true =>
              have HW := hid (h1 rfl)
              clear h1
              have hne : k ∉ L5 := fun hk => by
                rcases HQ.out.more k hk with h | h
                · exact HNO.out h
                · have := HKB.out.1; omega
              have HPT := hid (putS (OKr m) mb a b L5 k true (bounds_r m) (by rw [← HW.out]; exact HOK.out) hne _ HQ.out.tab)
              clear hne
              go_wp2_with fail
              refine HPT.out.mono ?_; rintro e w9 ⟨rfl, a9, b9, L9, t9, m9, s9⟩
              have HA := hid (show Aft m W w9 mb g1 g2 L (q + 1) from ⟨a9, b9, L9, t9, HQ.out.step.trans s9, fun x hx => by
                rw [m9] at hx
                rw [eq1]
                rw [show (q : Int) + 1 + 2 = (q : Int) + 3 by omega]
                rcases hx with rfl | hx
                · exact .inr HKB.out.2
                · refine (HQ.out.more x hx).imp_right fun h => ?_
                  have hp : (0 : Int) ≤ 61 ^ m := Int.pow_nonneg (by decide)
                  have := Int.mul_le_mul_of_nonneg_right (show (q : Int) + 2 ≤ (q : Int) + 3 by omega) hp
                  omega⟩)
              clear t9 m9 s9 HPT
              go_wp2_with fail
              go_ret
              exact ⟨ret_b HW.out, HA.out⟩
            | false =>
              clear h1
              go_wp2_with fail
              refine (HG.out mb a b L5 A (some ⟨gb, 0, none⟩) c m xs (fl m f) wr HX.out (HO.out.ask HX.out.len) HQ.out.sl (HQ.out.row (by omega)) HQ.out.tab).mono ?_
              rintro e w6 ⟨rfl, h6⟩
              obtain ⟨a6, b6, L6, hq6⟩ := HQ.out.aft h6
              have HQ6 := hid hq6
              clear h6 hq6 HQ
              cases hg : goodQ (winS q) q xs (fl m f) with
              | true =>
                have HW := hid (show winS (q + 1) xs = true by rw [HWA.out]; exact (firstQ_some_iff HX.out.nn).2 ⟨_, HO.out.ask HX.out.len, hg⟩)
                clear hg
                go_wp2_with fail
                go_roundg 0
                case measure => have := HGK.out; unfold lm at this; simp at this; omega
                case rel => exact ⟨true, f, _, _, _, rfl, HQ6.out, HO.out, fun _ => HW.out, fun h => (by cases h), rfl⟩
              | false =>
                have HGF := hid hg
                clear hg
                go_wp2_with fail
                refine (nextS A m c gb m xs f hn.2 (fun i => BD.out i) FB.out w6 HQ6.out.sl.sl (fun a ha => by have h1 := HQ6.out.nb a ha; have h2 := HQ6.out.ge; omega) HQ6.out.blk).mono ?_
                rintro e w7 ⟨f', okn, rfl, hr, hb7, hg7⟩
                have HQ7 := hid (HQ6.out.grown hg7 hb7)
                have HR := hid hr
                clear hr hb7 hg7 HQ6
                cases okn with
                | true =>
                  go_wp2_with fail
                  go_roundg (lm false m f')
                  case measure =>
                    have h1 := HGK.out
                    have h2 := kf_next hn.2 FB.out HR.out
                    have hO := next_ok HO.out HR.out
                    have h3 := kf_bd (f := f') hn.2 (fun i hi => by have := hO i hi; have := BD.out i; omega)
                    unfold lm at h1 ⊢
                    simp only [Bool.false_eq_true, if_false] at h1 ⊢
                    omega
                  case rel => exact ⟨false, f', _, _, _, rfl, HQ7.out, next_ok HO.out HR.out, fun h => (by cases h), fun _ => before_step HX.out.len (H0.out trivial) HGF.out HR.out, rfl⟩
                | false =>
                  have HW := hid (show winS (q + 1) xs = false by
                    rw [HWA.out]
                    cases hfi : (findQ q xs).isSome with
                    | false => rfl
                    | true =>
                      obtain ⟨s', hs1, hs2⟩ := (firstQ_some_iff HX.out.nn).1 hfi
                      rw [before_end HX.out.len (H0.out trivial) HGF.out HR.out s' hs1] at hs2
                      cases hs2)
                  have hne : k ∉ L6 := fun hk => by
                    rcases HQ7.out.more k hk with h | h
                    · exact HNO.out h
                    · have := HKB.out.1; omega
                  have HPT := hid (putS (OKr m) mb a6 b6 L6 k false (bounds_r m) (by rw [← HW.out]; exact HOK.out) hne _ HQ7.out.tab)
                  clear hne
                  go_wp2_with fail
                  refine HPT.out.mono ?_; rintro e w9 ⟨rfl, a9, b9, L9, t9, m9, s9⟩
                  have HA := hid (show Aft m W w9 mb g1 g2 L (q + 1) from ⟨a9, b9, L9, t9, HQ7.out.step.trans s9, fun x hx => by
                    rw [m9] at hx
                    rw [eq1]
                    rw [show (q : Int) + 1 + 2 = (q : Int) + 3 by omega]
                    rcases hx with rfl | hx
                    · exact .inr HKB.out.2
                    · refine (HQ7.out.more x hx).imp_right fun h => ?_
                      have hp : (0 : Int) ≤ 61 ^ m := Int.pow_nonneg (by decide)
                      have := Int.mul_le_mul_of_nonneg_right (show (q : Int) + 2 ≤ (q : Int) + 3 by omega) hp
                      omega⟩)
                  clear t9 m9 s9 HPT
                  go_wp2_with fail
                  go_ret
                  exact ⟨ret_b HW.out, HA.out⟩
end Go.Proofs.Ytdclmhmdkhpekaa
