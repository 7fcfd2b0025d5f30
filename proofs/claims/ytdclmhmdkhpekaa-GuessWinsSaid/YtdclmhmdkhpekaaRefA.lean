/- Walk of the reference's Ask. Conditions: a state of numbers that sum to at most 60, questions to 20. -/
import Derived.Test.YtdclmhmdkhpekaaRefL
import Derived.Test.YtdclmhmdkhpekaaWalkAsked
namespace Go.Proofs.Ytdclmhmdkhpekaa
open Go.RowKit

set_option maxRecDepth 100000 in
set_option maxHeartbeats 2000000 in
theorem refAskNo (A : Option Addr) (n c : Nat) (xs : List Int) (q : Nat) (hq : q ≤ 20) (hx : St n xs) (w : World) (hs : Sl w A n c (xs.map (Value.int .i64))) (hw : ¬ (winS q xs = true ∧ 1 < total xs)) :
    Calls Try.prog 49 #[.slice A n c, .int .i64 q] w fun e w' => ∃ A' m c', e = .returned (.tuple #[.slice A' m c', .int .i64 (askE q xs)]) ∧ Sl w' A' m c' ((askR q xs).map (Value.int .i64)) ∧ Below w.heap.size w w' := by
  have HT := hid (refTotal A n c xs 1000 (by omega) (by have := hx.hi; omega) hx.bd w hs)
  have HF := hid (freshS (OKr n) w)
  have HW := hid (winR n q hq)
  have HS := hid hs
  have HX := hid hx
  clear hs
  by_cases h1 : total xs ≤ 1
  · have k1 : decide (total xs ≤ 1) = true := decide_eq_true h1
    have ea : askE q xs = 5 := if_pos h1
    have ra : askR q xs = [] := if_pos h1
    rw [ea, ra]
    clear h1 hw hx ea ra
    go_enter Try.func49, Try.ntmps49
    go_wp2_with (go_at_call 65; refine HT.out.mono ?_; rintro e w' ⟨rfl, rfl⟩)
    go_ret2
    exact ⟨none, 0, 0, rfl, Sl.nil _, Below.refl _ _⟩
  · have k1 : decide (total xs ≤ 1) = false := decide_eq_false h1
    have hf : winS q xs = false := by
      cases e : winS q xs with
      | false => rfl
      | true => exact absurd ⟨e, by omega⟩ hw
    have ea : askE q xs = 4 := by unfold askE; rw [if_neg h1, if_neg (by rw [hf]; simp)]
    have ra : askR q xs = [] := by unfold askR; rw [if_neg h1, if_neg (by rw [hf]; simp)]
    rw [ea, ra]
    have HFF := hid hf
    clear h1 hw hx ea ra hf
    go_enter Try.func49, Try.ntmps49
    go_wp2_with (first | (go_at_call 65; refine HT.out.mono ?_; rintro e w' ⟨rfl, rfl⟩) | fail)
    refine HF.out.mono ?_; rintro e w1 ⟨mb, g1, g2, rfl, ta, b1, l0, l1, l2⟩
    have S1 := hid (show SlT w1 mb g1 g2 A n c xs from ⟨HS.out.below b1, fun a ha => by
      obtain ⟨b, o, e, hb, _⟩ := HS.out.pos (by have := HX.out.hi; omega)
      rw [ha] at e
      cases e
      have := b1.size
      exact ⟨by simp; omega, by simp; omega, by simp; omega, by simp; omega⟩⟩)
    have T1 := hid (show Tab (OKr n) w1 mb g1 g2 [] from ⟨_, _, _, ta⟩)
    have B1 := hid b1
    clear ta b1
    go_wp2_with fail
    have hw := HW.out mb g1 g2 [] A c xs w1 HX.out S1.out T1.out
    rw [HFF.out] at hw
    refine hw.mono ?_; rintro e w2 ⟨rfl, a, b, L, _, st, _⟩
    have B2 := hid (st.below B1.out B1.out.size l0 l1 l2)
    clear st hw
    go_wp2_with fail
    go_ret2
    exact ⟨none, 0, 0, rfl, Sl.nil _, B2.out⟩

set_option maxRecDepth 100000 in
set_option maxHeartbeats 2000000 in
theorem refAskYes (A : Option Addr) (n c : Nat) (xs : List Int) (q : Nat) (hq : q + 1 ≤ 20) (hx : St n xs) (w : World) (hs : Sl w A n c (xs.map (Value.int .i64))) (hw : winS (q + 1) xs = true) (ht : 1 < total xs) :
    Calls Try.prog 49 #[.slice A n c, .int .i64 ((q : Int) + 1)] w fun e w' => ∃ A' m c', e = .returned (.tuple #[.slice A' m c', .int .i64 0]) ∧ Sl w' A' m c' ((askR (q + 1) xs).map (Value.int .i64)) ∧ Below w.heap.size w w' := by
  have HT := hid (refTotal A n c xs 1000 (by omega) (by have := hx.hi; omega) hx.bd w hs)
  have HF := hid (freshS (OKr n) w)
  have HW0 := winR n (q + 1) hq
  have HG := hid (goodR n q (by omega))
  have HS := hid hs
  have HX := hid hx
  have hn := hx.hi
  have k1 : decide (total xs ≤ 1) = false := decide_eq_false (by omega)
  have hwt : weight xs ((q + 1 : Nat) : Int) ≤ p2 ((q + 1 : Nat) : Int) := winS_weight hx.nn hw
  have hfi := hw
  rw [winS_ask (by omega) hwt] at hfi
  obtain ⟨r, hr⟩ := Option.isSome_iff_exists.1 hfi
  obtain ⟨hg, s, hrs, hl, hb⟩ := firstQ_good _ _ _ hr
  have hrs' : r = s := by simpa using hrs
  subst hrs'
  have hok : askOk xs r = true := askOk_iff.2 ⟨hl, fun j hj => by have h2 := hb j (by omega); have h3 := hx.nn.nn j (by omega); omega⟩
  have HRA := hid (show askR (q + 1) xs = r by unfold askR; rw [if_neg (by omega), if_pos hw, Nat.add_sub_cancel, hr]; rfl)
  have HR := hid hr
  have HGR := hid hg
  have HOK := hid hok
  have eq1 : ((q + 1 : Nat) : Int) = (q : Int) + 1 := by omega
  have HW := hid fun mb g1 g2 L A c W h1 h2 => by
    have := HW0 mb g1 g2 L A c xs W hx h1 h2
    rw [hw, eq1] at this
    exact this
  have BD := hid fun j => hx.at0 j
  have m34 := make34 n (by omega)
  clear hs hx HW0 hwt hfi hr hg hrs hl hb hok ht hw
  go_enter Try.func49, Try.ntmps49
  go_wp2_with (first | (go_at_call 65; refine HT.out.mono ?_; rintro e w' ⟨rfl, rfl⟩) | fail)
  refine HF.out.mono ?_; rintro e w1 ⟨mb, g1, g2, rfl, ta, b1, l0, l1, l2⟩
  have S1 := hid (show SlT w1 mb g1 g2 A n c xs from ⟨HS.out.below b1, fun a ha => by
    obtain ⟨b, o, e, hb, _⟩ := HS.out.pos (by omega)
    rw [ha] at e
    cases e
    have := b1.size
    exact ⟨by simp; omega, by simp; omega, by simp; omega, by simp; omega⟩⟩)
  have NB := hid (show ∀ a, A = some a → a.block < w.heap.size from fun a ha => by
    obtain ⟨b, o, e, hb, _⟩ := HS.out.pos (by omega)
    rw [ha] at e
    cases e
    exact hb)
  have T1 := hid (show Tab (OKr n) w1 mb g1 g2 [] from ⟨_, _, _, ta⟩)
  have B1 := hid b1
  clear ta b1
  go_wp2_with fail
  refine (HW.out mb g1 g2 [] A c w1 S1.out T1.out).mono ?_; rintro e w2 ⟨rfl, a, b, L, t2, st, _⟩
  have B2 := hid (st.below B1.out B1.out.size l0 l1 l2)
  have S2 := hid (S1.out.step st)
  have T2 := hid t2
  have la : w.heap.size ≤ a ∧ w.heap.size ≤ b := by have := B1.out.size; exact ⟨by rcases st.n1 with e | e <;> omega, by rcases st.n2 with e | e <;> omega⟩
  have hm : Tab (OKr n) w2 mb a b L := t2
  clear st t2 S1 T1
  go_wp2_with fail
  refine at_world fun W2 hW2 => ?_
  have lt := hm.lt
  have Q0 := hid (show QI n q w2 W2 mb a b a b w2.heap.size (fun _ => 0) L L A c xs from ⟨by rw [hW2]; exact T2.out.keep ((Below.refl _ _).alloc (Nat.le_refl _) _), by rw [hW2]; exact (Step.refl _ _ _ _).then_below ((Below.refl _ _).alloc (Nat.le_refl _) _), by rw [hW2]; exact Blk.new _ _ _, Nat.le_refl _, by omega, by rw [hW2]; exact S2.out.keep ((Below.refl _ _).alloc (Nat.le_refl _) _), fun a ha => by have := NB.out a ha; have := B2.out.size; omega, fun _ h => .inl h⟩)
  clear hW2 hm T2 S2 m34
  generalize hgb : w2.heap.size = gb at *
  go_loopg [20] (lm false n fun _ => 0) (fun gk v wr => ∃ f a' b' L', v = v ∧ QI n q w2 wr mb a b a' b' gb f L L' A c xs ∧ Ok n xs f ∧ Before n xs (goodQ (winS q) q xs) f ∧ gk = lm false n f)
  case atStart => exact ⟨_, _, _, _, rfl, Q0.out, fun i _ => ⟨Int.le_refl _, (BD.out i).1⟩, before_zero, rfl⟩
  case round =>
    obtain ⟨f, a', b', L', _, hQ, hok, hbf, hgk⟩ := hrel
    have HQ := hid hQ; have HO := hid hok; have HB := hid hbf; have HGK := hid hgk
    have FB := hid (show ∀ i, i < n → 0 ≤ f i ∧ f i ≤ 60 from fun i hi => by have := hok i hi; have := BD.out i; omega)
    clear hQ hok hbf hgk Q0
    go_wp2_with fail
    refine (HG.out mb a' b' L' A (some ⟨gb, 0, none⟩) c n xs (fl n f) wr HX.out (HO.out.ask HX.out.len) HQ.out.sl (HQ.out.row (by omega)) HQ.out.tab).mono ?_
    rintro e w6 ⟨rfl, h6⟩
    obtain ⟨a6, b6, L6, hq6⟩ := HQ.out.aft h6
    have HQ6 := hid hq6
    clear h6 hq6 HQ
    cases hg : goodQ (winS q) q xs (fl n f) with
    | true =>
      have HE := hid (first_is HX.out.len HO.out hg HB.out HR.out HOK.out HGR.out)
      clear hg
      go_wp2_with fail
      go_ret2
      exact ⟨_, _, _, rfl, by rw [HRA.out, HE.out]; exact HQ6.out.row (by omega), HQ6.out.step.below B2.out B2.out.size (by omega) la.1 la.2⟩
    | false =>
      have HGF := hid hg
      clear hg
      go_wp2_with fail
      refine (nextS A n c gb n xs f hn.2 (fun i => BD.out i) FB.out w6 HQ6.out.sl.sl (fun a ha => by have h1 := HQ6.out.nb a ha; have h2 := HQ6.out.ge; omega) HQ6.out.blk).mono ?_
      rintro e w7 ⟨f', okn, rfl, hr, hb7, hg7⟩
      have HQ7 := hid (HQ6.out.grown hg7 hb7)
      have HNR := hid hr
      clear hr hb7 hg7 HQ6
      cases okn with
      | true =>
        go_wp2_with fail
        go_roundg (lm false n f')
        case measure =>
          have h1 := HGK.out
          have h2 := kf_next hn.2 FB.out HNR.out
          have hO := next_ok HO.out HNR.out
          have h3 := kf_bd (f := f') hn.2 (fun i hi => by have := hO i hi; have := BD.out i; omega)
          unfold lm at h1 ⊢
          simp only [Bool.false_eq_true, if_false] at h1 ⊢
          omega
        case rel => exact ⟨f', _, _, _, trivial, HQ7.out, next_ok HO.out HNR.out, before_step HX.out.len HB.out HGF.out HNR.out, rfl⟩
      | false =>
        have := before_end HX.out.len HB.out HGF.out HNR.out r HOK.out
        rw [HGR.out] at this
        cases this
end Go.Proofs.Ytdclmhmdkhpekaa
