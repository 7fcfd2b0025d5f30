/- Walk of asker.plan. Conditions: an asker; a view of at most six elements; a row of nodes of the call's own. -/
import Derived.Test.YtjddbglbodkihaaDoorPlanS
import Derived.Test.YtjddbglbodkihaaDoorLenW
import Derived.Test.YtjddbglbodkihaaDoorJoinF
import Derived.Deep.AppendLies
import Derived.Deep.CutRange
namespace Go.Proofs.YtjddbglbodkihaaDoor
open Go.RowKit Go.Maps
attribute [local go_sem ↓] shl_p2 shl_u or_u shr_u and_shrF shr_v and_shr andNot_v and_nn or_i

theorem own_chg {R : Nat → Prop} {w w' : World} {base : Nat} {e : TypeId} {size n : Nat} {v : Value} {xs : List Value} (h : w.ownsRow base e size v n xs) (k : Chg R w w') (hr : ∀ g, v.ownBlock = some g → ¬ R g) : w'.ownsRow base e size v n xs := by
  refine ⟨h.1, ?_⟩
  rcases h.2 with h2 | ⟨g, cap, cur, hv, hg, hb, r⟩
  · exact .inl h2
  · exact .inr ⟨g, cap, cur, hv, hg, (k.block g (lt_of_block hb) (hr g (by rw [hv]; rfl))).trans hb, r⟩
/-- What plan does for the views with d elements left. -/
def PlanTo (base s n F M1 M2 d : Nat) : Prop := ∀ (a i : Nat) (W : World) (t : Value) (q : Nat) (ts : List Nd), un n a = d → View n a i → ts.length = q → q + 2 ^ d ≤ 200 → AS W s n F M1 M2 (bestN n F.testBit) → base ≤ W.heap.size → W.ownsRow base 94 3 t q (flatN ts) →
  Calls Tryd.prog 74 #[.pointer (some ⟨s, 0, none⟩), .agg #[.int .i64 a, .int .i64 i], t] W fun e W' => ∃ t', e = .returned (.tuple #[t', .int .i64 (rootP n F a i q)]) ∧
    W'.ownsRow base 94 3 t' (q + (planL n F a i q).length) (flatN (ts ++ planL n F a i q)) ∧ Same W t t' ∧ Chg (Rt3 M1 M2 t) W W' ∧ AS W' s n F M1 M2 (bestN n F.testBit)
set_option maxRecDepth 100000 in
set_option maxHeartbeats 8000000 in
theorem planStep (base s n F M1 M2 d : Nat) (hn : n ≤ 6) (hF : F < 18446744073709551616) (OL : OldA base s M1 M2) (IH : ∀ j, j + 1 = d → PlanTo base s n F M1 M2 j) : PlanTo base s n F M1 M2 d := by
  intro a i W t q ts hd hv hq hq2 hs hb ho
  have hvb := view60 hn hv
  obtain ⟨A0, c0, rfl⟩ := own_form ho
  have hb1 : Below W.heap.size W (W.alloc (.cells #[.int .i64 a, .int .i64 i] 87)) := (Below.refl _ _).alloc (Nat.le_refl _) _
  have HAS := hid (askS s n F M1 M2 a i _ hn hF hv (hs.below hb1))
  have HTWO := hid (show ∀ k, base ≤ k → ¬ Two M1 M2 k from fun k hk r => by
    have h1 := OL.m1; have h2 := OL.m2
    rcases r with r | r <;> omega)
  have HW1 := hid fun w1 (st : Stp M1 M2 (W.alloc (.cells #[.int .i64 a, .int .i64 i] 87)) w1) => (show Blk w1 W.heap.size 87 #[.int .i64 a, .int .i64 i] ∧ w1.ownsRow base 94 3 (.slice A0 q c0) q (flatN ts) ∧ Chg (Rt3 M1 M2 (.slice A0 q c0)) W w1 from
    ⟨st.chg.blk (Blk.new W 87 _) (HTWO.out _ hb), own_chg (own_below ho hb1) st.chg fun g e => HTWO.out g (ho.lt g e).1, (Chg.of_below hb1).trans ⟨st.chg.os, st.chg.tape, st.chg.output, st.chg.size, fun k hk hr => st.chg.block k hk fun r => hr (.inl r)⟩⟩)
  have HFAR := hid (show ∀ g, (Value.slice A0 q c0).ownBlock = some g → W.heap.size ≠ g from fun g e => by have := (ho.lt g e).2; omega)
  have HB := hid hb
  have HO := hid ho
  cases hst : settl (2 ^ n) F.testBit a i
  · have hpos := ask_pos hst
    have hal := askN_le n F.testBit _ a i rfl
    have hule := un_le n a
    have q1 : (((askN n F.testBit a i : Nat) : Int) == 0) = false := by rw [beq_eq_false_iff_ne]; omega
    have q1n : (askN n F.testBit a i == 0) = false := by rw [beq_eq_false_iff_ne]; omega
    obtain ⟨hx1, hx2, -⟩ := best_is hst
    obtain ⟨kl, hkey⟩ := keyA_key (a := a) (i := i) (by omega) (by omega)
    have HKEY := hid hkey
    have HHAS := hid hst
    have hr : rootP n F a i q = q := by unfold rootP; rw [hst]; rfl
    rw [hr]
    have HPL := hid (planL_step (q := q) hst)
    generalize hbx : bestN n F.testBit a i = x at *
    have HBX := hid hbx
    generalize askN n F.testBit a i = k0 at *
    clear hbx hpos hal hs hb ho hkey hr
    go_enter Tryd.func74, Tryd.ntmps74
    go_wp2_with fail
    refine (HAS.out).mono ?_; rintro e w1 ⟨rfl, hstp, has, hhas⟩
    have HPS := hid (HW1.out w1 hstp)
    have HA1 := hid has
    have KPW := hid (show ∀ w', Below w1.heap.size w1 w' → (w'.cell? ⟨s, 3, none⟩ = some (.map (some M2)) ∧ w'.cell? ⟨W.heap.size, 0, none⟩ = some (.int .i64 a) ∧ w'.cell? ⟨W.heap.size, 1, none⟩ = some (.int .i64 i) ∧ (Instr.lookup 110 (.map (some M2)) (.agg #[.int .i64 a, .int .i64 i]) false).run Tryd.prog w' = .ok (.int .i64 (x : Nat)) w') from fun w' hb2 => by
      refine ⟨(has.below hb2).blk.cell 3, (HPS.out.1.keep hb2).cell 0, (HPS.out.1.keep hb2).cell 1, ?_⟩
      rcases (has.below hb2).best.look K87 M110 Z3 HKEY.out (.int .i64 (x : Nat)) (fun v hv => by rw [← HBX.out]; exact hv a i rfl) with ⟨_, h⟩ | ⟨hno2, _⟩
      · exact h false 0
      · exact absurd ((has_same (hb2.block _ has.best.lt)).2 (hhas HHAS.out)) hno2)
    clear hstp has hhas
    go_wp2_with fail
    refine wp_region_held_drew (S := (fun w' => w'.cell? ⟨s, 3, none⟩ = some (.map (some M2)) ∧ w'.cell? ⟨W.heap.size, 0, none⟩ = some (.int .i64 a) ∧ w'.cell? ⟨W.heap.size, 1, none⟩ = some (.int .i64 i) ∧ (Instr.lookup 110 (.map (some M2)) (.agg #[.int .i64 a, .int .i64 i]) false).run Tryd.prog w' = .ok (.int .i64 (x : Nat)) w')) (by kernel_rfl) (by (try dsimp only); (first | assumption | exact KPW.out _ (Below.refl w1.heap.size w1).drew | exact KPW.out _ ((Below.refl w1.heap.size w1).drew.alloc (by simp) _) | exact KPW.out _ (((Below.refl w1.heap.size w1).drew.alloc (by simp) _).setCell (by simp) _))) (fun hHeld => ?_)
    refine takeD (i := 0) (v := ?_) (some 17) rfl rfl (by kernel_rfl) (by kernel_rfl) (by kernel_rfl) (fun _ _ _ h => h) (Or.inl ⟨by rfl, ?_⟩) (by assumption) ?_
    rotate_left
    · intro w hSw
      (try dsimp only at hSw)
      first
        | (go_simp; done)
        | (go_simp; with_reducible rfl)
    try simp only [Act.put, List.setIfInBounds_toArray, List.set_cons_zero, List.set_cons_succ]
    refine takeD (i := 1) (v := ?_) (some 18) rfl rfl (by kernel_rfl) (by kernel_rfl) (by kernel_rfl) (fun _ _ _ h => h) (Or.inl ⟨by rfl, ?_⟩) (by assumption) ?_
    rotate_left
    · intro w hSw
      (try dsimp only at hSw)
      first
        | (go_simp; done)
        | (go_simp; with_reducible rfl)
    try simp only [Act.put, List.setIfInBounds_toArray, List.set_cons_zero, List.set_cons_succ]
    refine takeD (i := 2) (v := ?_) (some 19) rfl rfl (by kernel_rfl) (by kernel_rfl) (by kernel_rfl) (fun _ _ _ h => h) (Or.inl ⟨by rfl, ?_⟩) (by assumption) ?_
    rotate_left
    · intro w hSw
      (try dsimp only at hSw)
      first
        | (go_simp; done)
        | (go_simp; with_reducible rfl)
    try simp only [Act.put, List.setIfInBounds_toArray, List.set_cons_zero, List.set_cons_succ]
    refine takeD (i := 3) (v := ?_) (some 20) rfl rfl (by kernel_rfl) (by kernel_rfl) (by kernel_rfl) (fun _ _ _ h => h) (Or.inl ⟨by rfl, ?_⟩) (by assumption) ?_
    rotate_left
    · intro w hSw
      (try dsimp only at hSw)
      first
        | (go_simp; done)
        | (go_simp; with_reducible rfl)
    try simp only [Act.put, List.setIfInBounds_toArray, List.set_cons_zero, List.set_cons_succ]
    refine takeD (i := 4) (v := ?_) (some 21) rfl rfl (by kernel_rfl) (by kernel_rfl) (by kernel_rfl) (fun _ _ _ h => h) (Or.inl ⟨by rfl, ?_⟩) (by assumption) ?_
    rotate_left
    · intro w hSw
      (try dsimp only at hSw)
      first
        | (go_simp; done)
        | (go_simp; with_reducible rfl)
    try simp only [Act.put, List.setIfInBounds_toArray, List.set_cons_zero, List.set_cons_succ]
    refine takeD (i := 5) (v := ?_) (some 22) rfl rfl (by kernel_rfl) (by kernel_rfl) (by kernel_rfl) (fun _ _ _ h => h) (Or.inl ⟨by rfl, ?_⟩) (by assumption) ?_
    rotate_left
    · intro w hSw
      (try dsimp only at hSw)
      first
        | (go_simp; done)
        | (go_simp; with_reducible rfl)
    try simp only [Act.put, List.setIfInBounds_toArray, List.set_cons_zero, List.set_cons_succ]
    refine takeD (i := 6) (v := ?_) (some 23) rfl rfl (by kernel_rfl) (by kernel_rfl) (by kernel_rfl) (fun _ _ _ h => h) (Or.inl ⟨by rfl, ?_⟩) (by assumption) ?_
    rotate_left
    · intro w hSw
      (try dsimp only at hSw)
      first
        | (go_simp; done)
        | (go_simp; with_reducible rfl)
    try simp only [Act.put, List.setIfInBounds_toArray, List.set_cons_zero, List.set_cons_succ]
    refine wpAnyH_ready (rs := [7]) (by kernel_rfl) (by simp) ?_
    refine AllReadyH.cons rfl (fun K hK => ?_) AllReadyH.nil
    go_simp
    refine hK.out _ _ ?_ (fun hHeld => ?_)
    · (try dsimp only)
      (first | assumption | exact KPW.out _ (Below.refl w1.heap.size w1).drew | exact KPW.out _ ((Below.refl w1.heap.size w1).drew.alloc (by simp) _) | exact KPW.out _ (((Below.refl w1.heap.size w1).drew.alloc (by simp) _).setCell (by simp) _))
    clear hK K
    try simp only [Act.put, List.setIfInBounds_toArray, List.set_cons_zero, List.set_cons_succ]
    refine wpAnyH_ready (rs := [8]) (by kernel_rfl) (by simp) ?_
    refine AllReadyH.cons rfl (fun K hK => ?_) AllReadyH.nil
    go_simp
    refine hK.out _ _ ?_ (fun hHeld => ?_)
    · (try dsimp only)
      (first | assumption | exact KPW.out _ (Below.refl w1.heap.size w1).drew | exact KPW.out _ ((Below.refl w1.heap.size w1).drew.alloc (by simp) _) | exact KPW.out _ (((Below.refl w1.heap.size w1).drew.alloc (by simp) _).setCell (by simp) _))
    clear hK K
    try simp only [Act.put, List.setIfInBounds_toArray, List.set_cons_zero, List.set_cons_succ]
    refine wpAnyH_done (by kernel_rfl) ?_ _
    have J4 := hid (show PS W (w1.alloc (.cells #[.int .i64 x, .int .i64 0, .int .i64 0] 94)).drew W.heap.size w1.heap.size s n F M1 M2 a i x 0 base (.slice A0 q c0) (.slice A0 q c0) q ts from
      { view := (HPS.out.1.alloc _).drew, node := (Blk.new w1 94 _).drew, ask := (HA1.out.below ((Below.refl w1.heap.size w1).alloc (Nat.le_refl _) _)).drew, own := own_below HPS.out.2.1 ((Below.refl w1.heap.size w1).alloc (Nat.le_refl _) _).drew, same := .inl rfl, chg := (HPS.out.2.2.trans (Chg.of_below ((Below.refl w1.heap.size w1).alloc (Nat.le_refl _) _))).drew, far := fun g e => ⟨HFAR.out g e, by have := (HPS.out.2.1.lt g e).2; omega⟩, old := OL, hb := HB.out, hv := Nat.le_refl _, hx := HPS.out.2.2.size, ne := by have := HPS.out.1.lt; omega })
    go_wp2_with fail
    refine at_world fun W4 hW4 => ?_
    rw [← hW4] at J4
    clear hW4
    have J5 := hid J4.out.drew
    obtain ⟨i0, hi0, hz0, hz1, hzz⟩ := info_parts TN.inf
    have hun := un_ad hx1 hx2
    have HG0 := hid fun W' t' q' ts' => IH (un n (ad a x)) (by omega) (ad a x) i W' t' q' ts' rfl (hv.out hx1)
    have HG1 := hid fun W' t' q' ts' => IH (un n (ad a x)) (by omega) (ad a x) (ad i x) W' t' q' ts' rfl (hv.inn hx1)
    have HT0 := hid fun W => then0 a i x W (by omega) (by omega) (by omega)
    have HT1 := hid fun W => then1 a i x W (by omega) (by omega) (by omega)
    have HTS := hid (show (ts ++ [(⟨x, 0, 0⟩ : Nd)]).length = q + 1 by simp [hq])
    have h2d : 2 ^ d = 2 ^ (un n (ad a x)) * 2 := by rw [← Nat.pow_succ]; congr 1; omega
    have hpd := Nat.two_pow_pos (un n (ad a x))
    have HQ3 := hid (show q + 1 + 2 ^ (un n (ad a x)) ≤ 200 by omega)
    have hL0 := planK_len n F (un n (ad a x)) (ad a x) i (q + 1)
    have HL0 := hid (show (planL n F (ad a x) i (q + 1)).length + 1 ≤ 2 ^ (un n (ad a x)) from hL0)
    have HQ4 := hid (show q + 1 + (planL n F (ad a x) i (q + 1)).length + 2 ^ (un n (ad a x)) ≤ 200 by have := HL0.out; omega)
    have hq200 : q ≤ 200 := by omega
    have HLQ := hid hq
    have HWS := hid HPS.out.1.lt
    clear KPW hd hv hq2 hst hx1 hx2 hun h2d hpd hL0 IH hule q1 q1n hvb HKEY HHAS HBX HA1 HW1 HPS HAS HTWO
    go_cut [2] from 24 to 37 (fun t wx => PS W wx W.heap.size w1.heap.size s n F M1 M2 a i x (rootP n F (ad a x) i (q + 1)) base (.slice A0 q c0) t (q + 1 + (planL n F (ad a x) i (q + 1)).length) (ts ++ [⟨x, 0, 0⟩] ++ planL n F (ad a x) i (q + 1)))
    case first =>
      refine wp_region_held_drew (S := (fun w' => w'.cell? ⟨W.heap.size, 0, none⟩ = some (.int .i64 a) ∧ w'.cell? ⟨W.heap.size, 1, none⟩ = some (.int .i64 i) ∧ w'.cell? ⟨w1.heap.size, 0, none⟩ = some (.int .i64 x))) (by kernel_rfl) (by (try dsimp only); exact ⟨J5.out.view.cell 0, J5.out.view.cell 1, J5.out.node.cell 0⟩) (fun hHeld => ?_)
      refine takeD (i := 0) (v := ?_) (some 25) rfl rfl (by kernel_rfl) (by kernel_rfl) (by kernel_rfl) (fun _ _ _ h => h) (Or.inl ⟨by rfl, ?_⟩) (by assumption) ?_
      rotate_left
      · intro w hSw
        (try dsimp only at hSw)
        first
          | (go_simp; done)
          | (go_simp; with_reducible rfl)
      try simp only [Act.put, List.setIfInBounds_toArray, List.set_cons_zero, List.set_cons_succ]
      refine takeD (i := 1) (v := ?_) (some 26) rfl rfl (by kernel_rfl) (by kernel_rfl) (by kernel_rfl) (fun _ _ _ h => h) (Or.inl ⟨by rfl, ?_⟩) (by assumption) ?_
      rotate_left
      · intro w hSw
        (try dsimp only at hSw)
        first
          | (go_simp; done)
          | (go_simp; with_reducible rfl)
      try simp only [Act.put, List.setIfInBounds_toArray, List.set_cons_zero, List.set_cons_succ]
      refine takeD (i := 2) (v := ?_) (some 27) rfl rfl (by kernel_rfl) (by kernel_rfl) (by kernel_rfl) (fun _ _ _ h => h) (Or.inl ⟨by rfl, ?_⟩) (by assumption) ?_
      rotate_left
      · intro w hSw
        (try dsimp only at hSw)
        first
          | (go_simp; done)
          | (go_simp; with_reducible rfl)
      try simp only [Act.put, List.setIfInBounds_toArray, List.set_cons_zero, List.set_cons_succ]
      refine takeD (i := 3) (v := ?_) (some 28) rfl rfl (by kernel_rfl) (by kernel_rfl) (by kernel_rfl) (fun _ _ _ h => h) (Or.inl ⟨by rfl, ?_⟩) (by assumption) ?_
      rotate_left
      · intro w hSw
        (try dsimp only at hSw)
        first
          | (go_simp; done)
          | (go_simp; with_reducible rfl)
      try simp only [Act.put, List.setIfInBounds_toArray, List.set_cons_zero, List.set_cons_succ]
      refine takeD (i := 5) (v := ?_) (some 30) rfl rfl (by kernel_rfl) (by kernel_rfl) (by kernel_rfl) (fun _ _ _ h => h) (Or.inl ⟨by rfl, ?_⟩) (by assumption) ?_
      rotate_left
      · intro w hSw
        (try dsimp only at hSw)
        first
          | (go_simp; done)
          | (go_simp; with_reducible rfl)
      try simp only [Act.put, List.setIfInBounds_toArray, List.set_cons_zero, List.set_cons_succ]
      refine wpAnyH_ready (rs := [4, 6]) (by kernel_rfl) (by simp) ?_
      refine AllReadyH.cons rfl (fun K hK => ?_) (AllReadyH.cons rfl (fun K hK => ?_) (AllReadyH.nil))
      · go_simp
        refine (HT0.out _).mono ?_; rintro e wT1 ⟨rfl, bT⟩
        have J1 := hid (J5.out.below bT)
        clear bT
        refine hK.out _ _ ?_ (fun hHeld => ?_)
        · (try dsimp only)
          exact ⟨J1.out.view.cell 0, J1.out.view.cell 1, J1.out.node.cell 0⟩
        clear hK K
        try simp only [Act.put, List.setIfInBounds_toArray, List.set_cons_zero, List.set_cons_succ]
        refine wpAnyH_ready (rs := [6]) (by kernel_rfl) (by simp) ?_
        refine AllReadyH.cons rfl (fun K hK => ?_) (AllReadyH.nil)
        · have n0 := J1.out.node.cell 0; have n1 := J1.out.node.cell 1; have n2 := J1.out.node.cell 2; simp only [List.getElem?_toArray, List.getElem?_cons_zero, List.getElem?_cons_succ] at n0 n1 n2
          go_simp
          clear n0 n1 n2
          have J2 := J1
          refine hK.out _ _ ?_ (fun hHeld => ?_)
          · (try dsimp only)
            exact ⟨J2.out.view.cell 0, J2.out.view.cell 1, J2.out.node.cell 0⟩
          clear hK K
          try simp only [Act.put, List.setIfInBounds_toArray, List.set_cons_zero, List.set_cons_succ]
          refine wpAnyH_ready (rs := [7]) (by kernel_rfl) (by simp) ?_
          refine AllReadyH.cons rfl (fun K hK => ?_) (AllReadyH.nil)
          · go_simp
            have J3 := hid (J2.out.alloc (.cells #[.int .i64 x, .int .i64 0, .int .i64 0] 94))
            refine hK.out _ _ ?_ (fun hHeld => ?_)
            · (try dsimp only)
              exact ⟨J3.out.view.cell 0, J3.out.view.cell 1, J3.out.node.cell 0⟩
            clear hK K
            try simp only [Act.put, List.setIfInBounds_toArray, List.set_cons_zero, List.set_cons_succ]
            refine wpAnyH_ready (rs := [8]) (by kernel_rfl) (by simp) ?_
            refine AllReadyH.cons rfl (fun K hK => ?_) (AllReadyH.nil)
            · refine step_append_lies _ rfl (.tmp 30) (.tmp 32) 44 rfl base 94 i0 (.agg #[.int .i64 0, .int .i64 0, .int .i64 0]) 3 24 TN.und hi0 hz0 hz1 hzz TN.zc TN.sz (.slice A0 q c0) q (flatN ts) rfl J3.out.own _ 1 1 (#[.int .i64 x, .int .i64 0, .int .i64 0] : Array Value).toList rfl rfl (cells_new _ _ _) (by simp [Value.oneCell']) (by decide) (by unfold maxLen; omega) (by omega) J3.out.size.1 _ rfl ?_; intro g cap wA howA hgA hatA hltA
              have J4 := hid (J3.out.push (u := ⟨x, 0, 0⟩) howA hgA hatA)
              clear howA hgA hatA hltA
              refine hK.out _ _ ?_ (fun hHeld => ?_)
              · (try dsimp only)
                exact ⟨J4.out.view.cell 0, J4.out.view.cell 1, J4.out.node.cell 0⟩
              clear hK K
              try simp only [Act.put, List.setIfInBounds_toArray]
              refine wpAnyH_ready (rs := [9]) (by kernel_rfl) (by simp) ?_
              refine AllReadyH.cons rfl (fun K hK => ?_) AllReadyH.nil
              go_simp
              refine (HG0.out _ _ (q + 1) (ts ++ [⟨x, 0, 0⟩]) HTS.out HQ3.out J4.out.ask J4.out.size.1 J4.out.own).mono ?_
              rintro e wC ⟨tC, rfl, hoC, hsC, hcC, haC⟩
              have JC := hid (J4.out.call hcC hsC haC hoC)
              clear hoC hsC hcC haC
              refine hK.out _ _ ?_ (fun hHeld => ?_)
              · (try dsimp only)
                exact ⟨JC.out.view.cell 0, JC.out.view.cell 1, JC.out.node.cell 0⟩
              clear hK K
              try simp only [Act.put, List.setIfInBounds_toArray, List.set_cons_zero, List.set_cons_succ]
              refine takeD (i := 10) (v := ?_) (some 24) rfl rfl (by kernel_rfl) (by kernel_rfl) (by kernel_rfl) (fun _ _ _ h => h) (Or.inl ⟨by rfl, ?_⟩) (by assumption) ?_
              rotate_left
              · intro w hSw
                (try dsimp only at hSw)
                first
                  | (go_simp; done)
                  | (go_simp; with_reducible rfl)
              try simp only [Act.put, List.setIfInBounds_toArray, List.set_cons_zero, List.set_cons_succ]
              refine takeD (i := 11) (v := ?_) (some 35) rfl rfl (by kernel_rfl) (by kernel_rfl) (by kernel_rfl) (fun _ _ _ h => h) (Or.inl ⟨by rfl, ?_⟩) (by assumption) ?_
              rotate_left
              · intro w hSw
                (try dsimp only at hSw)
                first
                  | (go_simp; done)
                  | (go_simp; with_reducible rfl)
              try simp only [Act.put, List.setIfInBounds_toArray, List.set_cons_zero, List.set_cons_succ]
              refine takeD (i := 12) (v := ?_) (some 36) rfl rfl (by kernel_rfl) (by kernel_rfl) (by kernel_rfl) (fun _ _ _ h => h) (Or.inl ⟨by rfl, ?_⟩) (by assumption) ?_
              rotate_left
              · intro w hSw
                (try dsimp only at hSw)
                first
                  | (go_simp; done)
                  | (go_simp; with_reducible rfl)
              try simp only [Act.put, List.setIfInBounds_toArray, List.set_cons_zero, List.set_cons_succ]
              refine takeD (i := 13) (v := ?_) (some 2) rfl rfl (by kernel_rfl) (by kernel_rfl) (by kernel_rfl) (fun _ _ _ h => h) (Or.inl ⟨by rfl, ?_⟩) (by assumption) ?_
              rotate_left
              · intro w hSw
                (try dsimp only at hSw)
                first
                  | (go_simp; done)
                  | (go_simp; with_reducible rfl)
              try simp only [Act.put, List.setIfInBounds_toArray, List.set_cons_zero, List.set_cons_succ]
              refine takeD (i := 14) (v := ?_) (some 37) rfl rfl (by kernel_rfl) (by kernel_rfl) (by kernel_rfl) (fun _ _ _ h => h) (Or.inl ⟨by rfl, ?_⟩) (by assumption) ?_
              rotate_left
              · intro w hSw
                (try dsimp only at hSw)
                first
                  | (go_simp; done)
                  | (go_simp; with_reducible rfl)
              try simp only [Act.put, List.setIfInBounds_toArray, List.set_cons_zero, List.set_cons_succ]
              have z1 := JC.out.node.cell 1
              have g1 := JC.out.node.free 1
              simp only [List.getElem?_toArray] at z1
              refine wpAnyH_ready (rs := [15]) (by kernel_rfl) (by simp) ?_
              refine AllReadyH.cons rfl (fun K hK => ?_) AllReadyH.nil
              go_simp
              have JD := hid (JC.out.setX (rootP n F (ad a x) i (q + 1)))
              refine hK.out _ _ ?_ (fun hHeld => ?_)
              · (try dsimp only)
                exact ⟨JD.out.view.cell 0, JD.out.view.cell 1, JD.out.node.cell 0⟩
              clear hK K
              try simp only [Act.put, List.setIfInBounds_toArray, List.set_cons_zero, List.set_cons_succ]
              refine wpAnyH_done (by kernel_rfl) ?_ _
              go_wp2_with fail
              go_meet
              case rel => exact JD.out
      · have n0 := J5.out.node.cell 0; have n1 := J5.out.node.cell 1; have n2 := J5.out.node.cell 2; simp only [List.getElem?_toArray, List.getElem?_cons_zero, List.getElem?_cons_succ] at n0 n1 n2
        go_simp
        clear n0 n1 n2
        have J5 := J5
        refine hK.out _ _ ?_ (fun hHeld => ?_)
        · (try dsimp only)
          exact ⟨J5.out.view.cell 0, J5.out.view.cell 1, J5.out.node.cell 0⟩
        clear hK K
        try simp only [Act.put, List.setIfInBounds_toArray, List.set_cons_zero, List.set_cons_succ]
        refine wpAnyH_ready (rs := [4, 7]) (by kernel_rfl) (by simp) ?_
        refine AllReadyH.cons rfl (fun K hK => ?_) (AllReadyH.cons rfl (fun K hK => ?_) (AllReadyH.nil))
        · go_simp
          refine (HT0.out _).mono ?_; rintro e wT6 ⟨rfl, bT⟩
          have J6 := hid (J5.out.below bT)
          clear bT
          refine hK.out _ _ ?_ (fun hHeld => ?_)
          · (try dsimp only)
            exact ⟨J6.out.view.cell 0, J6.out.view.cell 1, J6.out.node.cell 0⟩
          clear hK K
          try simp only [Act.put, List.setIfInBounds_toArray, List.set_cons_zero, List.set_cons_succ]
          refine wpAnyH_ready (rs := [7]) (by kernel_rfl) (by simp) ?_
          refine AllReadyH.cons rfl (fun K hK => ?_) (AllReadyH.nil)
          · go_simp
            have J7 := hid (J6.out.alloc (.cells #[.int .i64 x, .int .i64 0, .int .i64 0] 94))
            refine hK.out _ _ ?_ (fun hHeld => ?_)
            · (try dsimp only)
              exact ⟨J7.out.view.cell 0, J7.out.view.cell 1, J7.out.node.cell 0⟩
            clear hK K
            try simp only [Act.put, List.setIfInBounds_toArray, List.set_cons_zero, List.set_cons_succ]
            refine wpAnyH_ready (rs := [8]) (by kernel_rfl) (by simp) ?_
            refine AllReadyH.cons rfl (fun K hK => ?_) (AllReadyH.nil)
            · refine step_append_lies _ rfl (.tmp 30) (.tmp 32) 44 rfl base 94 i0 (.agg #[.int .i64 0, .int .i64 0, .int .i64 0]) 3 24 TN.und hi0 hz0 hz1 hzz TN.zc TN.sz (.slice A0 q c0) q (flatN ts) rfl J7.out.own _ 1 1 (#[.int .i64 x, .int .i64 0, .int .i64 0] : Array Value).toList rfl rfl (cells_new _ _ _) (by simp [Value.oneCell']) (by decide) (by unfold maxLen; omega) (by omega) J7.out.size.1 _ rfl ?_; intro g cap wA howA hgA hatA hltA
              have J8 := hid (J7.out.push (u := ⟨x, 0, 0⟩) howA hgA hatA)
              clear howA hgA hatA hltA
              refine hK.out _ _ ?_ (fun hHeld => ?_)
              · (try dsimp only)
                exact ⟨J8.out.view.cell 0, J8.out.view.cell 1, J8.out.node.cell 0⟩
              clear hK K
              try simp only [Act.put, List.setIfInBounds_toArray]
              refine wpAnyH_ready (rs := [9]) (by kernel_rfl) (by simp) ?_
              refine AllReadyH.cons rfl (fun K hK => ?_) AllReadyH.nil
              go_simp
              refine (HG0.out _ _ (q + 1) (ts ++ [⟨x, 0, 0⟩]) HTS.out HQ3.out J8.out.ask J8.out.size.1 J8.out.own).mono ?_
              rintro e wC ⟨tC, rfl, hoC, hsC, hcC, haC⟩
              have JC := hid (J8.out.call hcC hsC haC hoC)
              clear hoC hsC hcC haC
              refine hK.out _ _ ?_ (fun hHeld => ?_)
              · (try dsimp only)
                exact ⟨JC.out.view.cell 0, JC.out.view.cell 1, JC.out.node.cell 0⟩
              clear hK K
              try simp only [Act.put, List.setIfInBounds_toArray, List.set_cons_zero, List.set_cons_succ]
              refine takeD (i := 10) (v := ?_) (some 24) rfl rfl (by kernel_rfl) (by kernel_rfl) (by kernel_rfl) (fun _ _ _ h => h) (Or.inl ⟨by rfl, ?_⟩) (by assumption) ?_
              rotate_left
              · intro w hSw
                (try dsimp only at hSw)
                first
                  | (go_simp; done)
                  | (go_simp; with_reducible rfl)
              try simp only [Act.put, List.setIfInBounds_toArray, List.set_cons_zero, List.set_cons_succ]
              refine takeD (i := 11) (v := ?_) (some 35) rfl rfl (by kernel_rfl) (by kernel_rfl) (by kernel_rfl) (fun _ _ _ h => h) (Or.inl ⟨by rfl, ?_⟩) (by assumption) ?_
              rotate_left
              · intro w hSw
                (try dsimp only at hSw)
                first
                  | (go_simp; done)
                  | (go_simp; with_reducible rfl)
              try simp only [Act.put, List.setIfInBounds_toArray, List.set_cons_zero, List.set_cons_succ]
              refine takeD (i := 12) (v := ?_) (some 36) rfl rfl (by kernel_rfl) (by kernel_rfl) (by kernel_rfl) (fun _ _ _ h => h) (Or.inl ⟨by rfl, ?_⟩) (by assumption) ?_
              rotate_left
              · intro w hSw
                (try dsimp only at hSw)
                first
                  | (go_simp; done)
                  | (go_simp; with_reducible rfl)
              try simp only [Act.put, List.setIfInBounds_toArray, List.set_cons_zero, List.set_cons_succ]
              refine takeD (i := 13) (v := ?_) (some 2) rfl rfl (by kernel_rfl) (by kernel_rfl) (by kernel_rfl) (fun _ _ _ h => h) (Or.inl ⟨by rfl, ?_⟩) (by assumption) ?_
              rotate_left
              · intro w hSw
                (try dsimp only at hSw)
                first
                  | (go_simp; done)
                  | (go_simp; with_reducible rfl)
              try simp only [Act.put, List.setIfInBounds_toArray, List.set_cons_zero, List.set_cons_succ]
              refine takeD (i := 14) (v := ?_) (some 37) rfl rfl (by kernel_rfl) (by kernel_rfl) (by kernel_rfl) (fun _ _ _ h => h) (Or.inl ⟨by rfl, ?_⟩) (by assumption) ?_
              rotate_left
              · intro w hSw
                (try dsimp only at hSw)
                first
                  | (go_simp; done)
                  | (go_simp; with_reducible rfl)
              try simp only [Act.put, List.setIfInBounds_toArray, List.set_cons_zero, List.set_cons_succ]
              have z1 := JC.out.node.cell 1
              have g1 := JC.out.node.free 1
              simp only [List.getElem?_toArray] at z1
              refine wpAnyH_ready (rs := [15]) (by kernel_rfl) (by simp) ?_
              refine AllReadyH.cons rfl (fun K hK => ?_) AllReadyH.nil
              go_simp
              have JD := hid (JC.out.setX (rootP n F (ad a x) i (q + 1)))
              refine hK.out _ _ ?_ (fun hHeld => ?_)
              · (try dsimp only)
                exact ⟨JD.out.view.cell 0, JD.out.view.cell 1, JD.out.node.cell 0⟩
              clear hK K
              try simp only [Act.put, List.setIfInBounds_toArray, List.set_cons_zero, List.set_cons_succ]
              refine wpAnyH_done (by kernel_rfl) ?_ _
              go_wp2_with fail
              go_meet
              case rel => exact JD.out
        · go_simp
          have J9 := hid (J5.out.alloc (.cells #[.int .i64 x, .int .i64 0, .int .i64 0] 94))
          refine hK.out _ _ ?_ (fun hHeld => ?_)
          · (try dsimp only)
            exact ⟨J9.out.view.cell 0, J9.out.view.cell 1, J9.out.node.cell 0⟩
          clear hK K
          try simp only [Act.put, List.setIfInBounds_toArray, List.set_cons_zero, List.set_cons_succ]
          refine wpAnyH_ready (rs := [4]) (by kernel_rfl) (by simp) ?_
          refine AllReadyH.cons rfl (fun K hK => ?_) (AllReadyH.nil)
          · go_simp
            refine (HT0.out _).mono ?_; rintro e wT10 ⟨rfl, bT⟩
            have J10 := hid (J9.out.below bT)
            have HNC10 := hid fun j u hu => cell_keep bT (cells_new _ _ _ j u hu)
            clear bT
            refine hK.out _ _ ?_ (fun hHeld => ?_)
            · (try dsimp only)
              exact ⟨J10.out.view.cell 0, J10.out.view.cell 1, J10.out.node.cell 0⟩
            clear hK K
            try simp only [Act.put, List.setIfInBounds_toArray, List.set_cons_zero, List.set_cons_succ]
            refine wpAnyH_ready (rs := [8]) (by kernel_rfl) (by simp) ?_
            refine AllReadyH.cons rfl (fun K hK => ?_) (AllReadyH.nil)
            · refine step_append_lies _ rfl (.tmp 30) (.tmp 32) 44 rfl base 94 i0 (.agg #[.int .i64 0, .int .i64 0, .int .i64 0]) 3 24 TN.und hi0 hz0 hz1 hzz TN.zc TN.sz (.slice A0 q c0) q (flatN ts) rfl J10.out.own _ 1 1 (#[.int .i64 x, .int .i64 0, .int .i64 0] : Array Value).toList rfl rfl (HNC10.out) (by simp [Value.oneCell']) (by decide) (by unfold maxLen; omega) (by omega) J10.out.size.1 _ rfl ?_; intro g cap wA howA hgA hatA hltA
              have J11 := hid (J10.out.push (u := ⟨x, 0, 0⟩) howA hgA hatA)
              clear howA hgA hatA hltA
              refine hK.out _ _ ?_ (fun hHeld => ?_)
              · (try dsimp only)
                exact ⟨J11.out.view.cell 0, J11.out.view.cell 1, J11.out.node.cell 0⟩
              clear hK K
              try simp only [Act.put, List.setIfInBounds_toArray]
              refine wpAnyH_ready (rs := [9]) (by kernel_rfl) (by simp) ?_
              refine AllReadyH.cons rfl (fun K hK => ?_) AllReadyH.nil
              go_simp
              refine (HG0.out _ _ (q + 1) (ts ++ [⟨x, 0, 0⟩]) HTS.out HQ3.out J11.out.ask J11.out.size.1 J11.out.own).mono ?_
              rintro e wC ⟨tC, rfl, hoC, hsC, hcC, haC⟩
              have JC := hid (J11.out.call hcC hsC haC hoC)
              clear hoC hsC hcC haC
              refine hK.out _ _ ?_ (fun hHeld => ?_)
              · (try dsimp only)
                exact ⟨JC.out.view.cell 0, JC.out.view.cell 1, JC.out.node.cell 0⟩
              clear hK K
              try simp only [Act.put, List.setIfInBounds_toArray, List.set_cons_zero, List.set_cons_succ]
              refine takeD (i := 10) (v := ?_) (some 24) rfl rfl (by kernel_rfl) (by kernel_rfl) (by kernel_rfl) (fun _ _ _ h => h) (Or.inl ⟨by rfl, ?_⟩) (by assumption) ?_
              rotate_left
              · intro w hSw
                (try dsimp only at hSw)
                first
                  | (go_simp; done)
                  | (go_simp; with_reducible rfl)
              try simp only [Act.put, List.setIfInBounds_toArray, List.set_cons_zero, List.set_cons_succ]
              refine takeD (i := 11) (v := ?_) (some 35) rfl rfl (by kernel_rfl) (by kernel_rfl) (by kernel_rfl) (fun _ _ _ h => h) (Or.inl ⟨by rfl, ?_⟩) (by assumption) ?_
              rotate_left
              · intro w hSw
                (try dsimp only at hSw)
                first
                  | (go_simp; done)
                  | (go_simp; with_reducible rfl)
              try simp only [Act.put, List.setIfInBounds_toArray, List.set_cons_zero, List.set_cons_succ]
              refine takeD (i := 12) (v := ?_) (some 36) rfl rfl (by kernel_rfl) (by kernel_rfl) (by kernel_rfl) (fun _ _ _ h => h) (Or.inl ⟨by rfl, ?_⟩) (by assumption) ?_
              rotate_left
              · intro w hSw
                (try dsimp only at hSw)
                first
                  | (go_simp; done)
                  | (go_simp; with_reducible rfl)
              try simp only [Act.put, List.setIfInBounds_toArray, List.set_cons_zero, List.set_cons_succ]
              refine takeD (i := 13) (v := ?_) (some 2) rfl rfl (by kernel_rfl) (by kernel_rfl) (by kernel_rfl) (fun _ _ _ h => h) (Or.inl ⟨by rfl, ?_⟩) (by assumption) ?_
              rotate_left
              · intro w hSw
                (try dsimp only at hSw)
                first
                  | (go_simp; done)
                  | (go_simp; with_reducible rfl)
              try simp only [Act.put, List.setIfInBounds_toArray, List.set_cons_zero, List.set_cons_succ]
              refine takeD (i := 14) (v := ?_) (some 37) rfl rfl (by kernel_rfl) (by kernel_rfl) (by kernel_rfl) (fun _ _ _ h => h) (Or.inl ⟨by rfl, ?_⟩) (by assumption) ?_
              rotate_left
              · intro w hSw
                (try dsimp only at hSw)
                first
                  | (go_simp; done)
                  | (go_simp; with_reducible rfl)
              try simp only [Act.put, List.setIfInBounds_toArray, List.set_cons_zero, List.set_cons_succ]
              have z1 := JC.out.node.cell 1
              have g1 := JC.out.node.free 1
              simp only [List.getElem?_toArray] at z1
              refine wpAnyH_ready (rs := [15]) (by kernel_rfl) (by simp) ?_
              refine AllReadyH.cons rfl (fun K hK => ?_) AllReadyH.nil
              go_simp
              have JD := hid (JC.out.setX (rootP n F (ad a x) i (q + 1)))
              refine hK.out _ _ ?_ (fun hHeld => ?_)
              · (try dsimp only)
                exact ⟨JD.out.view.cell 0, JD.out.view.cell 1, JD.out.node.cell 0⟩
              clear hK K
              try simp only [Act.put, List.setIfInBounds_toArray, List.set_cons_zero, List.set_cons_succ]
              refine wpAnyH_done (by kernel_rfl) ?_ _
              go_wp2_with fail
              go_meet
              case rel => exact JD.out
    case rest =>
      have J6 := hid hcut
      clear hcut
      have v0 := J6.out.view.cell 0
      have v1 := J6.out.view.cell 1
      have n0 := J6.out.node.cell 0
      simp only [List.getElem?_toArray, List.getElem?_cons_zero, List.getElem?_cons_succ] at v0 v1 n0
      go_wp2_with fail
      refine (HT1.out _).mono ?_; rintro e w6 ⟨rfl, b6⟩
      have J7 := hid (J6.out.below b6)
      clear b6 v0 v1 n0
      have HTS2 := hid (show (ts ++ [(⟨x, 0, 0⟩ : Nd)] ++ planL n F (ad a x) i (q + 1)).length = q + 1 + (planL n F (ad a x) i (q + 1)).length by
        rw [List.length_append, HTS.out])
      go_wp2_with fail
      refine (HG1.out _ _ _ _ HTS2.out HQ4.out J7.out.ask J7.out.size.1 J7.out.own).mono ?_
      rintro e w7 ⟨t7, rfl, ho7, hs7, hc7, ha7⟩
      have J8 := hid (J7.out.call hc7 hs7 ha7 ho7)
      clear ho7 hs7 hc7 ha7
      have z0 := J8.out.node.cell 0
      have z1 := J8.out.node.cell 1
      have z2 := J8.out.node.cell 2
      have g2 := J8.out.node.free 2
      simp only [List.getElem?_toArray, List.getElem?_cons_zero, List.getElem?_cons_succ] at z0 z1 z2
      generalize hr1 : rootP n F (ad a x) i (q + 1) = r1 at *
      generalize hL0 : planL n F (ad a x) i (q + 1) = L0 at *
      generalize hr2 : rootP n F (ad a x) (ad i x) (q + 1 + L0.length) = r2 at *
      generalize hL1 : planL n F (ad a x) (ad i x) (q + 1 + L0.length) = L1 at *
      obtain ⟨g7, cap7, rfl, hg7b, hg7⟩ := J8.out.own.form (by omega)
      have hng := J8.out.far g7 rfl
      have hng2 : g7 ≠ w1.heap.size := Ne.symm hng.2
      have hng1 : g7 ≠ W.heap.size := Ne.symm hng.1
      have OW := hid (own_far J8.out.own (a := ⟨w1.heap.size, 2, none⟩) (fun g hg => by cases hg; exact hng.2) (.int .i64 r2))
      have hcells : ∀ j, j < 3 → ∃ v, w7.cell? ⟨g7, q * 3 + j, none⟩ = some v := fun j hj => by
        have hlt : q * 3 + j < (q + 1 + L0.length + L1.length) * 3 := by omega
        rw [J8.out.own.cellAt _ hlt]
        have hl := J8.out.own.1
        exact ⟨_, List.getElem?_eq_getElem (by omega)⟩
      obtain ⟨u0, y0⟩ := hcells 0 (by decide)
      obtain ⟨u1, y1⟩ := hcells 1 (by decide)
      obtain ⟨u2, y2⟩ := hcells 2 (by decide)
      have x0 := J8.out.own.frozenAt (q * 3 + 0)
      have x1 := J8.out.own.frozenAt (q * 3 + 1)
      have x2 := J8.out.own.frozenAt (q * 3 + 2)
      rw [Nat.add_zero] at y0 x0
      have hlen : q < q + 1 + L0.length + L1.length ∧ q + 1 + L0.length + L1.length ≤ 400 := by
        have h1 := HQ4.out
        have h2 := planK_len n F (un n (ad a x)) (ad a x) (ad i x) (q + 1 + L0.length)
        have h3 : planK n F (un n (ad a x)) (ad a x) (ad i x) (q + 1 + L0.length) = L1 := hL1
        rw [h3] at h2
        omega
      obtain ⟨hl1, hl2⟩ := hlen
      obtain ⟨LL, hLL⟩ : ∃ LL, q + 1 + L0.length + L1.length = LL := ⟨_, rfl⟩
      have HLL := hid hLL
      rw [hLL] at hl1 hl2
      have HNG := hid hng
      have HG7 := hid hg7b
      clear hcells hng hg7b hr1 hL0 hr2 hL1
      rw [hLL]
      clear hLL
      go_wp2
      go_ret2
      have hrt : Rt3 M1 M2 (.slice A0 q c0) g7 ∨ W.heap.size ≤ g7 := by
        rcases J8.out.same with h | ⟨g2, h, hg2⟩
        · exact .inl (.inr h.symm)
        · exact .inr (by have e : g7 = g2 := Option.some.inj h; omega)
      have s1 := (OW.out.stored (q * 3) (.int .i64 x)).1
      have s2 := (s1.stored (q * 3 + 1) (.int .i64 r1)).1
      have s3 := (s2.stored (q * 3 + 2) (.int .i64 r2)).1
      have hX := J8.out.hx; have hBB := J8.out.hb
      have hF : ∀ {wx : World}, AS wx s n F M1 M2 (bestN n F.testBit) → ∀ b o u, base ≤ b → AS (wx.setCell ⟨b, o, none⟩ u) s n F M1 M2 (bestN n F.testBit) := fun h b o u hb => h.far (by have := OL.s; simp; omega) (by have := OL.m1; simp; omega) (by have := OL.m2; simp; omega) _
      refine ⟨_, rfl, ?_, J8.out.same, (((J8.out.chg.setNew (by simpa using hX) _).setR hrt _).setR hrt _).setR hrt _, hF (hF (hF (hF J8.out.ask _ _ _ (by omega)) _ _ _ HG7.out) _ _ _ HG7.out) _ _ _ HG7.out⟩
      rw [HPL.out]
      have hlenP : q + (⟨x, r1, r2⟩ :: (L0 ++ L1) : List Nd).length = LL := by rw [List.length_cons, List.length_append]; have := HLL.out; omega
      have hset := flatN_set ts (L0 ++ L1) ⟨x, 0, 0⟩ ⟨x, r1, r2⟩
      rw [HLQ.out] at hset
      have hassoc : ts ++ [(⟨x, 0, 0⟩ : Nd)] ++ L0 ++ L1 = ts ++ ⟨x, 0, 0⟩ :: (L0 ++ L1) := by simp
      rw [hlenP, ← hset, ← hassoc]
      rw [HLL.out] at s3
      exact s3
  · have h0 := ask_zero.2 hst
    have hr : rootP n F a i q = -1 := by unfold rootP; rw [hst]; rfl
    rw [hr, planL_set hst, List.append_nil]
    rw [h0] at HAS
    clear hst hs hb ho h0 hr hd hv hvb
    go_enter Tryd.func74, Tryd.ntmps74
    go_wp2_with fail
    refine (HAS.out).mono ?_; rintro e w1 ⟨rfl, hstp, has, -⟩
    have HPS := hid (HW1.out w1 hstp)
    have HA1 := hid has
    clear hstp has
    go_wp2
    go_ret2
    exact ⟨_, rfl, HPS.out.2.1, .inl rfl, HPS.out.2.2, HA1.out⟩
theorem planS (base s n F M1 M2 : Nat) (hn : n ≤ 6) (hF : F < 18446744073709551616) (OL : OldA base s M1 M2) : ∀ d, PlanTo base s n F M1 M2 d := by
  intro d
  induction d with
  | zero => exact planStep base s n F M1 M2 0 hn hF OL fun j h => absurd h (by omega)
  | succ d ih =>
    refine planStep base s n F M1 M2 (d + 1) hn hF OL fun j h => ?_
    have e : j = d := by omega
    subst e; exact ih
end Go.Proofs.YtjddbglbodkihaaDoor
