/- Walk of asker.ask where the view is not settled: the loop over the elements. Conditions: an asker; a view of at most six elements. -/
import Derived.Test.YtjddbglbodkihaaDoorAskW
namespace Go.Proofs.YtjddbglbodkihaaDoor
open Go.RowKit Go.Maps
attribute [local go_sem ↓] shl_p2 shl_u or_u shr_u and_shrF shr_v and_shr andNot_v and_nn or_i

theorem lb_fst_le {a s : Nat} {v : Nat → Nat} : ∀ k, (lb a s v k).1 ≤ s
  | 0 => Nat.le_refl _
  | k+1 => by
    have := lb_fst_le (a := a) (s := s) (v := v) k
    simp only [lb]
    split
    · exact this
    · split
      · simp only; omega
      · exact this
theorem ret_i' {a b : Int} (h : a = b) : Value.int .i64 a = .int .i64 b := by rw [h]
/-- Where the loop stands. -/
structure LI (s n F M1 M2 a i : Nat) (B : Nat → Nat → Nat) (w wr : World) (b k : Nat) : Prop where
  asr : AS wr s n F M1 M2 (upd B a i ((lb a (n + 1) (valN n F.testBit a i) k).2.getD (B a i)))
  has : (lb a (n + 1) (valN n F.testBit a i) k).2 ≠ none → Has wr M2 (keyA a i)
  blk : Blk wr b 87 #[.int .i64 a, .int .i64 i]
  stp : Stp M1 M2 w wr

set_option maxRecDepth 100000 in
set_option maxHeartbeats 8000000 in
theorem askLoop (s n F M1 M2 m a i : Nat) (B : Nat → Nat → Nat) (w : World) (hn : n ≤ 6) (hF : F < 18446744073709551616) (HR : AskTo s n F M1 M2 m) (hm : un n a = m) (hv : View n a i) (hg : Good n F.testBit B (m + 1)) (hs : AS w s n F M1 M2 B) (hh : ¬ Has w M1 (keyA a i)) (hst : settl (2 ^ n) F.testBit a i = false) :
    Calls Tryd.prog 73 #[.pointer (some ⟨s, 0, none⟩), .agg #[.int .i64 a, .int .i64 i]] w fun e w' => e = .returned (.int .i64 (askN n F.testBit a i : Nat)) ∧ Stp M1 M2 w w' ∧ AS w' s n F M1 M2 B ∧ (settl (2 ^ n) F.testBit a i = false → Has w' M2 (keyA a i)) := by
  have hvb := view60 hn hv
  obtain ⟨kl, hkey⟩ := keyA_key (a := a) (i := i) (by omega) (by omega)
  have hb0 : Below w.heap.size w (w.alloc (.cells #[.int .i64 a, .int .i64 i] 87)) := (Below.refl w.heap.size w).alloc (Nat.le_refl _) _
  have hs1 := hs.below hb0
  have hb1 := Blk.new w 87 #[.int .i64 a, .int .i64 i]
  have hh1 : ¬ Has (w.alloc (.cells #[.int .i64 a, .int .i64 i] 87)) M1 (keyA a i) := fun h => hh ((has_same (hb0.block _ hs.need.lt)).1 h)
  have hHB := hid hb0
  have HS0 := hid hs
  have HC := hid fun W => show Calls Tryd.prog 96 #[.agg #[.int .i64 n, .int .u64 F], .agg #[.int .i64 a, .int .i64 i]] W fun e w' => e = .returned (.bool false) ∧ Below W.heap.size W w' from by
    have e := settledF n F a i W hn hF (by omega)
    rw [hst] at e
    exact e
  have HBE := hid (best_is hst)
  have HGB : Hid (B a i = bestN n F.testBit a i) := hid (hg a i hv (by omega) hst)
  have HKEY : Hid (∃ kl, keyOf Tryd.prog 87 (keyA a i) = some kl) := hid ⟨kl, hkey⟩
  have HRN := hid fun (k : Nat) (hk : k < n) (hb : a.testBit k = false) (j : Nat) (hj : View n (ad a k) j) x W (hW : AS W s n F M1 M2 (upd B a i x)) => HR (ad a k) j (upd B a i x) W (by have := un_ad hk hb; omega) hj hW (fun a' i' hv' hu hs' => by
    rw [upd_ne (by rintro rfl; omega)]
    exact hg a' i' hv' (by omega) hs')
  have HVW := hid hv
  have HN := hid hn
  have HVB := hid hvb
  clear hb0 hvb hst hg HR hm hF
  go_enter Tryd.func73, Tryd.ntmps73
  go_wp2_with fail
  refine at_world fun W hW => ?_
  rw [← hW] at hs1 hb1 hh1 hHB
  clear hW
  rcases hs1.need.look K87 M110 Z3 hkey (.int .i64 (askN n F.testBit a i : Nat)) (fun v hv => hv a i rfl) with ⟨hno, _⟩ | ⟨_, hlk⟩
  · exact absurd hno hh1
  · have hlk0 : ∀ k, (Instr.lookup 110 (.map (some M1)) (.agg #[.int .i64 a, .int .i64 i]) true).run Tryd.prog (W.drewN k) = .ok (.tuple #[.int .i64 0, .bool false]) (W.drewN k) := hlk
    have c2 := hs1.blk.cell 2
    have z0 := hb1.cell 0; have z1 := hb1.cell 1
    simp only [List.getElem?_toArray, List.getElem?_cons_zero, List.getElem?_cons_succ] at c2 z0 z1
    have HS1 := hid hs1
    have HB1 := hid hb1
    clear hlk hs1 hb1 hh1 hkey hs hh hv hn
    go_quiet (fail)
    go_wp2_with fail
    refine at_world fun W4 hW4 => ?_
    have HS4 : Hid (AS W4 s n F M1 M2 B) := hid (by rw [hW4]; exact HS1.out.drewN _)
    have HB4 : Hid (Blk W4 w.heap.size 87 #[.int .i64 a, .int .i64 i]) := hid (by rw [hW4]; exact HB1.out.drewN _)
    have HC4 : Hid (Stp M1 M2 w W4) := hid (by rw [hW4]; exact (Stp.of_below HS0.out hHB.out).drewN _)
    clear hW4 c2 z0 z1 hlk0
    have c0 := HS4.out.blk.cell 0; have c1 := HS4.out.blk.cell 1
    have z0 := HB4.out.cell 0; have z1 := HB4.out.cell 1
    simp only [List.getElem?_toArray, List.getElem?_cons_zero, List.getElem?_cons_succ] at c0 c1 z0 z1
    go_region_held3 (fun w' => w'.cell? ⟨s, 0, none⟩ = some (.int .i64 n) ∧ w'.cell? ⟨s, 1, none⟩ = some (.int .u64 F) ∧ w'.cell? ⟨w.heap.size, 0, none⟩ = some (.int .i64 a) ∧ w'.cell? ⟨w.heap.size, 1, none⟩ = some (.int .i64 i)) (first | assumption | exact ⟨c0, c1, z0, z1⟩ | go_keep)
      ((go_at_call 96; refine (HC.out _).mono ?_; rintro e w5 ⟨rfl, hb5⟩; have hk5 : w5.cell? ⟨s, 0, none⟩ = some (.int .i64 n) ∧ w5.cell? ⟨s, 1, none⟩ = some (.int .u64 F) ∧ w5.cell? ⟨w.heap.size, 0, none⟩ = some (.int .i64 a) ∧ w5.cell? ⟨w.heap.size, 1, none⟩ = some (.int .i64 i) := ⟨cell_keep hb5 c0, cell_keep hb5 c1, cell_keep hb5 z0, cell_keep hb5 z1⟩; have HS5 := hid (HS4.out.drew.below hb5); have HB5 := hid (HB4.out.drew.keep hb5); have HC5 := hid (HC4.out.drew.trans (Stp.of_below HS4.out.drew hb5)); have x0 := hk5.1; clear hb5))
    clear c0 c1 z0 z1 hk5
    have hn6 := HN.out
    go_wp2
    clear x0
    go_loopg [7, 39] n (fun gk ls x wr => ∃ k : Nat, gk + k = n ∧ x = .int .i64 k ∧ ls = .int .i64 ((lb a (n + 1) (valN n F.testBit a i) k).1 : Nat) ∧ Hid (LI s n F M1 M2 a i B w wr w.heap.size k))
    case atStart => exact ⟨0, by omega, rfl, rfl, hid ⟨by rw [show ((lb a (n + 1) (valN n F.testBit a i) 0).2.getD (B a i)) = B a i from rfl, upd_same]; exact HS5.out, fun h => absurd rfl h, HB5.out, HC5.out⟩⟩
    case round =>
      obtain ⟨k, hk, rfl, rfl, HLI⟩ := hrel
      have HK := hid hk
      have FK : Fits (k : Int) := ⟨by omega, by omega⟩
      have z0 := HLI.out.blk.cell 0; have z1 := HLI.out.blk.cell 1
      simp only [List.getElem?_toArray, List.getElem?_cons_zero, List.getElem?_cons_succ] at z0 z1
      have hl6 := lb_fst_le (a := a) (s := n + 1) (v := valN n F.testBit a i) k
      have HS0k := hid (show lb a (n + 1) (valN n F.testBit a i) (k + 1) = if a.testBit k then lb a (n + 1) (valN n F.testBit a i) k else if valN n F.testBit a i k < (lb a (n + 1) (valN n F.testBit a i) k).1 then (valN n F.testBit a i k, some k) else lb a (n + 1) (valN n F.testBit a i) k from rfl)
      by_cases hlt : k < n
      · generalize hl : (lb a (n + 1) (valN n F.testBit a i) k).1 = l at hl6 ⊢
        have HL := hid hl
        cases hbit : a.testBit k
        · have q1 := bitV_no hbit
          have va := HVW.out.out hlt
          have vi := HVW.out.inn hlt
          have h97a := hid fun W => thenF a i k false W (by have := HVB.out; omega) (by have := HVB.out; omega) (by omega)
          have h97b := hid fun W => thenF a i k true W (by have := HVB.out; omega) (by have := HVB.out; omega) (by omega)
          simp only [Bool.false_eq_true, if_false, if_true] at h97a h97b
          have hRa := hid fun x W hW => HRN.out k hlt hbit i va x W hW
          have hRb := hid fun x W hW => HRN.out k hlt hbit (ad i k) vi x W hW
          have HVK := hid (show valN n F.testBit a i k = 1 + max (askN n F.testBit (ad a k) i) (askN n F.testBit (ad a k) (ad i k)) from rfl)
          have hr0 : askN n F.testBit (ad a k) i ≤ 6 := by have := askN_le n F.testBit _ (ad a k) i rfl; have := un_le n (ad a k); omega
          have hr1 : askN n F.testBit (ad a k) (ad i k) ≤ 6 := by have := askN_le n F.testBit _ (ad a k) (ad i k) rfl; have := un_le n (ad a k); omega
          generalize askN n F.testBit (ad a k) i = r0 at hr0 hRa HVK
          generalize askN n F.testBit (ad a k) (ad i k) = r1 at hr1 hRb HVK
          have HS1k := hid (show lb a (n + 1) (valN n F.testBit a i) (k + 1) = if valN n F.testBit a i k < (lb a (n + 1) (valN n F.testBit a i) k).1 then (valN n F.testBit a i k, some k) else lb a (n + 1) (valN n F.testBit a i) k from by rw [HS0k.out, hbit]; rfl)
          have HX0 := hid HLI.out.asr
          have HZ0 := hid HLI.out.blk
          have HH0 := hid HLI.out.has
          have HT0 := hid HLI.out.stp
          have HND : Hid (¬ Two M1 M2 w.heap.size) := hid (fun h => h.elim (HLI.out.asr.need.ne_blk HLI.out.blk) (HLI.out.asr.best.ne_blk HLI.out.blk))
          generalize hxo : (lb a (n + 1) (valN n F.testBit a i) k).2.getD (B a i) = xo at HX0
          have HXO := hid hxo
          clear hxo
          generalize ad a k = ak at *
          generalize ad i k = ik at *
          clear hl hbit va vi HLI hk HS0k
          go_wp2_with fail
          rcases Nat.lt_or_ge r0 r1 with q | q
          · have qi : (r0 : Int) < (r1 : Int) := by omega
            have hmx : valN n F.testBit a i k = 1 + r1 := by rw [HVK.out]; omega
            have HMX := hid hmx
            have hw : IntKind.i64.wrap (1 + (r1 : Int)) = 1 + (r1 : Int) := IntWalk.i64_in _ (by omega)
            have HQ := hid q
            clear hmx
            go_region_held3 (fun w' => w'.cell? ⟨w.heap.size, 0, none⟩ = some (.int .i64 a) ∧ w'.cell? ⟨w.heap.size, 1, none⟩ = some (.int .i64 i)) (first | assumption | exact ⟨z0, z1⟩ | go_keep)
              ((first
              | (go_at_call 73; have _q := X3.out; refine (hRb.out xo _ X3.out).mono ?_; rintro e w9 ⟨rfl, st9, as9, -⟩; have X4 := hid as9; have ZB4 := hid (st9.chg.blk ZB3.out HND.out); have T4 := hid (T3.out.trans st9); have H4 := hid fun h => st9.old _ (H3.out h); have y4a := ZB4.out.cell 0; have y4b := ZB4.out.cell 1; simp only [List.getElem?_toArray, List.getElem?_cons_zero, List.getElem?_cons_succ] at y4a y4b; have k4 : w9.cell? ⟨w.heap.size, 0, none⟩ = some (.int .i64 a) ∧ w9.cell? ⟨w.heap.size, 1, none⟩ = some (.int .i64 i) := ⟨y4a, y4b⟩; clear st9 as9 y4a y4b)
              | (go_at_call 97; have _q := X2.out; refine (h97b.out _).mono ?_; rintro e w8 ⟨rfl, b8⟩; have k3 : w8.cell? ⟨w.heap.size, 0, none⟩ = some (.int .i64 a) ∧ w8.cell? ⟨w.heap.size, 1, none⟩ = some (.int .i64 i) := ⟨cell_keep b8 k2.1, cell_keep b8 k2.2⟩; have X3 := hid (X2.out.below b8); have ZB3 := hid (ZB2.out.keep b8); have T3 := hid (T2.out.trans (Stp.of_below X2.out b8)); have H3 := hid fun h => (Stp.of_below X2.out b8).old _ (H2.out h); clear b8)
              | (go_at_call 73; have _q := X1.out; refine (hRa.out xo _ X1.out).mono ?_; rintro e w7 ⟨rfl, st7, as7, -⟩; have X2 := hid as7; have ZB2 := hid (st7.chg.blk ZB1.out HND.out); have T2 := hid (T1.out.trans st7); have H2 := hid fun h => st7.old _ (H1.out h); have y2a := ZB2.out.cell 0; have y2b := ZB2.out.cell 1; simp only [List.getElem?_toArray, List.getElem?_cons_zero, List.getElem?_cons_succ] at y2a y2b; have k2 : w7.cell? ⟨w.heap.size, 0, none⟩ = some (.int .i64 a) ∧ w7.cell? ⟨w.heap.size, 1, none⟩ = some (.int .i64 i) := ⟨y2a, y2b⟩; clear st7 as7 y2a y2b)
              | (go_at_call 97; refine (h97a.out _).mono ?_; rintro e w6 ⟨rfl, b6⟩; have k1 : w6.cell? ⟨w.heap.size, 0, none⟩ = some (.int .i64 a) ∧ w6.cell? ⟨w.heap.size, 1, none⟩ = some (.int .i64 i) := ⟨cell_keep b6 z0, cell_keep b6 z1⟩; have X1 := hid (HX0.out.drew.below b6); have ZB1 := hid (HZ0.out.drew.keep b6); have T1 := hid (HT0.out.drew.trans (Stp.of_below HX0.out.drew b6)); have H1 := hid fun h => (Stp.of_below HX0.out.drew b6).old _ (HH0.out h); clear b6)))
            clear k4 k3 k2 k1
            have NL := HL.out
            have NV := HMX.out
            by_cases t : 1 + r1 < l
            · have t1 : decide (((1 : Int) + (r1 : Nat)) < (l : Nat)) = true := decide_eq_true (by omega)
              have HNX := hid (show lb a (n + 1) (valN n F.testBit a i) (k + 1) = (1 + r1, some k) from by rw [HS1k.out, NV, if_pos (by rw [NL]; exact t)])
              clear t NL NV
              go_wp2_with fail
              obtain ⟨kl, hkey⟩ := HKEY.out
              obtain ⟨v0, st, w10, he, w11, hes, hput⟩ := (OKb_weak (a := a) (i := i) (x := k) X4.out.drew.best).entry K87 M110 Z3 hkey (OKb_mk _ a i k)
              have he0 : (Instr.mapEntry 110 (.map (some M2)) (.agg #[.int .i64 a, .int .i64 i])).run Tryd.prog w9.drew = .ok (.tuple #[v0, .int .i64 st]) w10 := he 0
              have hes0 : (Instr.entryStore 110 (.map (some M2)) (.int .i64 st) (.int .i64 k)).run Tryd.prog w10 = .ok () w11 := hes 0
              have X5 := hid (X4.out.drew.put hput)
              have T5 := hid (T4.out.drew.trans (Stp.best hput))
              have ZB5 := hid (ZB4.out.drew.grown hput.grown (by have := HND.out; unfold Two at this; simp only [Option.some.injEq, ne_eq]; exact fun e => this (.inr e)))
              have H5 := hid hput.has
              have c3 := X4.out.blk.cell 3
              have u0 := ZB4.out.cell 0; have u1 := ZB4.out.cell 1
              simp only [List.getElem?_toArray, List.getElem?_cons_zero, List.getElem?_cons_succ] at c3 u0 u1
              clear he hes hput hkey
              go_region
              all_goals go_wp2
              all_goals (go_roundg (gk - 1))
              any_goals (case measure => have := HK.out; omega)
              all_goals
                exact ⟨k + 1, by have := HK.out; omega, by go_num, ret_i' (by rw [HNX.out]; show (1 + (r1 : Int)) = ((1 + r1 : Nat) : Int); omega), hid ⟨by rw [HNX.out]; have := X5.out; rw [upd_upd] at this; exact this, fun _ => H5.out, ZB5.out, T5.out⟩⟩
            · have t1 : decide (((1 : Int) + (r1 : Nat)) < (l : Nat)) = false := decide_eq_false (by omega)
              have HNX := hid (show lb a (n + 1) (valN n F.testBit a i) (k + 1) = lb a (n + 1) (valN n F.testBit a i) k from by rw [HS1k.out, NV, if_neg (by rw [NL]; exact t)])
              clear t NL NV
              go_wp2
              go_roundg (gk - 1)
              case measure => have := HK.out; omega
              case rel => exact ⟨k + 1, by have := HK.out; omega, by go_num, by rw [HNX.out, HL.out], hid ⟨by rw [HNX.out, HXO.out]; exact X4.out, fun h => by rw [HNX.out] at h; exact H4.out h, ZB4.out, T4.out⟩⟩
          · have qi : ¬ (r0 : Int) < (r1 : Int) := by omega
            have hmx : valN n F.testBit a i k = 1 + r0 := by rw [HVK.out]; omega
            have HMX := hid hmx
            have hw : IntKind.i64.wrap (1 + (r0 : Int)) = 1 + (r0 : Int) := IntWalk.i64_in _ (by omega)
            have HQ := hid q
            clear hmx
            go_region_held3 (fun w' => w'.cell? ⟨w.heap.size, 0, none⟩ = some (.int .i64 a) ∧ w'.cell? ⟨w.heap.size, 1, none⟩ = some (.int .i64 i)) (first | assumption | exact ⟨z0, z1⟩ | go_keep)
              ((first
              | (go_at_call 73; have _q := X3.out; refine (hRb.out xo _ X3.out).mono ?_; rintro e w9 ⟨rfl, st9, as9, -⟩; have X4 := hid as9; have ZB4 := hid (st9.chg.blk ZB3.out HND.out); have T4 := hid (T3.out.trans st9); have H4 := hid fun h => st9.old _ (H3.out h); have y4a := ZB4.out.cell 0; have y4b := ZB4.out.cell 1; simp only [List.getElem?_toArray, List.getElem?_cons_zero, List.getElem?_cons_succ] at y4a y4b; have k4 : w9.cell? ⟨w.heap.size, 0, none⟩ = some (.int .i64 a) ∧ w9.cell? ⟨w.heap.size, 1, none⟩ = some (.int .i64 i) := ⟨y4a, y4b⟩; clear st9 as9 y4a y4b)
              | (go_at_call 97; have _q := X2.out; refine (h97b.out _).mono ?_; rintro e w8 ⟨rfl, b8⟩; have k3 : w8.cell? ⟨w.heap.size, 0, none⟩ = some (.int .i64 a) ∧ w8.cell? ⟨w.heap.size, 1, none⟩ = some (.int .i64 i) := ⟨cell_keep b8 k2.1, cell_keep b8 k2.2⟩; have X3 := hid (X2.out.below b8); have ZB3 := hid (ZB2.out.keep b8); have T3 := hid (T2.out.trans (Stp.of_below X2.out b8)); have H3 := hid fun h => (Stp.of_below X2.out b8).old _ (H2.out h); clear b8)
              | (go_at_call 73; have _q := X1.out; refine (hRa.out xo _ X1.out).mono ?_; rintro e w7 ⟨rfl, st7, as7, -⟩; have X2 := hid as7; have ZB2 := hid (st7.chg.blk ZB1.out HND.out); have T2 := hid (T1.out.trans st7); have H2 := hid fun h => st7.old _ (H1.out h); have y2a := ZB2.out.cell 0; have y2b := ZB2.out.cell 1; simp only [List.getElem?_toArray, List.getElem?_cons_zero, List.getElem?_cons_succ] at y2a y2b; have k2 : w7.cell? ⟨w.heap.size, 0, none⟩ = some (.int .i64 a) ∧ w7.cell? ⟨w.heap.size, 1, none⟩ = some (.int .i64 i) := ⟨y2a, y2b⟩; clear st7 as7 y2a y2b)
              | (go_at_call 97; refine (h97a.out _).mono ?_; rintro e w6 ⟨rfl, b6⟩; have k1 : w6.cell? ⟨w.heap.size, 0, none⟩ = some (.int .i64 a) ∧ w6.cell? ⟨w.heap.size, 1, none⟩ = some (.int .i64 i) := ⟨cell_keep b6 z0, cell_keep b6 z1⟩; have X1 := hid (HX0.out.drew.below b6); have ZB1 := hid (HZ0.out.drew.keep b6); have T1 := hid (HT0.out.drew.trans (Stp.of_below HX0.out.drew b6)); have H1 := hid fun h => (Stp.of_below HX0.out.drew b6).old _ (HH0.out h); clear b6)))
            clear k4 k3 k2 k1
            have NL := HL.out
            have NV := HMX.out
            by_cases t : 1 + r0 < l
            · have t1 : decide (((1 : Int) + (r0 : Nat)) < (l : Nat)) = true := decide_eq_true (by omega)
              have HNX := hid (show lb a (n + 1) (valN n F.testBit a i) (k + 1) = (1 + r0, some k) from by rw [HS1k.out, NV, if_pos (by rw [NL]; exact t)])
              clear t NL NV
              go_wp2_with fail
              obtain ⟨kl, hkey⟩ := HKEY.out
              obtain ⟨v0, st, w10, he, w11, hes, hput⟩ := (OKb_weak (a := a) (i := i) (x := k) X4.out.drew.best).entry K87 M110 Z3 hkey (OKb_mk _ a i k)
              have he0 : (Instr.mapEntry 110 (.map (some M2)) (.agg #[.int .i64 a, .int .i64 i])).run Tryd.prog w9.drew = .ok (.tuple #[v0, .int .i64 st]) w10 := he 0
              have hes0 : (Instr.entryStore 110 (.map (some M2)) (.int .i64 st) (.int .i64 k)).run Tryd.prog w10 = .ok () w11 := hes 0
              have X5 := hid (X4.out.drew.put hput)
              have T5 := hid (T4.out.drew.trans (Stp.best hput))
              have ZB5 := hid (ZB4.out.drew.grown hput.grown (by have := HND.out; unfold Two at this; simp only [Option.some.injEq, ne_eq]; exact fun e => this (.inr e)))
              have H5 := hid hput.has
              have c3 := X4.out.blk.cell 3
              have u0 := ZB4.out.cell 0; have u1 := ZB4.out.cell 1
              simp only [List.getElem?_toArray, List.getElem?_cons_zero, List.getElem?_cons_succ] at c3 u0 u1
              clear he hes hput hkey
              go_region
              all_goals go_wp2
              all_goals (go_roundg (gk - 1))
              any_goals (case measure => have := HK.out; omega)
              all_goals
                exact ⟨k + 1, by have := HK.out; omega, by go_num, ret_i' (by rw [HNX.out]; show (1 + (r0 : Int)) = ((1 + r0 : Nat) : Int); omega), hid ⟨by rw [HNX.out]; have := X5.out; rw [upd_upd] at this; exact this, fun _ => H5.out, ZB5.out, T5.out⟩⟩
            · have t1 : decide (((1 : Int) + (r0 : Nat)) < (l : Nat)) = false := decide_eq_false (by omega)
              have HNX := hid (show lb a (n + 1) (valN n F.testBit a i) (k + 1) = lb a (n + 1) (valN n F.testBit a i) k from by rw [HS1k.out, NV, if_neg (by rw [NL]; exact t)])
              clear t NL NV
              go_wp2
              go_roundg (gk - 1)
              case measure => have := HK.out; omega
              case rel => exact ⟨k + 1, by have := HK.out; omega, by go_num, by rw [HNX.out, HL.out], hid ⟨by rw [HNX.out, HXO.out]; exact X4.out, fun h => by rw [HNX.out] at h; exact H4.out h, ZB4.out, T4.out⟩⟩
        · have q1 := bitV_yes hbit
          have HNX := hid (show lb a (n + 1) (valN n F.testBit a i) (k + 1) = lb a (n + 1) (valN n F.testBit a i) k from by rw [HS0k.out, hbit]; rfl)
          clear hl hbit hk HS0k
          go_wp2
          go_roundg (gk - 1)
          case measure => have := HK.out; omega
          case rel => exact ⟨k + 1, by have := HK.out; omega, by go_num, by rw [HNX.out, HL.out], hid ⟨by rw [HNX.out]; exact HLI.out.asr, fun h => by rw [HNX.out] at h; exact HLI.out.has h, HLI.out.blk, HLI.out.stp⟩⟩
      · obtain rfl : k = n := by omega
        have e0 := HBE.out.2.2.2
        have e1 : (lb a (k + 1) (valN k F.testBit a i) k).1 = askN k F.testBit a i := by rw [e0]
        have HS5 : Hid (AS wr s k F M1 M2 B) := hid (by
          have := HLI.out.asr
          rw [e0] at this
          simp only [Option.getD_some] at this
          rw [← HGB.out, upd_same] at this
          exact this)
        have HH5 : Hid (Has wr M2 (keyA a i)) := hid (HLI.out.has (by rw [e0]; simp))
        have HB5 := hid HLI.out.blk
        have HC5 := hid HLI.out.stp
        obtain ⟨kl, hkey⟩ := HKEY.out
        obtain ⟨w6, hrun, hput⟩ := (HS5.out.drew.need.weak (keyA a i)).update K87 M110 hkey (OKn_mk k F.testBit a i)
        rw [e1]
        generalize hr : askN k F.testBit a i = r at hrun ⊢
        have hrun' : (Instr.mapUpdate 110 (.map (some M1)) (.agg #[.int .i64 a, .int .i64 i]) (.int .i64 (r : Nat))).run Tryd.prog wr.drew = .ok () w6 := hrun
        have HS6 := hid (HS5.out.drew.done hput (fun _ => HH5.out))
        have HC6 := hid (HC5.out.drew.trans (Stp.need HS5.out.drew hput))
        have HH6 := hid ((Stp.need HS5.out.drew hput).old _ HH5.out)
        have hne : w.heap.size ≠ M1 := HS5.out.need.ne_blk HB5.out
        have HB6 := HB5.out.drew.grown hput.grown (by simpa using hne)
        have c2 := HS5.out.blk.cell 2
        have d2 := HS6.out.blk.cell 2; have m0 := HB6.cell 0; have m1 := HB6.cell 1
        simp only [List.getElem?_toArray, List.getElem?_cons_zero, List.getElem?_cons_succ] at c2 d2 m0 m1
        have HR := hid hr
        clear hrun hput hne HB6 e0 e1 HLI hkey hk hr
        go_wp2_with fail
        go_region_held3 (fun w' => w'.cell? ⟨s, 2, none⟩ = some (.map (some M1)) ∧ w'.cell? ⟨w.heap.size, 0, none⟩ = some (.int .i64 a) ∧ w'.cell? ⟨w.heap.size, 1, none⟩ = some (.int .i64 i)) (first | assumption | exact ⟨c2, z0, z1⟩ | exact ⟨d2, m0, m1⟩ | go_keep)
          (fail)
        go_wp2
        go_ret
        exact ⟨by rw [HR.out]; rfl, HC6.out, HS6.out, fun _ => HH6.out⟩
theorem Good.le {n : Nat} {p : Nat → Bool} {B : Nat → Nat → Nat} {m k : Nat} (h : Good n p B m) (hk : k ≤ m) : Good n p B k := fun a i hv hu hs => h a i hv (by omega) hs
theorem askTo (s n F M1 M2 : Nat) (hn : n ≤ 6) (hF : F < 18446744073709551616) : ∀ m, AskTo s n F M1 M2 m := by
  intro m
  induction m with
  | zero => intro a i B W h; omega
  | succ m ih =>
    intro a i B W hu hv hs hg
    by_cases hh : Has W M1 (keyA a i)
    · exact askHit s n F M1 M2 a i B W hn hv hs hh
    · cases hst : settl (2 ^ n) F.testBit a i
      · by_cases hm : un n a = m
        · have := askLoop s n F M1 M2 m a i B W hn hF ih hm hv hg hs hh hst
          rw [hst] at this
          exact this
        · have := ih a i B W (by omega) hv hs (hg.le (by omega))
          rw [hst] at this
          exact this
      · have := askSet s n F M1 M2 a i B W hn hF hv hs hh hst
        rw [hst] at this
        exact this
/-- What ask does to an asker of its family. -/
theorem askS (s n F M1 M2 a i : Nat) (W : World) (hn : n ≤ 6) (hF : F < 18446744073709551616) (hv : View n a i) (hs : AS W s n F M1 M2 (bestN n F.testBit)) :
    Calls Tryd.prog 73 #[.pointer (some ⟨s, 0, none⟩), .agg #[.int .i64 a, .int .i64 i]] W fun e w' => e = .returned (.int .i64 (askN n F.testBit a i : Nat)) ∧ Stp M1 M2 W w' ∧ AS w' s n F M1 M2 (bestN n F.testBit) ∧ (settl (2 ^ n) F.testBit a i = false → Has w' M2 (keyA a i)) :=
  askTo s n F M1 M2 hn hF (un n a + 1) a i _ W (by omega) hv hs fun _ _ _ _ _ => rfl
end Go.Proofs.YtjddbglbodkihaaDoor
