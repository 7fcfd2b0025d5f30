/- Walk of MintKept. Conditions: the lines are short of the shelf's bound; the library's variables stand. -/
import Derived.Test.YtciadmjdadnolaaGreatDoorK36
import Derived.Test.YtciadmjdadnolaaGreatDoorK38
namespace Go.Proofs.YtciadmjdadnolaaGreatDoor
open Go.RowKit Go.Maps
set_option maxRecDepth 100000 in
set_option maxHeartbeats 40000000 in
theorem mintKept_walk (w : World) (five : Bool) (U : Option Addr) (n0 c0 : Nat) (l : List Ac) (he : EnvN w) (hT : Tab w) (hs : Sl5 w U n0 c0 l) (hl : ∀ x ∈ l, x.line.size ≤ 100000000) :
 Calls Tryz.prog 3 #[.bool five, .slice U n0 c0] w fun e w' => e = .returned (.bool true) ∧ Below w.heap.size w w' := by
 have HC := hid (copiesB five w)
 have HS := hid hs
 have HEN := hid he
 have HT := hid hT
 have HL := hid hl
 have hcap := hs.cap
 have hcapm := hs.capm
 have h35 := nFive_35 five
 have HLEN := hid hs.len
 obtain ⟨n, hn⟩ : ∃ n, n = nFive five := ⟨_, rfl⟩
 rw [← hn] at HC h35
 have H35 := hid h35
 clear hs he hT hl hn
 go_enter Tryz.func3, Tryz.ntmps3
 go_wp2_with fail
 refine (HC.out).mono ?_; rintro e w1 ⟨a, r, rfl, ⟨L, M0, h1, h2, h3, h4, h5⟩, b1⟩
 obtain ⟨A, ca, rfl⟩ := own_form h1
 obtain ⟨R0, rc, rfl⟩ := own_form h2
 have HOW := hid h1
 have HB1 := hid b1
 have HNC := hid h3
 have hln : L.length = n := by have := h1.1; simpa [ptrs] using this
 have HLN := hid hln
 obtain ⟨lim, hlim⟩ : ∃ lim, lim = min n0 60 := ⟨_, rfl⟩
 have hmin : min (n0 : Int) 60 = (lim : Int) := by omega
 have hlimn : lim ≤ n0 := by omega
 have hlim60 : lim ≤ 60 := by omega
 have hlimc : lim ≤ c0 := by omega
 clear hlim h1 h2 h3 h4 h5 b1 HC hln
 have HW1 := hid (own_act1 (a := ⟨2, 0, 0, 0, ByteArray.empty⟩) (base := w.heap.size) (Blk.new w1 30 #[.int .i64 2, .int .i64 0, .int .i64 0, .int .i64 0, .string ByteArray.empty]) HB1.out.size)
 have HBB := hid (HB1.out.alloc HB1.out.size (.cells #[.int .i64 2, .int .i64 0, .int .i64 0, .int .i64 0, .string ByteArray.empty] 30))
 have HTK := hid ((HS.out.below HBB.out).take lim hlimn)
 go_wp2_with (at_builtin; refine pushActs _ w.heap.size 1 _ _ HW1.out U lim c0 _ HTK.out _ _ rfl rfl rfl rfl (by omega) HBB.out.size ?_; intro v1 w2 hown1 hgr; obtain ⟨T, tc, rfl⟩ := own_form hown1)
 have hcg : Chs (fun i => i = w1.heap.size) (w1.alloc (.cells #[.int .i64 2, .int .i64 0, .int .i64 0, .int .i64 0, .string ByteArray.empty] 30)) w2 := ⟨hgr.os, hgr.tape, hgr.output, hgr.size, fun i hi hs => hgr.block i hi fun e => hs (by cases e; rfl)⟩
 obtain ⟨acts, hacts⟩ : ∃ acts, acts = [⟨2, 0, 0, 0, ByteArray.empty⟩] ++ l.take lim := ⟨_, rfl⟩
 rw [← hacts] at hown1
 have hal : acts.length = 1 + lim := by rw [hacts, List.length_append, List.length_take, HLEN.out, List.length_singleton]; omega
 have HAL := hid hal
 have HAS := hid (show ∀ x ∈ acts, x.line.size ≤ 100000000 from fun x hx => by
  rw [hacts] at hx
  rcases List.mem_append.1 hx with hx | hx
  · simp at hx; subst hx; exact Nat.zero_le _
  · exact HL.out x (List.mem_of_mem_take hx))
 have hLw : ∀ i, inL L i → w.heap.size ≤ i ∧ i < w1.heap.size := fun i hi => by
  rcases hi with hi | hi
  · obtain ⟨p, hp, rfl⟩ := List.mem_map.1 hi
    exact ⟨(HNC.out.cpm p hp).2.1, (HNC.out.cpm p hp).1.lt.1⟩
  · obtain ⟨p, hp, rfl⟩ := List.mem_map.1 hi
    exact ⟨(HNC.out.cpm p hp).2.2, (HNC.out.cpm p hp).1.lt.2⟩
 have hcps0 := (cps_newB (HNC.out.keep ((Below.refl w1.heap.size w1).alloc (Nat.le_refl _) (.cells #[.int .i64 2, .int .i64 0, .int .i64 0, .int .i64 0, .string ByteArray.empty] 30))) HLN.out).chs hcg (fun i hi e => by have := (hLw i hi).2; omega)
 have HKR := hid (show KepR w w2 A ca n L (List.replicate n ⟨0, false, fun _ => none⟩) [] 0 [] bk0 [] (.slice none 0 0) none 0 T tc acts from
  ⟨⟨hcps0, own_chsM (HOW.out.alloc _) hcg (fun g hg e => by have := (HOW.out.lt g hg).2; omega), World.ownsRow_nil _ _ _ _, Sl.nil _, (fun a e => by cases e), (fun a e => by cases e), (fun i r hr => by simp at hr), (fun r hr => by simp at hr), (fun i j r q _ hr => by simp at hr), (fun r hr => by simp at hr), (fun i hi => (hLw i hi).1),
   HBB.out.grown hgr HBB.out.size (fun k hk => by cases hk; exact HB1.out.size), KeptI.begin (by have := H35.out; omega), (fun c hc i x hx => by rw [List.eq_of_mem_replicate hc] at hx; cases hx), (fun i r hr => by simp at hr)⟩, by rw [hal]; exact hown1⟩)
 have HOA := hid HOW
 clear hown1 hgr hcg hacts hLw hcps0 HW1 HBB HTK HS HL hmin
 go_wp2
 go_loopg [7, 8, 9, 40] (1 + lim) (fun gk mv sv nw i wr => ∃ (d : Nat) (C : List Cp) (Ms : List MRec) (M : Int) (J : List ByteArray) (s : Bk) (sure : List ByteArray) (S : Option Addr) (sc : Nat), gk + d = 1 + lim ∧ i = .int .i64 d ∧ sv = .slice S sure.length sc ∧ nw = .int .i64 ((Ms.length : Int) - 1) ∧ M ≤ d ∧ Ms.length ≤ d ∧ Hid (KepR w wr A ca n L C Ms M J s sure mv S sc T tc acts))
 case atStart => exact ⟨0, _, [], 0, [], bk0, [], none, 0, by omega, rfl, rfl, by simp, by omega, by simp, HKR⟩
 case round =>
  clear HKR
  obtain ⟨d, C, Ms, M, J, s, sure, S, sc, hd, rfl, rfl, rfl, hMd, hMl, HK⟩ := hrel
  obtain ⟨P, pc, rfl⟩ := own_form HK.out.ks.mts
  have HD := hid hd
  have HMD := hid hMd
  have HML := hid hMl
  by_cases hlt : d < 1 + lim
  · have HLT := hid hlt
    obtain ⟨tb, tof, rfl, lb, t0, t1, t2, t3, t4⟩ := (Sl5.of_own HK.out.row rfl).at (k := d) (by rw [HAL.out]; exact hlt)
    have hax : (ac acts d).line.size ≤ 100000000 := HAS.out _ (by
     have hl2 : d < acts.length := by rw [HAL.out]; exact hlt
     rw [ac_of (List.getElem?_eq_getElem hl2)]
     exact List.getElem_mem hl2)
    have HAX := hid hax
    have HKA := hid (HK.out.below ((Below.refl wr.heap.size wr).alloc (Nat.le_refl _) (.cells #[.int .i64 (ac acts d).kind, .int .i64 (ac acts d).n, .int .i64 (ac acts d).m, .int .i64 (ac acts d).i, .string (ac acts d).line] 30)))
    have HAB := hid (Blk.new wr 30 #[.int .i64 (ac acts d).kind, .int .i64 (ac acts d).n, .int .i64 (ac acts d).m, .int .i64 (ac acts d).i, .string (ac acts d).line])
    generalize (ac acts d).kind = kind at *
    generalize (ac acts d).n = an at *
    generalize (ac acts d).m = am at *
    generalize (ac acts d).i = ai at *
    generalize (ac acts d).line = aline at *
    have k0 := HAB.out.cell 0
    simp only [List.getElem?_toArray, List.getElem?_cons_zero] at k0
    clear hd hMd hMl hax lb
    obtain ⟨ab, hab⟩ : ∃ ab, ab = wr.heap.size := ⟨_, rfl⟩
    have HX := hid (show KepR w (wr.alloc (.cells #[.int .i64 kind, .int .i64 an, .int .i64 am, .int .i64 ai, .string aline] 30)) A ca n L C Ms M J s sure (.slice P Ms.length pc) S sc (some ⟨tb, tof, none⟩) tc acts from HKA.out)
    have HAB := hid (show Blk (wr.alloc (.cells #[.int .i64 kind, .int .i64 an, .int .i64 am, .int .i64 ai, .string aline] 30)) ab 30 #[.int .i64 kind, .int .i64 an, .int .i64 am, .int .i64 ai, .string aline] from by rw [hab]; exact HAB.out)
    have hn5 : n ≤ 5 := by have := H35.out; omega
    have hn3 : 3 ≤ n := by have := H35.out; omega
    by_cases h3 : kind = 3
    · subst h3
      have hw : IntKind.u64.wrap (n : Int) = (n : Int) := by rw [IntKind.wrap_u64]; omega
      have hne : ((n : Int) == 0) = false := by rw [beq_eq_false_iff_ne]; omega
      have hne2 : (n : Int) ≠ 0 := by omega
      have hne3 : ¬ n = 0 := by omega
      obtain ⟨q, hqn, hqe⟩ : ∃ q : Nat, q < n ∧ wrap64 ((IntKind.u64.wrap an).tmod (n : Int)) = (q : Int) := by
       have h0 : 0 ≤ IntKind.u64.wrap an := by rw [IntKind.wrap_u64]; omega
       have h1 : 0 ≤ IntKind.u64.wrap an % (n : Int) := Int.emod_nonneg _ (by omega)
       have h2 : IntKind.u64.wrap an % (n : Int) < n := Int.emod_lt_of_pos _ (by omega)
       rw [Int.tmod_eq_emod_of_nonneg h0]
       refine ⟨(IntKind.u64.wrap an % (n : Int)).toNat, by omega, ?_⟩
       generalize IntKind.u64.wrap an % (n : Int) = z at *
       simp only [wrap64]
       omega
      have hqe2 : IntKind.i64.wrap ((IntKind.u64.wrap an).tmod (n : Int)) = (q : Int) := by rw [← hqe]; first | rfl | (simp only [wrap64, IntKind.wrap_i64]; done)
      obtain ⟨b1, o1, u1, rfl, lb1, e1, ca1⟩ := (Sl.of_own HX.out.ks.own).at hqn
      obtain ⟨y, hy, rfl⟩ := ptrs_at e1
      rw [List.getElem?_map] at hy
      obtain ⟨p, hp, rfl⟩ := Option.map_eq_some_iff.1 hy
      obtain ⟨cc, hcc, _⟩ := HX.out.ks.cps.at hp
      have HP := hid hp
      have HCC := hid hcc
      have HCA := hid ca1
      have hca := (Sl.of_own HX.out.ks.own).cap
      clear lb1 e1 hy hp hcc
      go_wp2_with fail
      rw [← hab]
      clear hab k0 t0 t1 t2 t3 t4 ca1
      generalize wr.alloc (.cells #[.int .i64 3, .int .i64 an, .int .i64 am, .int .i64 ai, .string aline] 30) = X at *
      refine wp_region_held_drew (S := (fun w' => w'.cell? ⟨ab, 1, none⟩ = some (.int .i64 an) ∧ w'.cell? ⟨ab, 2, none⟩ = some (.int .i64 am))) (by kernel_rfl) (by (try dsimp only); (exact ⟨HAB.out.cell 1, HAB.out.cell 2⟩)) (fun hHeld => ?_)
      have HX := hid (HX.out.below (Below.refl _ X).drew); have HAB := hid HAB.out.drew; have HCA := hid (cell_keep (Below.refl _ X).drew HCA.out)
      generalize X.drew = X1 at *
      obtain ⟨X, rfl⟩ : ∃ Y, Y = X1 := ⟨X1, rfl⟩
      refine tk (v := ?_) 0 (some 185) rfl rfl (by rfl) ?_ (by assumption) ?_; rotate_left; · (intro w hSw; (try dsimp only at hSw); first | (go_simp; done) | (go_simp; with_reducible rfl))
      try simp only [Act.put, pA0, pA1, pA2]
      refine tk (v := ?_) 1 (some 186) rfl rfl (by rfl) ?_ (by assumption) ?_; rotate_left; · (intro w hSw; (try dsimp only at hSw); first | (go_simp; done) | (go_simp; with_reducible rfl))
      try simp only [Act.put, pA0, pA1, pA2]
      refine tk (v := ?_) 2 (some 187) rfl rfl (by rfl) ?_ (by assumption) ?_; rotate_left; · (intro w hSw; (try dsimp only at hSw); first | (go_simp; done) | (go_simp; with_reducible rfl))
      try simp only [Act.put, pA0, pA1, pA2]
      refine tk (v := ?_) 3 (some 188) rfl rfl (by rfl) ?_ (by assumption) ?_; rotate_left; · (intro w hSw; (try dsimp only at hSw); first | (go_simp; done) | (go_simp; with_reducible rfl))
      try simp only [Act.put, pA0, pA1, pA2]
      refine tk (v := ?_) 4 (some 189) rfl rfl (by rfl) ?_ (by assumption) ?_; rotate_left; · (intro w hSw; (try dsimp only at hSw); first | (go_simp; done) | (go_simp; with_reducible rfl))
      try simp only [Act.put, pA0, pA1, pA2]
      refine tk (v := ?_) 5 (some 190) rfl rfl (by rfl) ?_ (by assumption) ?_; rotate_left; · (intro w hSw; (try dsimp only at hSw); first | (go_simp; done) | (go_simp; with_reducible rfl))
      try simp only [Act.put, pA0, pA1, pA2]
      refine tk (v := ?_) 6 (some 191) rfl rfl (by rfl) ?_ (by assumption) ?_; rotate_left; · (intro w hSw; (try dsimp only at hSw); first | (go_simp; done) | (go_simp; with_reducible rfl))
      try simp only [Act.put, pA0, pA1, pA2]
      refine tk (v := ?_) 7 (some 192) rfl rfl (by rfl) ?_ (by assumption) ?_; rotate_left; · (intro w hSw; (try dsimp only at hSw); first | (go_simp; done) | (go_simp; with_reducible rfl))
      try simp only [Act.put, pA0, pA1, pA2]
      refine tk (v := ?_) 8 (some 193) rfl rfl (by rfl) ?_ (by assumption) ?_; rotate_left; · (intro w hSw; (try dsimp only at hSw); first | (go_simp; done) | (go_simp; with_reducible rfl))
      try simp only [Act.put, pA0, pA1, pA2]
      refine tk (v := ?_) 9 (some 194) rfl rfl (by rfl) ?_ (by assumption) ?_; rotate_left; · (intro w hSw; (try dsimp only at hSw); first | (go_simp; done) | (go_simp; with_reducible rfl))
      try simp only [Act.put, pA0, pA1, pA2]
      refine tk (v := ?_) 11 (some 196) rfl rfl (by rfl) ?_ (by assumption) ?_; rotate_left; · (intro w hSw; (try dsimp only at hSw); first | (go_simp; done) | (go_simp; with_reducible rfl))
      try simp only [Act.put, pA0, pA1, pA2]
      refine tk (v := ?_) 12 (some 197) rfl rfl (by rfl) ?_ (by assumption) ?_; rotate_left; · (intro w hSw; (try dsimp only at hSw); first | (go_simp; done) | (go_simp; with_reducible rfl))
      try simp only [Act.put, pA0, pA1, pA2]
      refine tk (v := ?_) 13 (some 198) rfl rfl (by rfl) ?_ (by assumption) ?_; rotate_left; · (intro w hSw; (try dsimp only at hSw); first | (go_simp; done) | (go_simp; with_reducible rfl))
      try simp only [Act.put, pA0, pA1, pA2]
      refine tk (v := ?_) 14 (some 199) rfl rfl (by rfl) ?_ (by assumption) ?_; rotate_left; · (intro w hSw; (try dsimp only at hSw); first | (go_simp; done) | (go_simp; with_reducible rfl))
      try simp only [Act.put, pA0, pA1, pA2]
      refine wpAnyH_ready (rs := [10]) (by kernel_rfl) (by simp) ?_
      refine AllReadyH.cons rfl (fun K hK => ?_) AllReadyH.nil
      have hcz := HCA.out
      go_simp
      clear hcz
      refine hK.out _ _ ?_ (fun hHeld => ?_); · ((try dsimp only); (exact ⟨HAB.out.cell 1, HAB.out.cell 2⟩))
      clear hK K
      try simp only [Act.put, pA0, pA1, pA2]
      refine wpAnyH_ready (rs := [15]) (by kernel_rfl) (by simp) ?_
      refine AllReadyH.cons rfl (fun K hK => ?_) AllReadyH.nil
      go_simp
      generalize (bits .and .i64 am 1 == 1) = on
      refine (reachF on p.1 p.2 cc.mark cc.away cc.ent X (HX.out.ks.cps.cp q p cc HP.out HCC.out)).mono ?_; rintro e' X1 ⟨rfl, hc', hg'⟩
      have hin : Chs (inL L) X X1 := hg'.mono fun i e => by rw [e]; exact inL_1 HP.out
      have HN := hid (show KepR w X1 (some ⟨b1, o1, none⟩) ca n L (C.set q { cc with away := !on }) Ms M J s sure (.slice P Ms.length pc) S sc (some ⟨tb, tof, none⟩) tc acts from
       ⟨HX.out.ks.copies (HX.out.ks.cps.put (c' := { cc with away := !on }) HP.out hc' (hg'.mono fun i e => .inl e)) hin (HX.out.ks.kept.setAway HCC.out _) (fun c2 hc2 => by
        obtain ⟨j, hj⟩ := List.getElem?_of_mem hc2
        by_cases ej : j = q
        · subst ej
          rw [List.getElem?_set_self (List.getElem?_eq_some_iff.1 HCC.out).1] at hj
          cases hj
          exact HX.out.ks.short cc (List.mem_of_getElem? HCC.out)
        · rw [List.getElem?_set_ne (fun x => ej x.symm)] at hj
          exact HX.out.ks.short c2 (List.mem_of_getElem? hj)) HX.out.ks.last HX.out.ks.mvL, own_chsM HX.out.row hin HX.out.rowL⟩)
      have HAB := hid (hg'.blk HAB.out (fun e => blk_neM HAB.out (HX.out.ks.cps.cp q p cc HP.out HCC.out).blk (by decide) e))
      clear hc' hg' hin hHeld HX
      obtain ⟨X, rfl⟩ : ∃ Y, Y = X1 := ⟨X1, rfl⟩
      refine hK.out _ _ ?_ (fun hHeld => ?_); · ((try dsimp only); (exact ⟨HAB.out.cell 1, HAB.out.cell 2⟩))
      clear hK K
      try simp only [Act.put, pA0, pA1, pA2]
      refine wpAnyH_done (by kernel_rfl) ?_ _
      have hd60 : d < 61 := by have := HLT.out; omega
      go_wp2
      go_roundg (gk - 1)
      case measure => have := HD.out; have := HLT.out; omega
      case rel => exact ⟨d + 1, _, Ms, M, J, s, sure, S, sc, by have := HD.out; have := HLT.out; omega, by go_num, rfl, rfl, by have := HMD.out; omega, by have := HML.out; omega, HN⟩
    · by_cases h2 : kind = 2
      · subst h2
        have HCL := hid (cloneC A n ca _ (ptrs_one _) (by omega) (wr.alloc (.cells #[.int .i64 2, .int .i64 an, .int .i64 am, .int .i64 ai, .string aline] 30)) (Sl.of_own HX.out.ks.own))
        clear hab HAB HKA h3
        go_wp2_with fail
        generalize wr.alloc (.cells #[.int .i64 2, .int .i64 an, .int .i64 am, .int .i64 ai, .string aline] 30) = X at *
        clear k0 t0 t1 t2 t3 t4
        refine (HCL.out).mono ?_; rintro e w2 ⟨A2, c2, rfl, ho2, b2⟩
        have HX := hid (HX.out.below b2)
        have hcl : C.length = n := by rw [← HX.out.ks.cps.len]; exact HLN.out
        have htl := HX.out.ks.kept.top_le
        have HOP := hid (openB H35.out w w2 A2 c2 L C HX.out.ks.low HEN.out HT.out (Sl.of_own ho2) HX.out.ks.cps HX.out.ks.lowL (by have := HMD.out; have := HLT.out; omega) HX.out.ks.short.best)
        unfold OpenR at HOP
        have hd60 : d < 61 := by have := HLT.out; omega
        clear ho2 b2 HCL htl
        go_wp2_with fail
        refine (HOP.out).mono ?_; rintro e w5 hor
        rcases hor with ⟨_, rfl, b5⟩ | ⟨hmo, m, dd, R, rfl, hmm, hcc, hch, hft⟩
        · have HX := hid (HX.out.below b5)
          clear b5 HOP
          go_wp2
          go_roundg (gk - 1)
          case measure => have := HD.out; have := HLT.out; omega
          case rel => exact ⟨d + 1, _, Ms, M, J, s, sure, S, sc, by have := HD.out; have := HLT.out; omega, by go_num, rfl, rfl, by have := HMD.out; omega, by have := HML.out; omega, HX⟩
        · obtain ⟨ht, hko⟩ := HX.out.ks.kept.openNew (by rw [hcl]; exact hmo)
          rw [ht] at hmm
          have HPRE := hid hko.sure
          have HJ2 := hid (readM_len C)
          have HBK := hid (readM_keep C)
          have HKS := hid (show KepS w w5 A ca n L (openM C) Ms (M + 1) (readM C).2 (readM C).1 sure (.slice P Ms.length pc) S sc (Ms.length + 1) from
           HX.out.ks.copies hcc hch hko HX.out.ks.short.open (fun i r hr => ⟨fun e => by have := (List.getElem?_eq_some_iff.1 hr).1; omega, fun _ => by
            have h1 := HX.out.ks.last i r hr
            have h2 := (List.getElem?_eq_some_iff.1 hr).1
            rcases Nat.lt_or_ge (i + 1) Ms.length with h3 | h3
            · have := h1.2 h3; omega
            · have := (h1.1 (by omega)).1; omega⟩) HX.out.ks.mvL)
          have HRW := hid (own_chsM HX.out.row hch HX.out.rowL)
          have HNEW := hid (show ∀ i, R i ∨ footM m dd i → ¬ inL L i ∧ w.heap.size ≤ i ∧ (Value.slice P Ms.length pc).ownBlock ≠ some i ∧ (∀ a, S = some a → a.block ≠ i) ∧ ∀ q ∈ Ms, ¬ q.all i from fun i hi => by
           have h1 := hft i hi
           have h2 := HX.out.ks.low.size
           refine ⟨fun hL => by have := HX.out.ks.cps.lt hL; omega, by omega, fun e => by have := (HX.out.ks.mts.lt i e).2; omega, fun a e e2 => by have := HX.out.ks.surT a e; omega, fun q hq hh => ?_⟩
           obtain ⟨j, hj⟩ := List.getElem?_of_mem hq
           rcases hh with hh | hh
           · have := (HX.out.ks.each j q hj).1.lt i hh; omega
           · have := (HX.out.ks.each j q hj).1.foot_lt hh; omega)
          have HMM := hid hmm
          obtain ⟨J2, hJ2⟩ : ∃ J2, J2 = (readM C).2 := ⟨_, rfl⟩
          obtain ⟨s2, hs2⟩ : ∃ s2, s2 = (readM C).1 := ⟨_, rfl⟩
          rw [← hJ2, ← hs2] at hmm HKS HMM
          rw [← hJ2] at HPRE HJ2
          rw [← hs2] at HBK
          have HMP := hid HX.out.ks.kept.pos
          obtain ⟨DD, ddc, rfl⟩ := own_form hmm.own
          obtain ⟨sb, A1, ca1, m1, m2, m3, m4⟩ := hmm.ex
          have HJO := hid (mintJournal m _ _ sb DD J2.length ddc J2 false w5 (by have := HJ2.out; omega) m1 (Sl.of_own hmm.own))
          have hsl : sure.length ≤ J2.length := HPRE.out.length_le
          clear hmm hcc hch hft hko ht m1 m2 m3 m4 hJ2 hs2 HOP HX hmo hcl
          go_wp2_with fail
          refine (HJO.out).mono ?_; rintro e w6 ⟨D2, dc2, rfl, ho, b6⟩
          have HKS := hid (HKS.out.below b6)
          have HRW := hid (own_below HRW.out b6)
          have HMM := hid (HMM.out.below b6)
          have htk : J2.take sure.length = sure := (List.prefix_iff_eq_take.1 HPRE.out).symm
          have hcap2 := (Sl.of_own ho).cap
          have HTK := hid (show Sl w6 D2 sure.length dc2 (strV sure) from by
           have h := (Sl.of_own ho).take sure.length hsl
           have e2 : (strV J2).take sure.length = strV sure := by unfold strV; rw [← List.map_take, htk]
           rwa [e2] at h)
          have HEQ := hid (equalS D2 S sure.length dc2 sc sure w6 (by have := HJ2.out; omega) HTK.out HKS.out.sur)
          have z1 : decide ((J2.length : Int) < (sure.length : Int)) = false := decide_eq_false (by omega)
          have z2 : decide (J2.length < sure.length) = false := decide_eq_false (by omega)
          clear ho b6 HJO htk HTK
          go_wp2_with fail
          refine (HEQ.out).mono ?_; rintro e w7 ⟨rfl, b7⟩
          have HKS := hid (HKS.out.below b7)
          have HRW := hid (own_below HRW.out b7)
          have HMM := hid (HMM.out.below b7)
          obtain ⟨sb, A1, ca1, m1, m2, m3, m4⟩ := HMM.out.ex
          have HOU := hid (mintOut m _ _ sb _ false w7 m1)
          clear b7 HEQ m1 m2 m3 m4
          go_wp2_with fail
          refine (HOU.out).mono ?_; rintro e w' ⟨rfl, rfl⟩
          have hml := HML.out
          go_wp2_with (at_builtin; refine push1L TMm w7 #[.pointer (some ⟨m, 0, none⟩)] w.heap.size _ _ _ HKS.out.mts _ _ w7.heap.size rfl rfl rfl rfl rfl rfl (by simp [Value.oneCell']) (by omega) (by omega) HKS.out.low.size ?_; intro v9 w9 hown9 hgr9 hap9; obtain ⟨P9, p9, rfl⟩ := own_form hown9; have HKP := hid (HKS.out.push (r := ⟨m, R, .slice DD J2.length ddc, M + 1, s2, J2, false⟩) HMM.out HBK.out HJ2.out (by have := HMP.out; show 0 ≤ M + 1; omega) ⟨rfl, rfl, rfl, rfl⟩ HNEW.out hown9 hgr9 hap9); have HRW := hid (own_chsM (S := fun i => some i = (Value.slice P Ms.length pc).ownBlock) HRW.out ⟨hgr9.os, hgr9.tape, hgr9.output, hgr9.size, fun i hi hs => hgr9.block i hi hs⟩ (fun g hg e => (own_apart2 HRW.out HKS.out.mts (by decide)).elim (fun h0 => by rw [h0] at hg; cases hg) (fun h0 => h0 (by rw [hg, e])))); clear hown9 hgr9 hap9)
          have hlen9 : (Ms ++ [(⟨m, R, .slice DD J2.length ddc, M + 1, s2, J2, false⟩ : MRec)]).length = Ms.length + 1 := by simp
          go_roundg (gk - 1)
          case measure => have := HD.out; have := HLT.out; omega
          case rel => exact ⟨d + 1, openM C, Ms ++ [⟨m, R, .slice DD J2.length ddc, M + 1, s2, J2, false⟩], M + 1, J2, s2, sure, S, sc, by have := HD.out; have := HLT.out; omega, by go_num, rfl, by rw [hlen9]; go_num, by have := HMD.out; omega, by rw [hlen9]; have := HML.out; omega, hid ⟨by rw [hlen9]; exact HKP.out, HRW.out⟩⟩
      · by_cases h0 : kind = 0
        · subst h0
          by_cases hz : Ms = []
          · have hz2 : Ms.length = 0 := by rw [hz]; rfl
            have b1 : ((Ms.length : Int) == 0) = true := by rw [beq_iff_eq]; omega
            have hd60 : d < 61 := by have := HLT.out; omega
            clear h2 h3 hab HAB HKA
            go_wp2
            go_roundg (gk - 1)
            case measure => have := HD.out; have := HLT.out; omega
            case rel => exact ⟨d + 1, _, Ms, M, J, s, sure, S, sc, by have := HD.out; have := HLT.out; omega, by go_num, rfl, rfl, by have := HMD.out; omega, by have := HML.out; omega, HX⟩
          · obtain ⟨N, hN⟩ : ∃ N, N = Ms.length := ⟨_, rfl⟩
            have hN0 : 0 < N := by rw [hN]; exact List.length_pos_iff.2 hz
            have hN61 : N ≤ 61 := by have := HML.out; have := HLT.out; omega
            have hw : IntKind.u64.wrap (N : Int) = (N : Int) := by rw [IntKind.wrap_u64]; omega
            have hne : ((N : Int) == 0) = false := by rw [beq_eq_false_iff_ne]; omega
            have hne2 : (N : Int) ≠ 0 := by omega
            have hne3 : ¬ N = 0 := by omega
            obtain ⟨q, hqn, hqe⟩ : ∃ q : Nat, q < N ∧ wrap64 ((IntKind.u64.wrap an).tmod (N : Int)) = (q : Int) := by
             have h0 : 0 ≤ IntKind.u64.wrap an := by rw [IntKind.wrap_u64]; omega
             have h1 : 0 ≤ IntKind.u64.wrap an % (N : Int) := Int.emod_nonneg _ (by omega)
             have h2 : IntKind.u64.wrap an % (N : Int) < N := Int.emod_lt_of_pos _ (by omega)
             rw [Int.tmod_eq_emod_of_nonneg h0]
             refine ⟨(IntKind.u64.wrap an % (N : Int)).toNat, by omega, ?_⟩
             generalize IntKind.u64.wrap an % (N : Int) = z at *
             simp only [wrap64]
             omega
            have hqe2 : IntKind.i64.wrap ((IntKind.u64.wrap an).tmod (N : Int)) = (q : Int) := by rw [← hqe]; first | rfl | (simp only [wrap64, IntKind.wrap_i64]; done)
            obtain ⟨r, hr⟩ : ∃ r, Ms[q]? = some r := ⟨_, List.getElem?_eq_getElem (by omega)⟩
            have HR := hid hr
            have hmts := HX.out.ks.mts
            rw [← hN] at hmts ⊢
            obtain ⟨pb, po, pu, rfl, plb, pe, pca⟩ := (Sl.of_own hmts).at hqn
            obtain ⟨py, hpy, rfl⟩ := ptrs_at pe
            rw [List.getElem?_map, hr] at hpy
            have hpy : r.m = py := by simpa using hpy
            subst hpy
            have hcapP := (Sl.of_own hmts).cap
            have HPC := hid pca
            have HQN := hid hqn
            have HNN := hid hN
            have k1 := HAB.out.cell 1
            simp only [List.getElem?_toArray, List.getElem?_cons_zero, List.getElem?_cons_succ] at k1
            have k1 : (wr.alloc (.cells #[.int .i64 0, .int .i64 an, .int .i64 am, .int .i64 ai, .string aline] 30)).cell? ⟨wr.heap.size, 1, none⟩ = some (.int .i64 an) := by rw [← hab]; exact k1
            clear hmts plb pe pca hr hz h2 h3 hN
            go_wp2_with fail
            rw [← hab]
            try rw [hqe]
            clear hab k0 k1 t0 t1 t2 t3 t4 hqe hqe2 hw hne hne2 hne3
            generalize wr.alloc (.cells #[.int .i64 0, .int .i64 an, .int .i64 am, .int .i64 ai, .string aline] 30) = X at *
            have HX := hid (show KepR w X A ca n L C Ms M J s sure (.slice (some ⟨pb, po, none⟩) N pc) S sc (some ⟨tb, tof, none⟩) tc acts from by rw [HNN.out]; exact HX.out)
            rw [show decide ((d : Int) < 1 + (lim : Int)) = true from decide_eq_true (by have := HLT.out; omega)]
            go_cut [13, 14] from 59 to 69 (fun s13 s14 wx => ∃ (D2 : Option Addr) (dc2 : Nat), s13 = .slice D2 r.J.length dc2 ∧ s14 = .bool r.out ∧ Hid (KepR w wx A ca n L C Ms M J s sure (.slice (some ⟨pb, po, none⟩) N pc) S sc (some ⟨tb, tof, none⟩) tc acts) ∧ Hid (Blk wx ab 30 #[.int .i64 0, .int .i64 an, .int .i64 am, .int .i64 ai, .string aline]) ∧ Hid (wx.ownsRow w.heap.size 9 1 (.slice D2 r.J.length dc2) r.J.length (strV r.J)) ∧ Hid (∀ g, (Value.slice D2 r.J.length dc2).ownBlock = some g → FreeK L Ms (.slice (some ⟨pb, po, none⟩) N pc) S (.slice A n ca) g))
            case first =>
             refine wp_region_held_drew (S := (fun w' => w'.cell? ⟨pb, po + q, none⟩ = some (.pointer (some ⟨r.m, 0, none⟩)))) (by kernel_rfl) (by (try dsimp only); (exact HX.out.ks.ptr HR.out)) (fun hHeld => ?_)
             have HX := hid (HX.out.below (Below.refl _ X).drew); have HAB := hid HAB.out.drew
             generalize X.drew = X1 at *
             obtain ⟨X, rfl⟩ : ∃ Y, Y = X1 := ⟨X1, rfl⟩
             refine tk (v := ?_) 0 (some 59) rfl rfl (by rfl) ?_ (by assumption) ?_; rotate_left; · (intro w hSw; (try dsimp only at hSw); first | (go_simp; done) | (go_simp; with_reducible rfl))
             try simp only [Act.put, pA0, pA1, pA2]
             refine tk (v := ?_) 1 (some 60) rfl rfl (by rfl) ?_ (by assumption) ?_; rotate_left; · (intro w hSw; (try dsimp only at hSw); first | (go_simp; done) | (go_simp; with_reducible rfl))
             try simp only [Act.put, pA0, pA1, pA2]
             refine tk (v := ?_) 2 (some 61) rfl rfl (by rfl) ?_ (by assumption) ?_; rotate_left; · (intro w hSw; (try dsimp only at hSw); first | (go_simp; done) | (go_simp; with_reducible rfl))
             try simp only [Act.put, pA0, pA1, pA2]
             refine tk (v := ?_) 3 (some 62) rfl rfl (by rfl) ?_ (by assumption) ?_; rotate_left; · (intro w hSw; (try dsimp only at hSw); first | (go_simp; done) | (go_simp; with_reducible rfl))
             try simp only [Act.put, pA0, pA1, pA2]
             refine tk (v := ?_) 5 (some 64) rfl rfl (by rfl) ?_ (by assumption) ?_; rotate_left; · (intro w hSw; (try dsimp only at hSw); first | (go_simp; done) | (go_simp; with_reducible rfl))
             try simp only [Act.put, pA0, pA1, pA2]
             refine tk (v := ?_) 6 (some 65) rfl rfl (by rfl) ?_ (by assumption) ?_; rotate_left; · (intro w hSw; (try dsimp only at hSw); first | (go_simp; done) | (go_simp; with_reducible rfl))
             try simp only [Act.put, pA0, pA1, pA2]
             refine tk (v := ?_) 7 (some 66) rfl rfl (by rfl) ?_ (by assumption) ?_; rotate_left; · (intro w hSw; (try dsimp only at hSw); first | (go_simp; done) | (go_simp; with_reducible rfl))
             try simp only [Act.put, pA0, pA1, pA2]
             refine tk (v := ?_) 8 (some 67) rfl rfl (by rfl) ?_ (by assumption) ?_; rotate_left; · (intro w hSw; (try dsimp only at hSw); first | (go_simp; done) | (go_simp; with_reducible rfl))
             try simp only [Act.put, pA0, pA1, pA2]
             refine wpAnyH_ready (rs := [4]) (by kernel_rfl) (by simp) ?_
             refine AllReadyH.cons rfl (fun K hK => ?_) AllReadyH.nil
             go_simp
             refine (HX.out.ks.journal HR.out).mono ?_; rintro e' X1 ⟨D2, dc2, rfl, ho, b6⟩
             have HDR := hid (own_more ho HX.out.ks.low.size)
             have HDF := hid (show ∀ g, (Value.slice D2 r.J.length dc2).ownBlock = some g → FreeK L Ms (.slice (some ⟨pb, po, none⟩) N pc) S (.slice A n ca) g from fun g hg => HX.out.ks.free (ho.lt g hg).1)
             have HX := hid (HX.out.below b6); have HAB := hid (HAB.out.keep b6)
             clear ho b6 hHeld
             obtain ⟨X, rfl⟩ : ∃ Y, Y = X1 := ⟨X1, rfl⟩
             refine hK.out _ _ ?_ (fun hHeld => ?_); · ((try dsimp only); (exact HX.out.ks.ptr HR.out))
             clear hK K
             try simp only [Act.put, pA0, pA1, pA2]
             refine wpAnyH_ready (rs := [9]) (by kernel_rfl) (by simp) ?_
             refine AllReadyH.cons rfl (fun K hK => ?_) AllReadyH.nil
             go_simp
             refine (HX.out.ks.isOut HR.out).mono ?_; rintro e' X1 ⟨rfl, hXX⟩
             subst hXX
             refine hK.out _ _ ?_ (fun hHeld => ?_); · ((try dsimp only); (exact HX.out.ks.ptr HR.out))
             clear hK K
             try simp only [Act.put, pA0, pA1, pA2]
             refine tk (v := ?_) 10 (some 13) rfl rfl (by rfl) ?_ (by assumption) ?_; rotate_left; · (intro w hSw; (try dsimp only at hSw); first | (go_simp; done) | (go_simp; with_reducible rfl))
             try simp only [Act.put, pA0, pA1, pA2]
             refine tk (v := ?_) 11 (some 14) rfl rfl (by rfl) ?_ (by assumption) ?_; rotate_left; · (intro w hSw; (try dsimp only at hSw); first | (go_simp; done) | (go_simp; with_reducible rfl))
             try simp only [Act.put, pA0, pA1, pA2]
             refine wpAnyH_done (by kernel_rfl) ?_ _
             go_wp2_with fail
             go_meet
             case rel => exact ⟨D2, dc2, rfl, rfl, HX, HAB, HDR, HDF⟩
            case rest =>
             obtain ⟨D2, dc2, rfl, rfl, HX, HAB, HDR, HDF⟩ := hcut
             obtain ⟨X, rfl⟩ : ∃ Y, Y = wc := ⟨wc, rfl⟩
             have HSL := hid (show sure.length ≤ J.length from HX.out.ks.kept.sure.length_le)
             go_wp2_with fail
             refine wp_region_held_drew (S := (fun w' => w'.cell? ⟨ab, 4, none⟩ = some (.string aline))) (by kernel_rfl) (by (try dsimp only); (exact HAB.out.cell 4)) (fun hHeld => ?_)
             have HX := hid (HX.out.below (Below.refl _ X).drew); have HAB := hid HAB.out.drew; have HDR := hid (own_below HDR.out (Below.refl _ X).drew)
             generalize X.drew = X1 at *
             obtain ⟨X, rfl⟩ : ∃ Y, Y = X1 := ⟨X1, rfl⟩
             refine tk (v := ?_) 0 (some 70) rfl rfl (by rfl) ?_ (by assumption) ?_; rotate_left; · (intro w hSw; (try dsimp only at hSw); first | (go_simp; done) | (go_simp; with_reducible rfl))
             try simp only [Act.put, pA0, pA1, pA2]
             refine tk (v := ?_) 1 (some 71) rfl rfl (by rfl) ?_ (by assumption) ?_; rotate_left; · (intro w hSw; (try dsimp only at hSw); first | (go_simp; done) | (go_simp; with_reducible rfl))
             try simp only [Act.put, pA0, pA1, pA2]
             refine tk (v := ?_) 2 (some 72) rfl rfl (by rfl) ?_ (by assumption) ?_; rotate_left; · (intro w hSw; (try dsimp only at hSw); first | (go_simp; done) | (go_simp; with_reducible rfl))
             try simp only [Act.put, pA0, pA1, pA2]
             refine tk (v := ?_) 4 (some 74) rfl rfl (by rfl) ?_ (by assumption) ?_; rotate_left; · (intro w hSw; (try dsimp only at hSw); first | (go_simp; done) | (go_simp; with_reducible rfl))
             try simp only [Act.put, pA0, pA1, pA2]
             refine tk (v := ?_) 5 (some 75) rfl rfl (by rfl) ?_ (by assumption) ?_; rotate_left; · (intro w hSw; (try dsimp only at hSw); first | (go_simp; done) | (go_simp; with_reducible rfl))
             try simp only [Act.put, pA0, pA1, pA2]
             refine wpAnyH_ready (rs := [3]) (by kernel_rfl) (by simp) ?_
             refine AllReadyH.cons rfl (fun K hK => ?_) AllReadyH.nil
             have hcz := HX.out.ks.ptr HR.out
             go_simp
             clear hcz
             refine hK.out _ _ ?_ (fun hHeld => ?_); · ((try dsimp only); (exact HAB.out.cell 4))
             clear hK K
             try simp only [Act.put, pA0, pA1, pA2]
             refine wpAnyH_ready (rs := [6]) (by kernel_rfl) (by simp) ?_
             refine AllReadyH.cons rfl (fun K hK => ?_) AllReadyH.nil
             go_simp
             refine (HX.out.ks.doG aline HR.out HEN.out HT.out HAX.out (by have := HMD.out; have := HLT.out; omega) (by rw [HLN.out]; omega)).mono ?_; rintro e' X1 ⟨⟨word, rfl⟩, hdn⟩
             have HFT := hid (HX.out.ks.fate aline HR.out hdn)
             obtain ⟨R9, d9, _, _, hch, _, _⟩ := hdn
             have HROW := hid (own_chsM HX.out.row hch (HX.out.rowD HR.out))
             have HDT := hid (show ∀ g, (Value.slice D2 r.J.length dc2).ownBlock = some g → ∀ r', (∀ i, r'.all i → r.all i ∨ X.heap.size ≤ i) → FreeK L (Ms.set q r') (.slice (some ⟨pb, po, none⟩) N pc) S (.slice A n ca) g from fun g hg r' ha => (HDF.out g hg).set HR.out (HDR.out.lt g hg).2 ha)
             have HDR := hid (own_chsM HDR.out hch (fun g hg e => by
              have hf := HDF.out g hg
              rcases e with e | e
              · exact hf.1 e
              · exact hf.2.1 r (List.mem_of_getElem? HR.out) (.inr e)))
             have HAB := hid (hch.blk HAB.out (HX.out.ks.blkA HAB.out HR.out))
             clear hch hHeld HX HDF
             generalize (doM C r.k r.s r.J r.out aline).2.2.2.2 = code at *
             obtain ⟨X, rfl⟩ : ∃ Y, Y = X1 := ⟨X1, rfl⟩
             refine hK.out _ _ ?_ (fun hHeld => ?_); · ((try dsimp only); (exact HAB.out.cell 4))
             clear hK K
             try simp only [Act.put, pA0, pA1, pA2]
             refine tk (v := ?_) 7 (some 69) rfl rfl (by rfl) ?_ (by assumption) ?_; rotate_left; · (intro w hSw; (try dsimp only at hSw); first | (go_simp; done) | (go_simp; with_reducible rfl))
             try simp only [Act.put, pA0, pA1, pA2]
             refine tk (v := ?_) 8 (some 77) rfl rfl (by rfl) ?_ (by assumption) ?_; rotate_left; · (intro w hSw; (try dsimp only at hSw); first | (go_simp; done) | (go_simp; with_reducible rfl))
             try simp only [Act.put, pA0, pA1, pA2]
             refine tk (v := ?_) 9 (some 78) rfl rfl (by rfl) ?_ (by assumption) ?_; rotate_left; · (intro w hSw; (try dsimp only at hSw); first | (go_simp; done) | (go_simp; with_reducible rfl))
             try simp only [Act.put, pA0, pA1, pA2]
             refine tk (v := ?_) 10 (some 15) rfl rfl (by rfl) ?_ (by assumption) ?_; rotate_left; · (intro w hSw; (try dsimp only at hSw); first | (go_simp; done) | (go_simp; with_reducible rfl))
             try simp only [Act.put, pA0, pA1, pA2]
             refine tk (v := ?_) 11 (some 16) rfl rfl (by rfl) ?_ (by assumption) ?_; rotate_left; · (intro w hSw; (try dsimp only at hSw); first | (go_simp; done) | (go_simp; with_reducible rfl))
             try simp only [Act.put, pA0, pA1, pA2]
             refine wpAnyH_done (by kernel_rfl) ?_ _
             have hql : q < Ms.length := (List.getElem?_eq_some_iff.1 HR.out).1
             have hd60 : d < 61 := by have := HLT.out; omega
             rcases HFT.out with ⟨r', C', a1, a2, a3, a4, a5, a6⟩ | ⟨r', C', s', a1, a2, a3, a4, a5, a6, a7, a8, a9, a10⟩
             · have HX := hid (show KepR w X A ca n L C' (Ms.set q r') M J s sure (.slice (some ⟨pb, po, none⟩) N pc) S sc (some ⟨tb, tof, none⟩) tc acts from ⟨by rw [List.length_set]; exact a6, HROW.out⟩)
               have HR2 := hid (show (Ms.set q r')[q]? = some r' from List.getElem?_set_self hql)
               have HJO := HX.out.ks.journal HR2.out
               rw [a1, a2] at HJO
               have HJO := hid HJO
               have hcz := HX.out.ks.ptr HR2.out
               rw [a1] at hcz
               have HDF := hid (fun g hg => HDT.out g hg r' a5)
               have HA1 := hid a1; have HA2 := hid a2; have HA4 := hid a4
               have b0 : ((code : Int) != 0) = true := by rw [bne_iff_ne]; omega
               clear HFT HDT a1 a2 a3 a4 a5 a6
               go_wp2_with fail
               refine (HJO.out).mono ?_; rintro e X2 ⟨D3, dc3, rfl, ho, b6⟩
               have HX := hid (HX.out.below b6); have HDR := hid (own_below HDR.out b6)
               have hcapD2 := (Sl.of_own HDR.out).cap; have hcapD3 := (Sl.of_own ho).cap
               have HEQ := hid (equalS D2 D3 r.J.length dc2 dc3 r.J X2 (by have := (HX.out.ks.each q r' HR2.out).2.2.1; rw [HA2.out] at this; omega) (Sl.of_own HDR.out) (Sl.of_own ho))
               clear ho b6 hcz HJO
               go_wp2_with fail
               refine (HEQ.out).mono ?_; rintro e X3 ⟨rfl, b7⟩
               have HX := hid (HX.out.below b7)
               clear b7 HEQ HDR HDF HAB HROW
               have hcz := HX.out.ks.ptr HR2.out
               rw [HA1.out] at hcz
               have hset : ((Ms.set q r').length : Int) = (N : Int) := by rw [List.length_set, ← HNN.out]
               have HSET := hid hset
               clear hset
               cases hro : r.out
               · clear hro
                 go_wp2
                 go_roundg (gk - 1)
                 case measure => have := HD.out; have := HLT.out; omega
                 case rel => exact ⟨d + 1, C', Ms.set q r', M, J, s, sure, S, sc, by have := HD.out; have := HLT.out; omega, by go_num, rfl, by rw [HSET.out], by have := HMD.out; omega, by have := HML.out; rw [List.length_set]; omega, HX⟩
               · have h4 := HA4.out hro
                 have b5 : ((code : Int) != 5) = false := by rw [h4.1]; rfl
                 have HOU := HX.out.ks.isOut HR2.out
                 rw [HA1.out, h4.2] at HOU
                 have HOU := hid HOU
                 clear hro h4
                 go_wp2_with fail
                 refine (HOU.out).mono ?_; rintro e X4 ⟨rfl, hXX⟩
                 subst hXX
                 clear HOU hcz
                 go_wp2
                 go_roundg (gk - 1)
                 case measure => have := HD.out; have := HLT.out; omega
                 case rel => exact ⟨d + 1, C', Ms.set q r', M, J, s, sure, S, sc, by have := HD.out; have := HLT.out; omega, by go_num, rfl, by rw [HSET.out], by have := HMD.out; omega, by have := HML.out; rw [List.length_set]; omega, HX⟩
             · subst a7
               have HX := hid (show KepR w X A ca n L C' (Ms.set q r') M (J ++ [aline]) s' sure (.slice (some ⟨pb, po, none⟩) N pc) S sc (some ⟨tb, tof, none⟩) tc acts from ⟨by rw [List.length_set]; exact a9, HROW.out⟩)
               have HR2 := hid (show (Ms.set q r')[q]? = some r' from List.getElem?_set_self hql)
               have HJO := HX.out.ks.journal HR2.out
               rw [a1, a2, List.length_append, List.length_singleton] at HJO
               have HJO := hid HJO
               have hcz := HX.out.ks.ptr HR2.out
               rw [a1] at hcz
               have HDF := hid (fun g hg => HDT.out g hg r' a8)
               have HA1 := hid a1; have HA2 := hid a2; have HA3 := hid a3; have HK := hid a10
               have b1 : ((q : Int) != ((N : Int) - 1)) = false := by rw [bne_eq_false_iff_eq]; have := HNN.out; omega
               have b2 : (q : Int) = (N : Int) - 1 := by have := HNN.out; omega
               have B2 := hid b2
               have HA5 := hid a5
               rw [a4]
               clear HFT HDT a1 a2 a3 a4 a5 a6 a8 a9 a10 b2
               go_wp2_with fail
               refine (HJO.out).mono ?_; rintro e X2 ⟨D3, dc3, rfl, ho, b6⟩
               have HJF := hid (show ∀ g, (Value.slice D3 (r.J.length + 1) dc3).ownBlock = some g → FreeK L (Ms.set q r') (.slice (some ⟨pb, po, none⟩) N pc) S (.slice A n ca) g from fun g hg => HX.out.ks.free (ho.lt g hg).1)
               have HJD := hid (show ∀ g, (Value.slice D3 (r.J.length + 1) dc3).ownBlock = some g → (Value.slice D2 r.J.length dc2).ownBlock ≠ some g from fun g hg e => by have := (ho.lt g hg).1; have := (HDR.out.lt g e).2; omega)
               have HJL := hid (show ∀ g, (Value.slice D3 (r.J.length + 1) dc3).ownBlock = some g → g < X2.heap.size from fun g hg => (ho.lt g hg).2)
               have HX := hid (HX.out.below b6); have HDR := hid (own_below HDR.out b6); have HAB := hid (HAB.out.keep b6)
               have hcapD2 := (Sl.of_own HDR.out).cap; have hcapD3 := (Sl.of_own ho).cap
               have HJR := hid ho
               have hcz := HX.out.ks.ptr HR2.out
               rw [HA1.out] at hcz
               have HOU := HX.out.ks.isOut HR2.out
               rw [HA1.out, HA5.out] at HOU
               have HOU := hid HOU
               have hab4 := HAB.out.cell 4
               simp only [List.getElem?_toArray, List.getElem?_cons_zero, List.getElem?_cons_succ] at hab4
               clear ho b6 HJO
               go_wp2_with fail
               refine (HOU.out).mono ?_; rintro e X3 ⟨rfl, hXX⟩
               subst hXX
               clear HOU hcz
               have hJ200 : r.J.length ≤ 200 := by have := (HX.out.ks.each q r' HR2.out).2.2.1; rw [HA2.out, List.length_append, List.length_singleton] at this; omega
               have hsl : sure.length ≤ r.J.length := by rw [HA3.out]; exact HSL.out
               go_wp2_with (at_builtin; refine push1G TS22 X2 #[.string aline] w.heap.size _ _ _ HDR.out _ _ X2.heap.size rfl (by rfl) rfl rfl rfl rfl (by simp [Value.oneCell']) (by omega) (by omega) HX.out.ks.low.size ?_; intro v9 w9 hown9 hgr9 hap9; obtain ⟨P9, p9, rfl⟩ := own_form hown9)
               have hch9 : Chs (fun i => (Value.slice D2 r.J.length dc2).ownBlock = some i) X2 w9 := ⟨hgr9.os, hgr9.tape, hgr9.output, hgr9.size, fun i hi hs => hgr9.block i hi fun e => hs e.symm⟩
               have HX := hid (show KepR w w9 A ca n L C' (Ms.set q r') M (J ++ [aline]) s' sure (.slice (some ⟨pb, po, none⟩) N pc) S sc (some ⟨tb, tof, none⟩) tc acts from ⟨HX.out.ks.chsF hch9 (fun i e => HDF.out i e) (fun i e => (HDR.out.lt i e).1), own_chsM HX.out.row hch9 (fun g hg e => (own_apart2 HX.out.row HDR.out (by decide)).elim (fun h0 => by rw [h0] at hg; cases hg) (fun h0 => h0 (by rw [hg, e])))⟩)
               have HJR := hid (own_chsM HJR.out hch9 (fun g hg e => HJD.out g hg e))
               have HEQ := hid (equalS D3 P9 (r.J.length + 1) dc3 p9 (r.J ++ [aline]) w9 (by omega) (Sl.of_own HJR.out) (by
                have h := Sl.of_own hown9
                have e : strV r.J ++ (#[Value.string aline] : Array Value).toList = strV (r.J ++ [aline]) := by simp [strV]
                rw [e] at h
                exact h))
               clear hown9 hgr9 hap9 hch9 HDR HDF HJD HAB hab4
               refine (HEQ.out).mono ?_; rintro e X4 ⟨rfl, b8⟩
               have HX := hid (HX.out.below b8); have HJR := hid (own_below HJR.out b8)
               have z1 : decide ((r.J.length : Int) + 1 ≤ (sure.length : Int)) = false := decide_eq_false (by omega)
               have z2 : decide (r.J.length + 1 ≤ sure.length) = false := decide_eq_false (by omega)
               have hpre : sure <+: r.J ++ [aline] := by rw [HA3.out]; exact HX.out.ks.kept.sure
               have htk := (List.prefix_iff_eq_take.1 hpre).symm
               have HTK := hid (show Sl X4 D3 sure.length dc3 (strV sure) from by
                have h := (Sl.of_own HJR.out).take sure.length (by omega)
                have e2 : (strV (r.J ++ [aline])).take sure.length = strV sure := by unfold strV; rw [← List.map_take, htk]
                rwa [e2] at h)
               have HEQ2 := hid (equalS D3 S sure.length dc3 sc sure X4 (by omega) HTK.out HX.out.ks.sur)
               clear b8 HEQ htk hpre HTK
               go_wp2_with fail
               refine (HEQ2.out).mono ?_; rintro e X5 ⟨rfl, b9⟩
               have HX := hid (HX.out.below b9); have HJR := hid (own_below HJR.out b9)
               have hln : (J ++ [aline]).length = r.J.length + 1 := by rw [List.length_append, List.length_singleton, HA3.out]
               have HXF := hid (show KepR w X5 A ca n L C' (Ms.set q r') M (J ++ [aline]) s' (J ++ [aline]) (.slice (some ⟨pb, po, none⟩) N pc) D3 dc3 (some ⟨tb, tof, none⟩) tc acts from
                ⟨HX.out.ks.sureIs (by have h := Sl.of_own HJR.out; rw [← hln, HA3.out] at h; exact h) (fun a e => by have hf := HJF.out a.block (by rw [e]; rfl); exact ⟨hf.1, fun r hr h => hf.2.1 r hr (.inr h), hf.2.2.1⟩) (fun a e => (HJR.out.lt a.block (by rw [e]; rfl)).2) HK.out, HX.out.row⟩)
               have HLJ := hid hln
               have HSET := hid (show ((Ms.set q r').length : Int) = (N : Int) from by rw [List.length_set, ← HNN.out])
               clear b9 HEQ2 hln HX HJR HJF HJL
               go_wp2
               go_roundg (gk - 1)
               case measure => have := HD.out; have := HLT.out; omega
               case rel => exact ⟨d + 1, C', Ms.set q r', M, J ++ [aline], s', J ++ [aline], D3, dc3, by have := HD.out; have := HLT.out; omega, by go_num, by rw [HLJ.out], by rw [HSET.out], by have := HMD.out; omega, by have := HML.out; rw [List.length_set]; omega, HXF⟩
        · have b0 : (kind == 0) = false := by rw [beq_eq_false_iff_ne]; exact h0
          have b2 : (kind == 2) = false := by rw [beq_eq_false_iff_ne]; exact h2
          have b3 : (kind == 3) = false := by rw [beq_eq_false_iff_ne]; exact h3
          have hd60 : d < 61 := by have := HLT.out; omega
          clear h0 h2 h3 hab HAB HKA
          go_wp2
          go_roundg (gk - 1)
          case measure => have := HD.out; have := HLT.out; omega
          case rel => exact ⟨d + 1, _, Ms, M, J, s, sure, S, sc, by have := HD.out; have := HLT.out; omega, by go_num, rfl, rfl, by have := HMD.out; omega, by have := HML.out; omega, HX⟩
  · obtain rfl : d = 1 + lim := by have := HD.out; omega
    have HM62 := hid (show M ≤ 61 from by have := HMD.out; omega)
    clear hd hMd hMl hlt HD HMD HML
    have hn5 : n ≤ 5 := by have := H35.out; omega
    go_wp2
    go_loopg [204] n (fun gk i wr => ∃ (q : Nat) (C : List Cp), gk + q = n ∧ i = .int .i64 q ∧ Hid (KepR w wr A ca n L C Ms M J s sure (.slice P Ms.length pc) S sc T tc acts) ∧ Hid (∀ (j : Nat) (c : Cp), j < q → C[j]? = some c → c.away = false))
    case atStart => exact ⟨0, C, by omega, rfl, HK, hid fun j c hj => by omega⟩
    case round =>
     clear HK
     obtain ⟨q, C, hq, rfl, HK, HAW⟩ := hrel
     have HQ := hid hq
     by_cases hltq : q < n
     · have HLTQ := hid hltq
       obtain ⟨b1, o1, u1, rfl, lb1, e1, ca1⟩ := (Sl.of_own HK.out.ks.own).at hltq
       obtain ⟨y, hy, rfl⟩ := ptrs_at e1
       rw [List.getElem?_map] at hy
       obtain ⟨p, hp, rfl⟩ := Option.map_eq_some_iff.1 hy
       obtain ⟨cc, hcc, hcp⟩ := HK.out.ks.cps.at hp
       have HP := hid hp
       have HCC := hid hcc
       have HRF := hid (reachF true p.1 p.2 cc.mark cc.away cc.ent wr hcp)
       clear hq lb1 e1 hy hp hcc hcp
       go_wp2_with fail
       refine (HRF.out).mono ?_; rintro e' X1 ⟨rfl, hc', hg'⟩
       have hin : Chs (inL L) wr X1 := hg'.mono fun i e => by rw [e]; exact inL_1 HP.out
       have HN := hid (show KepR w X1 (some ⟨b1, o1, none⟩) ca n L (C.set q { cc with away := false }) Ms M J s sure (.slice P Ms.length pc) S sc T tc acts from
        ⟨HK.out.ks.copies (HK.out.ks.cps.put (c' := { cc with away := false }) HP.out hc' (hg'.mono fun i e => .inl e)) hin (HK.out.ks.kept.setAway HCC.out _) (fun c2 hc2 => by
         obtain ⟨j, hj⟩ := List.getElem?_of_mem hc2
         by_cases ej : j = q
         · subst ej
           rw [List.getElem?_set_self (List.getElem?_eq_some_iff.1 HCC.out).1] at hj
           cases hj
           exact HK.out.ks.short cc (List.mem_of_getElem? HCC.out)
         · rw [List.getElem?_set_ne (fun x => ej x.symm)] at hj
           exact HK.out.ks.short c2 (List.mem_of_getElem? hj)) HK.out.ks.last HK.out.ks.mvL, own_chsM HK.out.row hin HK.out.rowL⟩)
       have HAN := hid (show ∀ (j : Nat) (c : Cp), j < q + 1 → (C.set q { cc with away := false })[j]? = some c → c.away = false from fun j c hj hc => by
        by_cases ej : j = q
        · subst ej
          rw [List.getElem?_set_self (List.getElem?_eq_some_iff.1 HCC.out).1] at hc
          cases hc
          rfl
        · rw [List.getElem?_set_ne (fun x => ej x.symm)] at hc
          exact HAW.out j c (by omega) hc)
       clear hc' hg' hin HRF ca1
       go_wp2
       go_roundg (n - (q + 1))
       case measure => have := HQ.out; have := HLTQ.out; omega
       case rel => exact ⟨q + 1, _, by have := HQ.out; have := HLTQ.out; omega, by go_num, HN, HAN⟩
     · obtain rfl : q = n := by have := HQ.out; omega
       have hcl : C.length = q := by rw [← HK.out.ks.cps.len]; exact HLN.out
       have hall : reachN C = q := by
        rw [← hcl]
        unfold reachN
        rw [List.countP_eq_length]
        intro c hc
        obtain ⟨j, hj⟩ := List.getElem?_of_mem hc
        rw [HAW.out j c (by have := (List.getElem?_eq_some_iff.1 hj).1; omega) hj]
        rfl
       have h3q : 3 ≤ q := by have := H35.out; omega
       obtain ⟨ht, hko⟩ := HK.out.ks.kept.openNew (by rw [hall, hcl]; omega)
       have hpre := hko.sure
       have HPRE := hid hpre
       have HJ2 := hid (readM_len C)
       have HOP := hid (openB H35.out w wr A ca L C HK.out.ks.low HEN.out HT.out (Sl.of_own HK.out.ks.own) HK.out.ks.cps HK.out.ks.lowL (by rw [ht]; have := HM62.out; omega) HK.out.ks.short.best)
       unfold OpenR at HOP
       rw [hall] at HOP
       clear hq hltq HAW hcl hall ht hko hpre
       go_wp2_with fail
       refine (HOP.out).mono ?_; rintro e w5 hor
       rcases hor with ⟨hno, _, _⟩ | ⟨_, m, dd, R, rfl, hmm, _, hch, _⟩
       · omega
       obtain ⟨J2, hJ2⟩ : ∃ J2, J2 = (readM C).2 := ⟨_, rfl⟩
       rw [← hJ2] at hmm HPRE HJ2
       obtain ⟨DD, ddc, rfl⟩ := own_form hmm.own
       obtain ⟨sb, A1, ca1, m1, m2, m3, m4⟩ := hmm.ex
       have HJO := hid (mintJournal m _ _ sb DD J2.length ddc J2 false w5 (by have := HJ2.out; omega) m1 (Sl.of_own hmm.own))
       have HSU := hid (HK.out.ks.sur.chs hch (fun a e => (HK.out.ks.surB a e).1))
       have HLW := hid (hch.below HK.out.ks.low HK.out.ks.low.size HK.out.ks.lowL)
       clear hmm hch m1 m2 m3 m4 hJ2 HOP HK
       go_wp2_with fail
       refine (HJO.out).mono ?_; rintro e w6 ⟨D2, dc2, rfl, ho, b6⟩
       have HLW6 := hid (below_call HLW.out b6 HLW.out.size)
       have HSU6 := hid (HSU.out.below b6)
       have hsl : sure.length ≤ J2.length := HPRE.out.length_le
       have htk : J2.take sure.length = sure := (List.prefix_iff_eq_take.1 HPRE.out).symm
       have hcap2 := (Sl.of_own ho).cap
       have HTK := hid (show Sl w6 D2 sure.length dc2 (strV sure) from by
        have h := (Sl.of_own ho).take sure.length hsl
        have e2 : (strV J2).take sure.length = strV sure := by unfold strV; rw [← List.map_take, htk]
        rwa [e2] at h)
       have HEQ := hid (equalS D2 S sure.length dc2 sc sure w6 (by have := HJ2.out; omega) HTK.out HSU6.out)
       have z1 : decide ((sure.length : Int) ≤ (J2.length : Int)) = true := decide_eq_true (by omega)
       have z2 : decide (sure.length ≤ J2.length) = true := decide_eq_true hsl
       clear ho b6 HJO htk HTK HSU HLW
       go_wp2_with fail
       refine (HEQ.out).mono ?_; rintro e w7 ⟨rfl, b7⟩
       have HLW7 := hid (below_call HLW6.out b7 HLW6.out.size)
       have HAK := hid (awakeF w7 (HT.out.below HLW7.out) (HEN.out.max.keep HLW7.out))
       clear b7 HEQ
       go_wp2_with fail
       refine (HAK.out).mono ?_; rintro e w8 ⟨rfl, b8⟩
       have HLW8 := hid (below_call HLW7.out b8 HLW7.out.size)
       clear b8
       go_wp2
       go_ret
       exact ⟨rfl, HLW8.out⟩
end Go.Proofs.YtciadmjdadnolaaGreatDoor
