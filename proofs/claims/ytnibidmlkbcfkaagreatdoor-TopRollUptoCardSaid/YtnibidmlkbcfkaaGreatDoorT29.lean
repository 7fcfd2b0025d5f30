/- Texts of this proof, one behind the other; each says its condition at its head. -/
import Derived.Test.YtnibidmlkbcfkaaGreatDoorT28
namespace Go.Proofs.YtnibidmlkbcfkaaGreatDoor
/- Plain words for the walk of Open: marks of the first copies; lines put one after the other. No condition. -/
section
open Go.RowKit Go.Maps
/-- The greatest mark of the first copies in reach. -/
def topF (C : List Cp) (j : Nat) : Int := ((onC C).take j).foldl (fun m c => max m c.mark) 0
theorem topF_zero (C : List Cp) : topF C 0 = 0 := by unfold topF; rw [List.take_zero]; rfl
theorem topF_succ {C : List Cp} {j : Nat} {c : Cp} (h : (onC C)[j]? = some c) : topF C (j + 1) = max (topF C j) c.mark := by
 unfold topF
 rw [List.take_add_one, h, List.foldl_append]
 rfl
theorem topF_all (C : List Cp) : topF C (reachN C) = topM C := by
 unfold topF topM
 rw [List.take_of_length_le (by rw [onC_len]; exact Nat.le_refl _)]
 rfl
theorem topM_ge {C : List Cp} {c : Cp} {j : Nat} (h : (onC C)[j]? = some c) : c.mark ≤ topM C := by
 unfold topM
 exact (topM_fold _ 0).2.1 c (List.mem_of_getElem? h)
theorem topM_nn (C : List Cp) : 0 ≤ topM C := by
 unfold topM
 exact (topM_fold _ 0).1
theorem ents_prom (k : Int) (C : List Cp) : entsOn (onAll (fun c => c.prom k) C) = entsOn C := by
 induction C with
 | nil => rfl
 | cons c C ih =>
  unfold entsOn onAll at *
  cases hc : c.away with
  | true => simp [hc] at ih ⊢; exact ih
  | false => simp [hc, Cp.prom] at ih ⊢; exact ih
theorem read_prom (k : Int) (C : List Cp) : readM (onAll (fun c => c.prom k) C) = readM C := by
 unfold readM
 rw [ents_prom]
theorem runL_size {J : List ByteArray} : ∀ {s t : Bk}, runL stepL s J = some t → ∀ x ∈ J, x.size ≤ 60 := by
 induction J with
 | nil => intro s t _ x hx; simp at hx
 | cons y J ih =>
  intro s t h x hx
  rw [runL] at h
  unfold stepL at h
  by_cases h0 : (doL s y).2 = 0
  · rw [if_pos h0] at h
    rcases List.mem_cons.1 hx with rfl | hx
    · exact doL_size h0
    · exact ih h x hx
  · rw [if_neg h0] at h
    cases h
theorem readM_runs (C : List Cp) : runL stepL bk0 (readM C).2 = some (readM C).1 := readL_runs (D := stepL) (bestE (entsOn C)) bk0 200 0 0 bk0 [] rfl
theorem readM_len (C : List Cp) : (readM C).2.length ≤ 200 := by
 have := readL_len (D := stepL) (bestE (entsOn C)) 200 0 0 bk0 []
 rw [List.length_nil, Nat.zero_add] at this
 exact this
theorem readM_size (C : List Cp) : ∀ x ∈ (readM C).2, x.size ≤ 60 := runL_size (readM_runs C)
theorem putAll_step {k : Int} {J : List ByteArray} {i : Nat} {x : ByteArray} {C : List Cp} (h : J[i]? = some x) : putAll k (J.drop i) i C = putAll k (J.drop (i + 1)) (i + 1) (onAll (fun c => c.put i k x) C) := by
 have hd : J.drop i = x :: J.drop (i + 1) := by
  obtain ⟨hi, rfl⟩ := List.getElem?_eq_some_iff.1 h
  exact List.drop_eq_getElem_cons hi
 rw [hd, putAll]
theorem strV_at {J : List ByteArray} {i : Nat} {u : Value} (h : (strV J)[i]? = some u) : ∃ x, J[i]? = some x ∧ u = .string x := by
 unfold strV at h
 rw [List.getElem?_map] at h
 obtain ⟨x, hx, rfl⟩ := Option.map_eq_some_iff.1 h
 exact ⟨x, hx, rfl⟩
/-- The first state in memory. -/
theorem st_begin {w : World} {sb : Nat} (h : Blk w sb 149 begC) : StR w (fun i => i = sb) sb bk0 :=
 ⟨none, 0, none, 0, none, 0, none, 0, none, 0, h, Sl.nil w, Sl.nil w, Sl.nil w, Sl.nil w, Sl2.nil w, (fun _ e => by cases e), (fun _ e => by cases e), (fun _ e => by cases e), (fun _ e => by cases e), (fun _ e => by cases e), rfl⟩
/-- A mint that is opened, at the end. -/
theorem OpG.mint_of {w W : World} {m sb n nr : Nat} {a r d : Value} {L : List (Nat × Nat)} {C : List Cp} {k : Int} {s : Bk} {J : List ByteArray} (h : OpG w W m sb n nr a r d L C k s J) (hn : L.length = n) : ∃ R, MinM W R m d L k s J false ∧ ∀ i, R i ∨ footM m d i → w.heap.size ≤ i := by
 obtain ⟨G, g1, g2, g3, g4⟩ := h.st
 obtain ⟨A, ca, rfl⟩ := own_form h.own1
 subst hn
 have hm := h.hm
 have hA := own_blkIv h.own1
 refine ⟨fun i => G i ∨ (Value.slice A L.length ca).ownBlock = some i ∨ (∃ x, A = some x ∧ x.block = i), ⟨⟨sb, A, ca, h.mint, Sl.of_own h.own1, g1.mono fun i hi => .inl hi, fun x e => .inr (.inr ⟨x, e, rfl⟩)⟩, own_more h.don (Nat.zero_le _), fun g hg hr => ?_, fun hr => ?_, fun i hr => ?_⟩, fun i hi => ?_⟩
 · rcases hr with hr | hr | ⟨x, hx, rfl⟩
   · exact g3 g hg hr
   · rcases own_apart2 h.own1 h.don (by decide) with h0 | h0
     · rw [h0] at hr; cases hr
     · exact h0 (by rw [hr, hg])
   · subst hx
     rcases own_apart2 h.own1 h.don (by decide) with h0 | h0
     · cases h0
     · exact h0 (by rw [hg]; rfl)
 · rcases hr with hr | hr | ⟨x, hx, e⟩
   · exact g4 hr
   · exact own_ne_blk h.own1 h.mint (by decide) hr.symm
   · subst hx
     exact own_ne_blk h.own1 h.mint (by decide) (by rw [← e]; rfl)
 · rcases hr with hr | hr | ⟨x, hx, rfl⟩
   · exact (g2 i hr).2
   · exact (h.own1.lt i hr).2
   · exact (hA x hx).2
 · rcases hi with (hr | hr | ⟨x, hx, rfl⟩) | (rfl | hi)
   · exact (g2 i hr).1
   · exact (h.own1.lt i hr).1
   · exact (hA x hx).1
   · exact hm
   · exact (h.don.lt i hi).1
end
/- Walk of Open at copies that hold anything. Conditions: three or five copies, apart from each other; their marks are below the greatest one; the library's variables stand. -/
section
open Go.RowKit Go.Maps
/-- What Open leaves: no mint, or one. -/
def OpenR (w w' : World) (n : Nat) (L : List (Nat × Nat)) (C : List Cp) (x : Ending) : Prop :=
 (¬ n < 2 * reachN C ∧ x = .returned (.tuple #[.pointer none, .int .i64 8]) ∧ Below w.heap.size w w') ∨
 (n < 2 * reachN C ∧ ∃ m d R, x = .returned (.tuple #[.pointer (some ⟨m, 0, none⟩), .int .i64 0]) ∧ MinM w' R m d L (topM C + 1) (readM C).1 (readM C).2 false ∧ CpsM w' L (openM C) ∧ Chs (inL L) w w' ∧ ∀ i, R i ∨ footM m d i → w.heap.size ≤ i)
set_option maxRecDepth 100000 in
set_option maxHeartbeats 4000000 in
theorem openG3 (w0 w : World) (A : Option Addr) (c : Nat) (L : List (Nat × Nat)) (C : List Cp) (hlow : Below w0.heap.size w0 w) (he : EnvN w0) (hT : Tab w0) (hs : Sl w A 3 c (ptrs (L.map (·.1)))) (hc : CpsM w L C) (hLlow : ∀ i, inL L i → w0.heap.size ≤ i) (htop : topM C < 1000000000) (hsz : ∀ i y, bestE (entsOn C) i = some y → y.2.size ≤ 60) :
 Calls Tryz.prog 30 #[.slice A 3 c] w fun x w' => OpenR w w' 3 L C x := by
 have hlen : L.length = 3 := by have := hs.len; simpa [ptrs] using this
 have HLEN := hid hlen
 have HCL := hid hc.len
 have HNA := hid (noneAny A 3 c _ (fun _ => false) false w hs (fun i v hv => by
  obtain ⟨b, hb, rfl⟩ := ptrs_at hv
  rw [List.getElem?_map] at hb
  obtain ⟨p, hp, rfl⟩ := Option.map_eq_some_iff.1 hb
  obtain ⟨cc, _, hcc⟩ := hc.at hp
  exact noneF _ _ _ _ _ w hcc) (by simp))
 have HPH := hid fun (i b : Nat) (hi : i ≤ 3) (hb : (L.map (·.1))[i]? = some b) => (show Calls Tryz.prog 61 #[.slice A i c, .pointer (some ⟨b, 0, none⟩)] w fun e w' => e = .returned (.bool false) ∧ w = w' from by
  have hblk : ∀ y ∈ L.map (·.1), IsBlk w y := fun y hy => by
   obtain ⟨p, hp, rfl⟩ := List.mem_map.1 hy
   obtain ⟨j, hj⟩ := List.getElem?_of_mem hp
   obtain ⟨cc, _, hcc⟩ := hc.at hj
   exact ⟨_, _, hcc.blk⟩
  have h := ptrHas A i c ((L.map (·.1)).take i) b w (by rw [ptrs_take]; exact hs.take i hi) (hblk b (List.mem_of_getElem? hb)) (fun y hy => hblk y (List.mem_of_mem_take hy))
  rwa [decide_eq_false (nod_take hc.nod1 hb)] at h)
 have HS := hid hs
 have HC := hid hc
 have HCN := hid (cloneC A 3 c _ (ptrs_one _) (by omega) w hs)
 have HBG := hid fun W => beginF W
 have HLO := hid hlow
 have HEN := hid he
 have HTA := hid hT
 have HLL := hid hLlow
 have HTOP := hid htop
 have HSZ := hid hsz
 clear hs hc hlen hlow he hT hLlow htop hsz
 go_enter Tryz.func30, Tryz.ntmps30
 go_wp2_with fail
 refine (HNA.out).mono ?_; rintro x w' ⟨rfl, rfl⟩
 go_wp2
 go_loopg [28] 3 (fun gk i wr => ∃ d : Nat, gk + d = 3 ∧ i = .int .i64 d ∧ w = wr)
 case atStart => exact ⟨0, by omega, rfl, rfl⟩
 case round =>
  obtain ⟨d, hd, rfl, hw⟩ := hrel
  subst hw
  have HD := hid hd
  by_cases hlt : d < 3
  · have HLT := hid hlt
    obtain ⟨b, o, u, rfl, lb, e1, ca⟩ := HS.out.at hlt
    obtain ⟨y, hy, rfl⟩ := ptrs_at e1
    have HH := hid (HPH.out d y (by omega) hy)
    have hcap := HS.out.cap
    clear hd e1 hy lb
    go_wp2_with fail
    refine (HH.out).mono ?_; rintro x w' ⟨rfl, rfl⟩
    go_wp2
    go_roundg (gk - 1)
    case measure => have := HD.out; have := HLT.out; omega
    case rel => exact ⟨d + 1, by have := HD.out; have := HLT.out; omega, by go_num, rfl⟩
  · obtain rfl : d = 3 := by have := HD.out; omega
    clear hd hlt
    go_wp2_with fail
    refine (HCN.out).mono ?_; rintro x w1 ⟨A1, c1, rfl, ho1, b1⟩
    go_wp2_with fail
    refine (HBG.out _).mono ?_; rintro x w2 ⟨sb, rfl, hsb, hsz, b2⟩
    have b12 := b1.trans (b2.mono b1.size)
    have O3 := hid ((own_below ho1 b2).alloc (.cells #[.slice A1 3 c1, .int .i64 0, .pointer (some ⟨sb, 0, none⟩), .slice none 0 0, .bool false] 74))
    have M3 := hid (Blk.new w2 74 #[.slice A1 3 c1, .int .i64 0, .pointer (some ⟨sb, 0, none⟩), .slice none 0 0, .bool false])
    have S3 := hid (hsb.alloc (.cells #[.slice A1 3 c1, .int .i64 0, .pointer (some ⟨sb, 0, none⟩), .slice none 0 0, .bool false] 74))
    have B3 := hid (b12.alloc b12.size (.cells #[.slice A1 3 c1, .int .i64 0, .pointer (some ⟨sb, 0, none⟩), .slice none 0 0, .bool false] 74))
    have HM := hid b12.size
    have HSB := hid (Nat.le_trans b1.size hsz)
    have HSM := hid (show sb < w2.heap.size from hsb.lt)
    have c0 := M3.out.cell 0
    simp only [List.getElem?_toArray, List.getElem?_cons_zero] at c0
    have HCP3 := hid (HC.out.below B3.out)
    have HOLD := hid (show ∀ i, inL L i → i < w.heap.size from fun i hi => HC.out.lt hi)
    clear ho1 b1 hsb hsz b2 b12
    go_wp2_with fail
    generalize (w2.alloc (.cells #[.slice A1 3 c1, .int .i64 0, .pointer (some ⟨sb, 0, none⟩), .slice none 0 0, .bool false] 74)) = W3 at *
    generalize w2.heap.size = m at *
    have hzip : (((L.zip C).map fun q => (q.1.1, q.2.away)).map (·.1)) = L.map (·.1) := by
     rw [List.map_map]
     conv => rhs; rw [← List.map_fst_zip (l₁ := L) (l₂ := C) (by rw [HCL.out]; exact Nat.le_refl _), List.map_map]
     rfl
    have HIR := hid (inReachF A1 3 c1 ((L.zip C).map fun q => (q.1.1, q.2.away)) W3 (by omega) (by rw [hzip]; exact Sl.of_own O3.out) (fun q hq => by
     obtain ⟨z, hz, rfl⟩ := List.mem_map.1 hq
     obtain ⟨i, hi⟩ := List.getElem?_of_mem hz
     rw [List.getElem?_zip_eq_some] at hi
     have h := (HCP3.out.cp i z.1 z.2 hi.1 hi.2).blk.cell 2
     simpa using h))
    rw [show onL ((L.zip C).map fun q => (q.1.1, q.2.away)) = onB L C from rfl, onB_len HCL.out] at HIR
    refine (HIR.out).mono ?_; rintro x w4 ⟨A2, c2, rfl, ho2, b4⟩
    have HO := hid (show OpG w w4 m sb 3 (reachN C) (.slice A1 3 c1) (.slice A2 (reachN C) c2) (.slice none 0 0) L C 0 bk0 [] from
     ⟨M3.out.keep b4, ⟨_, st_begin (S3.out.keep b4), fun i hi => by subst hi; exact ⟨HSB.out, Nat.lt_of_lt_of_le S3.out.lt b4.size⟩, (fun g hg => by cases hg), fun e => by have := HSM.out; omega⟩, World.ownsRow_nil _ _ _ _, own_below O3.out b4, own_more ho2 B3.out.size, HCP3.out.below b4, Chs.of_below (below_call B3.out b4 B3.out.size), HM.out, HOLD.out⟩)
    have HBB := hid (below_call B3.out b4 B3.out.size)
    have c4 := HO.out.mint.cell 0
    simp only [List.getElem?_toArray, List.getElem?_cons_zero] at c4
    obtain ⟨nr, hnr⟩ : ∃ nr, nr = reachN C := ⟨_, rfl⟩
    rw [← hnr] at HO ⊢
    have HNR := hid hnr
    have hnr5 : nr ≤ 3 := by rw [hnr, ← HLEN.out, HCL.out]; unfold reachN; exact List.countP_le_length
    have HNR5 := hid hnr5
    clear ho2 b4 c0 O3 M3 S3 B3 HCP3 hzip HIR hnr
    go_wp2_with fail
    refine (mostF A1 3 c1 nr w4 (by omega) (by omega)).mono ?_; rintro x w' ⟨rfl, rfl⟩
    by_cases hmo : 3 < 2 * nr
    · have g1 : decide ((3 : Int) < 2 * (nr : Int)) = true := decide_eq_true (by omega)
      have g2 : decide (3 < 2 * nr) = true := decide_eq_true hmo
      have HMO := hid hmo
      have g3 : decide ((((3 : Nat) : Int)) < 2 * (nr : Int)) = true := decide_eq_true (by omega)
      clear hmo HBB
      go_wp2
      clear c4 g1 g2 g3
      go_loopg [59] nr (fun gk i wr => ∃ j : Nat, gk + j = nr ∧ i = .int .i64 j ∧ Hid (OpG w wr m sb 3 nr (.slice A1 3 c1) (.slice A2 nr c2) (.slice none 0 0) L C (topF C j) bk0 []))
      case atStart => exact ⟨0, by omega, rfl, by rw [topF_zero]; exact HO⟩
      case round =>
       clear HO
       obtain ⟨j, hj, rfl, HP⟩ := hrel
       have HJ := hid hj
       by_cases hltj : j < nr
       · have HLTJ := hid hltj
         obtain ⟨b2, o2, u2', hA2, lb2, e2, ca2⟩ := (Sl.of_own HP.out.own2).at hltj
         subst hA2
         obtain ⟨y2, hy2, rfl⟩ := ptrs_at e2
         obtain ⟨i, p, cc, p1, rfl, p3, p4, p5, _, _⟩ := onB_at id HCL.out hy2
         have cm := (HP.out.cps.cp i p cc p1 p3).blk.cell 1
         have c1m := HP.out.mint.cell 1
         simp only [List.getElem?_toArray, List.getElem?_cons_zero, List.getElem?_cons_succ] at cm c1m
         have f1m := HP.out.mint.free 1
         have hts := topF_succ p5
         have HN := hid ((HP.out.setMark (topF C (j + 1))).drew)
         generalize htj : topF C (j + 1) = tj1 at *
         generalize htj0 : topF C j = tj0 at *
         have HTJ := hid hts
         clear hj e2 hy2 lb2 p1 p3 p4 p5 htj0
         subst hts
         go_wp2_with fail
         go_region
         go_wp2
         go_roundg (gk - 1)
         case measure => have := HJ.out; have := HLTJ.out; omega
         case rel => exact ⟨j + 1, by have := HJ.out; have := HLTJ.out; omega, by go_num, by rw [htj]; exact HN⟩
       · obtain rfl : j = nr := by have := HJ.out; omega
         have HTT := hid (show topF C j = topM C from by rw [HNR.out]; exact topF_all C)
         rw [HTT.out] at HP
         have htop := HTOP.out
         have hnn := topM_nn C
         have c1m := HP.out.mint.cell 1
         simp only [List.getElem?_toArray, List.getElem?_cons_zero, List.getElem?_cons_succ] at c1m
         have f1m := HP.out.mint.free 1
         have g1 : decide (1000000000 ≤ topM C) = false := decide_eq_false (by omega)
         have HN := hid (HP.out.setMark (topM C + 1))
         have HTGE := hid (fun (q : Nat) (cc : Cp) (h : (onC C)[q]? = some cc) => topM_ge h)
         generalize hT : topM C = T at htop hnn g1 HN HTGE c1m ⊢
         have HTE := hid hT.symm
         clear hj hltj hT HTT HP
         go_wp2
         generalize wr.setCell ⟨m, 1, none⟩ (.int .i64 (T + 1)) = W5 at *
         clear c1m f1m g1
         obtain ⟨f, hf⟩ : ∃ f : Cp → Cp, f = fun c => c.prom (T + 1) := ⟨_, rfl⟩
         have HFE := hid hf
         have HFA := hid (show ∀ c, (f c).away = c.away from fun c => by rw [hf]; rfl)
         clear hf
         go_loopg [90] j (fun gk i wr => ∃ q : Nat, gk + q = j ∧ i = .int .i64 q ∧ Hid (OpG w wr m sb 3 j (.slice A1 3 c1) (.slice A2 j c2) (.slice none 0 0) L (onF f q C) (T + 1) bk0 []))
         case atStart => exact ⟨0, by omega, rfl, by rw [onF_zero]; exact HN⟩
         case round =>
          clear HN
          obtain ⟨q, hq, rfl, HP⟩ := hrel
          have HQ := hid hq
          by_cases hltq : q < j
          · have HLTQ := hid hltq
            obtain ⟨b2, o2, u2', hA2, lb2, e2, ca2⟩ := (Sl.of_own HP.out.own2).at hltq
            subst hA2
            obtain ⟨y2, hy2, rfl⟩ := ptrs_at e2
            rw [onB_away (onF_away f HFA.out q C)] at hy2
            obtain ⟨i, p, cc, p1, rfl, p3, p4, p5, p6, p7⟩ := onB_at f HCL.out hy2
            have HPR := hid (promC (T + 1) p cc wr (HP.out.cps.cp i p cc p1 p6) p4 (by omega) (by omega) (by have := HTGE.out q cc p5; omega))
            have HP1 := hid p1
            have HP6 := hid p6
            have HP7 := hid p7
            have HFC := hid (show f cc = cc.prom (T + 1) from by rw [HFE.out])
            have c1m := HP.out.mint.cell 1
            simp only [List.getElem?_toArray, List.getElem?_cons_zero, List.getElem?_cons_succ] at c1m
            clear hq e2 hy2 lb2 p1 p3 p4 p5 p6 p7
            go_wp2_with fail
            refine (HPR.out).mono ?_; rintro x w' ⟨rfl, hc', hg'⟩
            have HN2 := hid (HP.out.copy (c' := cc.prom (T + 1)) HP1.out HP6.out rfl hc' hg')
            clear hc' hg' c1m ca2
            go_wp2
            go_roundg (gk - 1)
            case measure => have := HQ.out; have := HLTQ.out; omega
            case rel => exact ⟨q + 1, by have := HQ.out; have := HLTQ.out; omega, by go_num, by rw [HP7.out, HFC.out]; exact HN2⟩
          · obtain rfl : q = j := by have := HQ.out; omega
            obtain ⟨C1, hC1⟩ : ∃ C1, C1 = onAll (fun c => c.prom (T + 1)) C := ⟨_, rfl⟩
            have hC2 : onF f q C = C1 := by rw [hC1, HNR.out, onF_all, HFE.out]
            rw [hC2] at HP
            have HC1 := hid hC1
            have HAW := hid (show C1.map (·.away) = C.map (·.away) from by rw [hC1]; exact onAll_away (fun c => c.prom (T + 1)) (fun _ => rfl) C)
            have HRM := hid (show readM C1 = readM C from by rw [hC1]; exact read_prom _ C)
            have HRD := hid (readG w0 w wr m sb 3 q (.slice A1 3 c1) A2 c2 L C1 (T + 1) HLO.out HLL.out HEN.out HTA.out (fun G sb s x W h1 h2 h3 h4 h5 => doF G sb s x W h1 h2 h3 h4 h5) HP.out (by have := HNR5.out; omega) (fun i y hy => by rw [hC1, ents_prom] at hy; have := HSZ.out i y hy; omega))
            rw [HRM.out] at HRD
            clear hq hltq hC1 hC2
            go_wp2_with fail
            refine (HRD.out).mono ?_; rintro x w7 ⟨rfl, sb', d', hop⟩
            have HN7 := hid hop
            have HJL := hid (readM_len C)
            have HJS := hid (readM_size C)
            have HOM := hid (show openM C = putAll (T + 1) (readM C).2 0 C1 from by unfold openM; rw [HC1.out, HTE.out])
            obtain ⟨J, hJ⟩ : ∃ J, J = (readM C).2 := ⟨_, rfl⟩
            have HJE := hid hJ
            rw [← hJ] at HN7 HJL HJS HOM
            obtain ⟨D, dc, hD⟩ := own_form HN7.out.don
            subst hD
            have c3m := HN7.out.mint.cell 3
            simp only [List.getElem?_toArray, List.getElem?_cons_zero, List.getElem?_cons_succ] at c3m
            clear hop hJ HRD HP
            go_wp2
            clear c3m
            have HKB := hid (show 0 ≤ T + 1 ∧ T + 1 ≤ 1000000000 from ⟨by omega, by omega⟩)
            obtain ⟨jn, hjn⟩ : ∃ jn, jn = J.length := ⟨_, rfl⟩
            rw [← hjn] at HN7 ⊢
            have HJN := hid hjn
            clear hjn
            go_loopg [109] jn (fun gk1 i wr => ∃ (e : Nat) (Cq : List Cp), gk1 + e = jn ∧ i = .int .i64 e ∧ Hid (putAll (T + 1) (J.drop e) e Cq = openM C) ∧ Hid (Cq.map (·.away) = C.map (·.away)) ∧ Hid (OpG w wr m sb' 3 q (.slice A1 3 c1) (.slice A2 q c2) (.slice D jn dc) L Cq (T + 1) (readM C).1 J))
            case atStart => exact ⟨0, C1, by omega, rfl, by rw [List.drop_zero]; exact hid HOM.out.symm, HAW, HN7⟩
            case round =>
             clear HN7
             obtain ⟨e, Cq, hek, rfl, HPA, HAQ, HP⟩ := hrel
             have HEK := hid hek
             by_cases hlte : e < jn
             · have HLTE := hid hlte
               obtain ⟨bd, od, ud, hD2, lbd, ed, cad⟩ := (Sl.of_own (show wr.ownsRow w.heap.size 9 1 (.slice D jn dc) jn (strV J) from by have := HP.out.don; rwa [← HJN.out] at this)).at hlte
               subst hD2
               obtain ⟨x, hx, rfl⟩ := strV_at ed
               have HX := hid hx
               have hxs := HJS.out x (List.mem_of_getElem? hx)
               have HXS := hid hxs
               have hcapd := (Sl.of_own HP.out.own2).cap
               have HRQ := hid (show reachN Cq = q from by rw [HNR.out]; exact reachN_away HAQ.out)
               have HLQ := hid HP.out.cps.len
               clear hek hlte ed lbd hx
               go_wp2
               obtain ⟨f2, hf2⟩ : ∃ f2 : Cp → Cp, f2 = fun c => c.put e (T + 1) x := ⟨_, rfl⟩
               have HF2 := hid hf2
               have HF2A := hid (show ∀ c, (f2 c).away = c.away from fun c => by rw [hf2]; exact Cp.put_away c _ _ _)
               clear hf2 cad
               go_loopg [116] q (fun gk2 i wr => ∃ r : Nat, gk2 + r = q ∧ i = .int .i64 r ∧ Hid (OpG w wr m sb' 3 q (.slice A1 3 c1) (.slice A2 q c2) (.slice (some ⟨bd, od, none⟩) jn dc) L (onF f2 r Cq) (T + 1) (readM C).1 J))
               case atStart => exact ⟨0, by omega, rfl, by rw [onF_zero]; exact HP⟩
               case round =>
                clear HP
                obtain ⟨r, hrk, rfl, HP⟩ := hrel
                have HRK := hid hrk
                by_cases hltr : r < q
                · have HLTR := hid hltr
                  obtain ⟨b2, o2, u2', hA2, lb2, e2, ca2⟩ := (Sl.of_own HP.out.own2).at hltr
                  subst hA2
                  obtain ⟨y2, hy2, rfl⟩ := ptrs_at e2
                  rw [onB_away (onF_away f2 HF2A.out r Cq)] at hy2
                  obtain ⟨i, p, cc, p1, rfl, p3, p4, p5, p6, p7⟩ := onB_at f2 HLQ.out hy2
                  have HPU := hid (putC e (T + 1) x p cc wr (HP.out.cps.cp i p cc p1 p6) p4 (by have := HLTE.out; have := HJL.out; have := HJN.out; omega) HKB.out.1 HKB.out.2 HXS.out)
                  have HP1 := hid p1
                  have HP6 := hid p6
                  have HP7 := hid p7
                  have HFC := hid (show f2 cc = cc.put e (T + 1) x from by rw [HF2.out])
                  have c1m := HP.out.mint.cell 1
                  simp only [List.getElem?_toArray, List.getElem?_cons_zero, List.getElem?_cons_succ] at c1m
                  clear hrk e2 hy2 lb2 p1 p3 p4 p5 p6 p7 hltr
                  generalize (if T + 1 < cc.mark then (5 : Int) else 0) = rv at HPU
                  go_wp2_with fail
                  refine (HPU.out).mono ?_; rintro xx w' ⟨rfl, hc', hg'⟩
                  have HN2 := hid (HP.out.copy (c' := cc.put e (T + 1) x) HP1.out HP6.out (Cp.put_away cc _ _ _) hc' hg')
                  clear hc' hg' c1m ca2
                  go_wp2
                  go_roundg (q - (r + 1))
                  case measure => have := HRK.out; have := HLTR.out; omega
                  case rel => exact ⟨r + 1, by have := HRK.out; have := HLTR.out; omega, by go_num, by rw [HP7.out, HFC.out]; exact HN2⟩
                · obtain rfl : r = q := by have := HRK.out; omega
                  have hC3 : onF f2 r Cq = onAll (fun c => c.put e (T + 1) x) Cq := by
                   have := onF_all f2 Cq
                   rw [HRQ.out] at this
                   rw [this, HF2.out]
                  rw [hC3] at HP
                  have HPA2 := hid ((putAll_step (k := T + 1) (C := Cq) HX.out).symm.trans HPA.out)
                  have HAQ2 := hid (show (onAll (fun c => c.put e (T + 1) x) Cq).map (·.away) = C.map (·.away) from by rw [onAll_away _ (fun c => Cp.put_away c _ _ _) Cq]; exact HAQ.out)
                  clear hrk hltr hC3
                  have hb200 : e < 200 := by have := HLTE.out; have := HJL.out; have := HJN.out; omega
                  go_wp2
                  go_roundg (jn - (e + 1))
                  case measure => have := HEK.out; have := HLTE.out; omega
                  case rel => exact ⟨e + 1, _, by have := HEK.out; have := HLTE.out; omega, by go_num, HPA2, HAQ2, HP⟩
             · obtain rfl : e = jn := by have := HEK.out; omega
               have hfin : Cq = openM C := by
                have := HPA.out
                rw [List.drop_of_length_le (by rw [← HJN.out]; exact Nat.le_refl _)] at this
                exact this
               have HFIN := hid hfin
               obtain ⟨R, hR1, hR2⟩ := HP.out.mint_of HLEN.out
               have HR1 := hid hR1
               have HR2 := hid hR2
               have HCF := hid (show CpsM wr L (openM C) from by rw [← hfin]; exact HP.out.cps)
               have HCH := hid HP.out.chs
               clear hek hlte hfin hR1 hR2
               go_wp2
               go_ret2
               refine .inr ⟨by rw [← HNR.out]; exact HMO.out, m, _, R, rfl, ?_, HCF.out, HCH.out, HR2.out⟩
               rw [← HTE.out, ← HJE.out]
               exact HR1.out
    · have g1 : decide ((3 : Int) < 2 * (nr : Int)) = false := decide_eq_false (by omega)
      have g2 : decide (3 < 2 * nr) = false := decide_eq_false hmo
      have g3 : decide ((((3 : Nat) : Int)) < 2 * (nr : Int)) = false := decide_eq_false (by omega)
      have HMO := hid hmo
      clear hmo
      go_wp2
      go_ret2
      exact .inl ⟨by rw [← HNR.out]; exact HMO.out, rfl, HBB.out⟩
end
end Go.Proofs.YtnibidmlkbcfkaaGreatDoor
