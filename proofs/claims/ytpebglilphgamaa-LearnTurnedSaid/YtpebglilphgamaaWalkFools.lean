/- Walk of LearnFools. No condition. -/
import Derived.Test.YtpebglilphgamaaTree
import Derived.Test.YtpebglilphgamaaSay
import Derived.Test.YtpebglilphgamaaAskM
namespace Go.Proofs.Ytpebglilphgamaa
open Go.RowKit Go.Maps

theorem own_flat_len {w : World} {base m : Nat} {v : Value} {l : List (Int × Int)} (h : w.ownsRow base 42 2 v m (flat l)) : l.length = m := by
  have h1 := h.1
  have h2 := flat_len l
  omega
theorem flat_snoc (l : List (Int × Int)) (u : Int × Int) : flat (l ++ [u]) = flat l ++ [.int .i64 u.1, .int .i64 u.2] := by
  unfold flat; rw [List.flatMap_append]; rfl
theorem exs_snoc {p : Nat} {l : List (Int × Int)} (h : ∀ (j : Nat) (u : Int × Int), l[j]? = some u → exBad p u = false) {x : Nat} (hx : x < p) (b : Bool) : ∀ (j : Nat) (u : Int × Int), (l ++ [((x : Int), b01 b)])[j]? = some u → exBad p u = false := by
  intro j u hu
  rcases Nat.lt_or_ge j l.length with g | g
  · rw [List.getElem?_append_left g] at hu; exact h j u hu
  · rw [List.getElem?_append_right g] at hu
    have : j - l.length = 0 := by
      have := (List.getElem?_eq_some_iff.1 hu).1
      simp at this; omega
    rw [this] at hu
    simp at hu
    subst hu
    unfold exBad
    have e1 : ¬ ((x : Int) < 0) := by omega
    have e2 : ¬ ((p : Int) ≤ (x : Int)) := by omega
    cases b <;> simp [b01, e1, e2]
theorem b01_is1 (b : Bool) : (b01 b == 1) = b := by cases b <;> rfl
theorem bitV_b01 (c x : Int) : bitV c x = b01 (bitB c x) := by rw [bitV_if]; rfl
theorem one_sub_b01 (b : Bool) : 1 - b01 b = b01 (!b) := by cases b <;> rfl
theorem pick_idx (x : Int) {n : Nat} (h0 : 0 < n) (hn : n ≤ 1000) : ∃ j : Nat, wrap64 ((IntKind.u64.wrap x).tmod (n : Int)) = (j : Int) ∧ j < n := by
  have h1 : 0 ≤ IntKind.u64.wrap x := by rw [IntKind.wrap_u64]; omega
  rw [Int.tmod_eq_emod_of_nonneg h1]
  have h2 := Int.emod_nonneg (IntKind.u64.wrap x) (show (n : Int) ≠ 0 by omega)
  have h3 := Int.emod_lt_of_pos (IntKind.u64.wrap x) (show (0 : Int) < n by omega)
  refine ⟨(IntKind.u64.wrap x % n).toNat, ?_, by omega⟩
  unfold wrap64
  omega

attribute [local go_sem ↓] shr_v and_shr

set_option maxRecDepth 100000 in
set_option maxHeartbeats 1000000 in
theorem learnFools_bad (w : World) (p : Int) (A : Option Addr) (n c : Nat) (xs : List Int) (hs : Sl w A n c (xs.map (Value.int .i64))) (said : Int) (Q : Option Addr) (m d : Nat) (con : Int) (h : ¬ Cls p xs) :
    Calls Try.prog 4 #[.int .i64 p, .slice A n c, .int .i64 said, .slice Q m d, .int .i64 con] w fun e w' => e = .returned (.bool true) ∧ Below w.heap.size w w' := by
  have hn := hs.numlen
  have HL := hid fun W (hb : Below w.heap.size w W) => lawList A n c xs W (hs.below hb)
  have hB : ¬ Cls p (xs.take (min n 20)) := fun H => h ((cls_take hn).1 H)
  have HF := hid fun A' c' W (s1 : Sl W A' (min n 20) c' ((xs.take (min n 20)).map (Value.int .i64))) => treeBad p A' (min n 20) c' _ W s1 hB
  have HG := hid fun A' c' W (s1 : Sl W A' (min n 20) c' ((xs.take (min n 20)).map (Value.int .i64))) => dimBad p A' (min n 20) c' _ W s1 hB
  clear hs hB h hn
  go_enter Try.func4, Try.ntmps4
  go_wp2_with fail
  refine (HL.out _ (Below.refl _ _)).mono ?_; rintro e w1 ⟨A1, c1, rfl, o1, b1⟩
  have s1 := Sl.of_own o1
  go_wp2_with fail
  refine (HF.out _ _ _ s1).mono ?_; rintro e w2 ⟨rfl, b2⟩
  have b12 : Below w.heap.size w w2 := below_call b1 b2 b1.size
  clear s1 o1 b1 b2
  go_wp2_with fail
  refine (HL.out _ b12).mono ?_; rintro e w3 ⟨A3, c3, rfl, o3, b3⟩
  have s3 := Sl.of_own o3
  have b13 : Below w.heap.size w w3 := below_call b12 b3 b12.size
  go_wp2_with fail
  refine (HG.out _ _ _ s3).mono ?_; rintro e w4 ⟨rfl, b4⟩
  have b14 : Below w.heap.size w w4 := below_call b13 b4 b13.size
  clear s3 o3 b12 b13 b3 b4
  go_wp2_with (go_at_call 21; refine (awake _).mono ?_; rintro e w6 ⟨rfl, b6⟩)
  go_ret
  exact ⟨rfl, below_call b14 b6 b14.size⟩

set_option maxRecDepth 100000 in
set_option maxHeartbeats 8000000 in
theorem learnFools_good (w : World) (p : Nat) (A : Option Addr) (n c : Nat) (xs : List Int) (hs : Sl w A n c (xs.map (Value.int .i64))) (said : Int) (Q : Option Addr) (m k : Nat) (qs : List Int) (hq : Sl w Q m k (qs.map (Value.int .i64))) (con : Int) (h : Cls p xs) :
    Calls Try.prog 4 #[.int .i64 p, .slice A n c, .int .i64 said, .slice Q m k, .int .i64 con] w fun e w' => e = .returned (.bool true) ∧ Below w.heap.size w w' := by
  have hn := hs.numlen
  have hne : xs ≠ [] := by rintro rfl; have := h.n1; simp at this
  have h1 := take_min20 hn (by have := h.n16; omega)
  have h3 : min n 20 = n := Nat.min_eq_left (by have := h.n16; omega)
  have hn16 : n ≤ 16 := by have := h.n16; omega
  have hn0 : 0 < n := by have := h.n1; omega
  have hp5 : p ≤ 5 := by have := h.p5; omega
  have hp1 : 1 ≤ p := by have := h.p1; omega
  have HL := hid fun W (hb : Below w.heap.size w W) => lawList A n c xs W (hs.below hb)
  rw [h1, h3] at HL
  have hd0 := dimL_nonneg (p := p) hne
  have hd1 := two_pow_dim p _ xs rfl hne
  have hd4 : (dimL p xs).toNat ≤ 4 := by
    rcases Nat.lt_or_ge 4 (dimL p xs).toNat with g | g
    · have := Nat.pow_le_pow_right (show 0 < 2 by decide) (show 5 ≤ (dimL p xs).toNat by omega)
      omega
    · exact g
  obtain ⟨d, hd⟩ := Int.eq_ofNat_of_zero_le hd0
  have hdn : (dimL p xs).toNat = d := by omega
  have HT := hid fun A' c' W (s1 : Sl W A' n c' (xs.map (Value.int .i64))) => treePub p A' n c' xs W s1 h
  have HG := hid fun A' c' W (s1 : Sl W A' n c' (xs.map (Value.int .i64))) => dimPub p A' n c' xs W s1 h
  have HC := hid fun W (hb : Below w.heap.size w W) => refClassOk p A n c xs W (hs.below hb) h
  have HLF := hid fun A' c' E m' d' ls (X : Exs p ls) W (s1 : Sl W A' n c' (xs.map (Value.int .i64))) (s2 : Sl2 W E m' d' ls) => leftOk p A' n c' xs h E m' d' ls X W s1 s2
  have HSY := hid fun A' c' E m' d' ls (X : Exs p ls) (x : Nat) (hx : x < p) (hne : leftL xs ls ≠ []) W (s1 : Sl W A' n c' (xs.map (Value.int .i64))) (s2 : Sl2 W E m' d' ls) => sayOk p A' n c' xs h E m' d' ls X x hx hne W s1 s2
  have hbl := bigTree_len p xs
  have hfit := grow_fits p (bigTree p xs) (dimL p xs).toNat 0 xs (fun _ => false) (by omega) (fun j u hu => by rw [Nat.zero_add]; exact hu) (fun _ _ _ => rfl)
  rw [hdn] at HT hbl hfit
  rw [hd] at HG
  generalize bigTree p xs = ts at *
  have hL0 : 0 < d → 0 < 2 ^ d - 1 := fun h0 => by
    have := Nat.pow_le_pow_right (show 0 < 2 by decide) (show 1 ≤ d by omega)
    omega
  have HL0 := hid hL0
  clear hL0
  generalize 2 ^ d - 1 = L at *
  have hfit0 : ∃ me m2, fitsL p ts d 0 xs me = some m2 := by
    cases d with
    | zero => exact ⟨_, _, hfit⟩
    | succ d => exact ⟨_, _, hfit⟩
  have HS := hid hs
  have HQ := hid hq
  have HD := hid hd
  have HNE := hid hne
  have HFIT := hid hfit0
  have HBL := hid hbl
  have HN := hid hn
  have d0 : decide ((d : Int) < 0) = false := decide_eq_false (by omega)
  have d1 : decide (5 < (d : Int)) = false := decide_eq_false (by omega)
  have d2 : decide (5 < d) = false := decide_eq_false (by omega)
  have hd4' : d ≤ 4 := by omega
  have hmq := hq.len_le
  clear hs hq h h1 h3 hne hd hdn hd0 hd1 hd4 hfit hbl hn hfit0
  go_enter Try.func4, Try.ntmps4
  go_wp2_with fail
  refine (HL.out _ (Below.refl _ _)).mono ?_; rintro e w1 ⟨A1, c1, rfl, o1, b1⟩
  have s1 := Sl.of_own o1
  go_wp2_with fail
  refine (HT.out _ _ _ s1).mono ?_; rintro e w2 ⟨T, ct, rfl, ot, b2⟩
  have b12 : Below w.heap.size w w2 := below_call b1 b2 b1.size
  have st2 := Sl3.of_own ot
  clear s1 o1 b1 b2 ot
  go_wp2_with fail
  refine (HL.out _ b12).mono ?_; rintro e w3 ⟨A3, c3, rfl, o3, b3⟩
  have s3 := Sl.of_own o3
  have b13 : Below w.heap.size w w3 := below_call b12 b3 b12.size
  have st3 := st2.below b3
  go_wp2_with fail
  refine (HG.out _ _ _ s3).mono ?_; rintro e w4 ⟨rfl, b4⟩
  have b14 := hid (below_call b13 b4 b13.size)
  have ST := hid (st3.below b4)
  clear s3 o3 b12 b13 b3 b4 st2 st3
  go_wp2_with fail
  refine (HC.out _ b14.out).mono ?_; rintro e w5 ⟨rfl, rfl⟩
  obtain ⟨W0, hW0⟩ : ∃ W0, W0 = w4 := ⟨_, rfl⟩
  subst hW0
  go_wp2
  clear d0 d1 d2
  go_loopg [15, 16, 68] d (fun gk o a i wr => ∃ (j : Nat) (l : List (Int × Int)) (r : Int), gk + j = d ∧ i = .int .i64 j ∧ a = .int .i64 r ∧ (∃ A' m' c', o = .slice A' m' c' ∧ wr.ownsRow W0.heap.size 42 2 (.slice A' m' c') m' (flat l)) ∧ l.length = j ∧ (∀ (j : Nat) (u : Int × Int), l[j]? = some u → exBad p u = false) ∧ (j < d → 0 ≤ r ∧ r < ts.length) ∧ (∃ me m2, fitsL p ts (d - j) r (leftL xs l) me = some m2) ∧ Below W0.heap.size W0 wr)
  case atStart =>
    exact ⟨0, [], 0, by omega, rfl, rfl, ⟨none, 0, 0, rfl, World.ownsRow_nil _ _ _ _⟩, rfl, fun j u hu => by simp at hu, fun h0 => ⟨Int.le_refl _, by have := HBL.out; have := HL0.out h0; omega⟩, HFIT.out, Below.refl _ _⟩
  case round =>
    obtain ⟨j, l, r, hj, rfl, rfl, ⟨A', m', c', rfl, ho⟩, hll, hex, hr, hfit, hb⟩ := hrel
    have HJ := hid hj; have HO := hid ho; have HLL := hid hll; have HEX := hid hex; have HR := hid hr; have HFI := hid hfit; have HB := hid hb
    clear hj ho hll hex hr hfit hb
    by_cases hlt : j < d
    · obtain ⟨r0, r1⟩ := HR.out hlt
      obtain ⟨i, rfl⟩ := Int.eq_ofNat_of_zero_le r0
      obtain ⟨me, m2, hf⟩ := HFI.out
      have e : d - j = (d - j - 1) + 1 := by omega
      rw [e] at hf
      obtain ⟨f1, f2, f3⟩ := fits_node hf
      have hln := HBL.out
      obtain ⟨b, o, rfl, lb, _, a0, a1, a2⟩ := ST.out.at (k := i) (by omega)
      have F3 := hid f3
      have hm4 : m' ≤ 4 := by have := own_flat_len HO.out; have := HLL.out; omega
      generalize hnd : nd ts i = u at *
      obtain ⟨pt, ze, on⟩ := u
      simp only at a0 a1 a2 f1 f2 F3
      obtain ⟨x, rfl⟩ := Int.eq_ofNat_of_zero_le f1
      have y0 := (HB.out.cell (p := ⟨b, o + i * 3, none⟩) lb).trans a0
      have A1 := hid a1
      have A2 := hid a2
      have hxp : x < p := by omega
      have g1 : decide ((p : Int) ≤ (x : Int)) = false := decide_eq_false (by omega)
      have g2 : decide (p ≤ x) = false := decide_eq_false (by omega)
      have g3 : decide ((L : Int) ≤ (i : Int)) = false := decide_eq_false (by omega)
      have g4 : decide (L ≤ i) = false := decide_eq_false (by omega)
      have hiL : i < L := by omega
      have hfj : Fits (j : Int) := ⟨by omega, by omega⟩
      clear a0 a1 a2 hf e f1 f2 f3 r0 r1 hln
      cases hbv : bitB said j with
      | true =>
        have hbV : bitV said (j : Int) = 1 := by rw [bitV_b01, hbv]; rfl
        have F := F3.out false
        have F4 := hid F
        clear hbv F
        go_wp2_with (at_builtin; refine push1 TP wr #[.int .i64 (x : Int), .int .i64 0] _ m' _ _ HO.out _ _ rfl rfl rfl rfl rfl (by simp [Value.oneCell']) (by omega) (by omega) HB.out.size ?_; intro v1 w1 hown1 hgr; have hb1 : Below W0.heap.size W0 w1 := below_push HB.out HO.out hgr HB.out.size (Nat.le_refl _); have z1 : w1.cell? ⟨b, o + i * 3 + 1, none⟩ = some (.int .i64 ze) := (hb1.cell (p := ⟨b, o + (i * 3 + 1), none⟩) lb).trans A1.out; have z2 : w1.cell? ⟨b, o + i * 3 + 2, none⟩ = some (.int .i64 on) := (hb1.cell (p := ⟨b, o + (i * 3 + 2), none⟩) lb).trans A2.out)
        obtain ⟨A5, c5, rfl⟩ := own_form hown1
        clear hgr
        go_wp2
        go_roundg (d - j - 1)
        case measure => have := HJ.out; omega
        case rel =>
          refine ⟨j + 1, l ++ [((x : Int), 0)], _, by omega, by go_num, rfl, ⟨A5, m' + 1, c5, rfl, by rw [flat_snoc]; exact hown1⟩, by rw [List.length_append, HLL.out]; rfl, exs_snoc HEX.out (by omega) false, fun hj1 => ?_, ?_, hb1⟩
          · have := F4.out.1
            rw [if_neg (by omega)] at this
            simp at this
            omega
          · obtain ⟨me, m2, hf⟩ := F4.out.2
            rw [leftL_snoc]
            have e2 : d - (j + 1) = d - j - 1 := by omega
            rw [e2]
            exact ⟨me, m2, hf⟩
      | false =>
        have hbV : bitV said (j : Int) = 0 := by rw [bitV_b01, hbv]; rfl
        have F := F3.out true
        have F4 := hid F
        clear hbv F
        go_wp2_with (at_builtin; refine push1 TP wr #[.int .i64 (x : Int), .int .i64 1] _ m' _ _ HO.out _ _ rfl rfl rfl rfl rfl (by simp [Value.oneCell']) (by omega) (by omega) HB.out.size ?_; intro v1 w1 hown1 hgr; have hb1 : Below W0.heap.size W0 w1 := below_push HB.out HO.out hgr HB.out.size (Nat.le_refl _); have z1 : w1.cell? ⟨b, o + i * 3 + 1, none⟩ = some (.int .i64 ze) := (hb1.cell (p := ⟨b, o + (i * 3 + 1), none⟩) lb).trans A1.out; have z2 : w1.cell? ⟨b, o + i * 3 + 2, none⟩ = some (.int .i64 on) := (hb1.cell (p := ⟨b, o + (i * 3 + 2), none⟩) lb).trans A2.out)
        obtain ⟨A5, c5, rfl⟩ := own_form hown1
        clear hgr
        go_wp2
        go_roundg (d - j - 1)
        case measure => have := HJ.out; omega
        case rel =>
          refine ⟨j + 1, l ++ [((x : Int), 1)], _, by omega, by go_num, rfl, ⟨A5, m' + 1, c5, rfl, by rw [flat_snoc]; exact hown1⟩, by rw [List.length_append, HLL.out]; rfl, exs_snoc HEX.out (by omega) true, fun hj1 => ?_, ?_, hb1⟩
          · have := F4.out.1
            rw [if_neg (by omega)] at this
            simp at this
            omega
          · obtain ⟨me, m2, hf⟩ := F4.out.2
            rw [leftL_snoc]
            have e2 : d - (j + 1) = d - j - 1 := by omega
            rw [e2]
            exact ⟨me, m2, hf⟩
    · obtain rfl : j = d := by have := HJ.out; omega
      obtain ⟨me, m2, hf⟩ := HFI.out
      rw [Nat.sub_self] at hf
      have hln : leftL xs l ≠ [] := by
        intro e
        rw [e] at hf
        simp [fitsL] at hf
      have s15 := Sl2.of_own HO.out
      have hX : Exs p l := ⟨by have := HLL.out; omega, HEX.out⟩
      have B0 := hid (below_call b14.out HB.out b14.out.size)
      clear hf
      have HLN := hid hln
      go_wp2_with fail
      refine (HL.out _ B0.out).mono ?_; rintro e w5 ⟨A5, c5, rfl, o5, b5⟩
      have B5 := hid (below_call B0.out b5 B0.out.size)
      have s5 := Sl.of_own o5
      have s15' := s15.below b5
      go_wp2_with fail
      refine (HLF.out _ _ _ _ _ _ hX _ s5 s15').mono ?_; rintro e w6 ⟨A6, k6, c6, rfl, s6, b6⟩
      have B6 := hid (below_call B5.out b6 B5.out.size)
      have k0 : k6 ≠ 0 := fun e => HLN.out (List.eq_nil_of_length_eq_zero (by have := s6.numlen; omega))
      have h1 : ((k6 : Int) == 0) = false := by rw [beq_eq_false_iff_ne]; omega
      have h2 : (k6 == 0) = false := by rw [beq_eq_false_iff_ne]; exact k0
      clear s5 s15 s15' o5 b5 b6 s6 k0 hX hln
      obtain ⟨ci, hci, hcn⟩ := pick_idx con hn0 (by omega)
      obtain ⟨b, o, rfl, lb, _, ca⟩ := HS.out.num hcn
      have cc := (B6.out.cell (p := ⟨b, o + ci, none⟩) lb).trans ca
      have hun : IntKind.u64.wrap (n : Int) = (n : Int) := by rw [IntKind.wrap_u64]; omega
      go_wp2
      have HCM := hid (show at0 xs ci ∈ xs from at0_mem' (by have := HN.out; omega))
      clear cc hci hun h1 h2 lb ca
      go_loopg [15, 20, 151] m (fun gk o mq i wr => ∃ (jj : Nat) (l : List (Int × Int)) (mu : Nat), gk + jj = m ∧ jj ≤ 15 ∧ i = .int .i64 jj ∧ mq = .int .i64 mu ∧ (∃ A' m' c', o = .slice A' m' c' ∧ wr.ownsRow w.heap.size 42 2 (.slice A' m' c') m' (flat l)) ∧ l.length = jj ∧ (∀ (j : Nat) (u : Int × Int), l[j]? = some u → exBad p u = false) ∧ at0 xs ci ∈ leftL xs l ∧ (mu : Int) + dimL p (leftL xs l) ≤ j ∧ Below w.heap.size w wr)
      case atStart => exact ⟨0, [], 0, by omega, by omega, rfl, rfl, ⟨none, 0, 0, rfl, World.ownsRow_nil _ _ _ _⟩, rfl, fun j u hu => by simp at hu, HCM.out, by have := HD.out; show ((0 : Nat) : Int) + dimL p xs ≤ j; omega, B6.out⟩
      case round =>
        obtain ⟨jj, l, mu, hjj, hj15, rfl, rfl, ⟨A', m', c', rfl, ho⟩, hll, hex, HM2, hmu, hb⟩ := hrel
        have HJJ := hid hjj; have HO2 := hid ho; have HLL2 := hid hll; have HEX2 := hid hex; have HMU := hid hmu; have HB2 := hid hb
        have hmj : jj = m' := by have := own_flat_len ho; omega
        subst hmj
        clear hjj ho hll hex hmu hb
        by_cases hlt : jj < m
        · obtain ⟨b, o, rfl, lb, _, ca⟩ := HQ.out.num hlt
          have cc := (HB2.out.cell (p := ⟨b, o + jj, none⟩) lb).trans ca
          by_cases h15 : 15 ≤ jj
          · have k1 : decide ((15 : Int) ≤ (jj : Int)) = true := decide_eq_true (by omega)
            have k2 : decide (15 ≤ jj) = true := decide_eq_true h15
            clear ca
            have hdl := dimL_nonneg (p := p) (xs := leftL xs l) (fun e => by rw [e] at HM2; cases HM2)
            have g1 : decide ((mu : Int) ≤ (j : Int)) = true := decide_eq_true (by have := HMU.out; omega)
            have g2 : decide (mu ≤ j) = true := decide_eq_true (by have := HMU.out; omega)
            have HBF := hid HB2.out
            clear hdl HM2
            go_wp2_with (go_at_call 21; refine (awake _).mono ?_; rintro e w9 ⟨rfl, b9⟩)
            go_ret
            exact ⟨rfl, below_call HBF.out b9 HBF.out.size⟩
          have k1 : decide ((15 : Int) ≤ (jj : Int)) = false := decide_eq_false (by omega)
          have k2 : decide (15 ≤ jj) = false := decide_eq_false h15
          obtain ⟨x, hx, hxp⟩ := pick_idx (at0 qs jj) (n := p) (by omega) (by omega)
          have hup : IntKind.u64.wrap (p : Int) = (p : Int) := by rw [IntKind.wrap_u64]; omega
          have hfx : Fits (x : Int) := ⟨by omega, by omega⟩
          have HE2 := hid (Sl2.of_own HO2.out)
          have hj14 : jj ≤ 14 := by omega
          have hmu4 : mu ≤ 100 := by have := dimL_ge p (leftL xs l); have := HMU.out; omega
          have hlen := HLL2.out
          have HSAY := hid fun A' c' E d' W (s1 : Sl W A' n c' (xs.map (Value.int .i64))) (s2 : Sl2 W E jj d' l) => HSY.out A' c' E jj d' l ⟨by omega, HEX2.out⟩ x hxp (fun e => by rw [e] at HM2; cases HM2) W s1 s2
          clear ca h15
          cases hcv : careful p (leftL xs l) x with
          | false =>
            cases hbv : bitB (at0 xs ci) x with
            | false =>
              have hbV : bitV (at0 xs ci) (x : Int) = 0 := by rw [bitV_b01, hbv]; rfl
              have hsn := hid (show leftL xs (l ++ [((x : Int), b01 false)]) = split (leftL xs l) x false by rw [leftL_snoc]; show split (leftL xs l) x (b01 false == 1) = _; rw [b01_is1])
              have HMS := hid (show at0 xs ci ∈ leftL xs (l ++ [((x : Int), b01 false)]) by rw [hsn.out]; exact split_mem.2 ⟨HM2, hbv⟩)
              have HDS := hid (show ((mu + 0 : Nat) : Int) + dimL p (leftL xs (l ++ [((x : Int), b01 false)])) ≤ j by
                rw [hsn.out]
                have := HMU.out
                have := dimL_split p (leftL xs l) x false
                omega)
              rw [hcv] at HSAY
              clear hbv HM2 hcv
              go_wp2_with fail
              refine (HL.out _ HB2.out).mono ?_; rintro e w11 ⟨A11, c11, rfl, o11, b11⟩
              have B11 := hid (below_call HB2.out b11 HB2.out.size)
              have s11 := Sl.of_own o11
              have e11 := HE2.out.below b11
              go_wp2_with fail
              refine (lawPairs _ _ _ _ _ e11).mono ?_; rintro e w12 ⟨E12, d12, rfl, s12, b12⟩
              rw [show min jj 25 = jj from Nat.min_eq_left (by omega), List.take_of_length_le (by omega)] at s12
              have hmin : min (jj : Int) 25 = jj := by omega
              have hmin2 : min jj 25 = jj := by omega
              have B12 := hid (below_call B11.out b12 B11.out.size)
              have s11' := s11.below b12
              have b11x := b11
              clear e11 b11 o11
              go_wp2_with fail
              try rw [hmin2]
              refine (HSAY.out _ _ _ _ _ s11' s12).mono ?_; rintro e w13 ⟨rfl, b13⟩
              have B13 := hid (below_call B12.out b13 B12.out.size)
              have O13 := hid (own_below (own_below (own_below HO2.out (show Below wr.heap.size wr w11 from b11x)) b12) b13)
              clear s11' s12 b12 b13
              go_wp2_with (at_builtin; refine push1 TP w13 #[.int .i64 (x : Int), .int .i64 0] _ jj _ _ O13.out _ _ rfl rfl rfl rfl rfl (by simp [Value.oneCell']) (by omega) (by omega) B13.out.size ?_; intro v1 w14 hown1 hgr; have hb1 : Below w.heap.size w w14 := below_push B13.out O13.out hgr B13.out.size (Nat.le_refl _))
              obtain ⟨A14, c14, rfl⟩ := own_form hown1
              clear hgr
              go_wp2
              go_roundg (m - jj - 1)
              case measure => have := HJJ.out; omega
              case rel => exact ⟨jj + 1, l ++ [((x : Int), b01 false)], mu + 0, by have := HJJ.out; omega, by omega, by go_num, rfl, ⟨A14, jj + 1, c14, rfl, by rw [flat_snoc]; exact hown1⟩, by rw [List.length_append, HLL2.out]; rfl, exs_snoc HEX2.out hxp false, HMS.out, HDS.out, hb1⟩
            | true =>
              have hbV : bitV (at0 xs ci) (x : Int) = 1 := by rw [bitV_b01, hbv]; rfl
              have hsn := hid (show leftL xs (l ++ [((x : Int), b01 true)]) = split (leftL xs l) x true by rw [leftL_snoc]; show split (leftL xs l) x (b01 true == 1) = _; rw [b01_is1])
              have HMS := hid (show at0 xs ci ∈ leftL xs (l ++ [((x : Int), b01 true)]) by rw [hsn.out]; exact split_mem.2 ⟨HM2, hbv⟩)
              have HDS := hid (show ((mu + 1 : Nat) : Int) + dimL p (leftL xs (l ++ [((x : Int), b01 true)])) ≤ j by
                rw [hsn.out]
                have := HMU.out
                have := careful_falls hxp (y := true) (fun e => by have := split_mem.2 ⟨HM2, hbv⟩; rw [e] at this; cases this) (by rw [hcv]; decide)
                omega)
              rw [hcv] at HSAY
              clear hbv HM2 hcv
              go_wp2_with fail
              refine (HL.out _ HB2.out).mono ?_; rintro e w11 ⟨A11, c11, rfl, o11, b11⟩
              have B11 := hid (below_call HB2.out b11 HB2.out.size)
              have s11 := Sl.of_own o11
              have e11 := HE2.out.below b11
              go_wp2_with fail
              refine (lawPairs _ _ _ _ _ e11).mono ?_; rintro e w12 ⟨E12, d12, rfl, s12, b12⟩
              rw [show min jj 25 = jj from Nat.min_eq_left (by omega), List.take_of_length_le (by omega)] at s12
              have hmin : min (jj : Int) 25 = jj := by omega
              have hmin2 : min jj 25 = jj := by omega
              have B12 := hid (below_call B11.out b12 B11.out.size)
              have s11' := s11.below b12
              have b11x := b11
              clear e11 b11 o11
              go_wp2_with fail
              try rw [hmin2]
              refine (HSAY.out _ _ _ _ _ s11' s12).mono ?_; rintro e w13 ⟨rfl, b13⟩
              have B13 := hid (below_call B12.out b13 B12.out.size)
              have O13 := hid (own_below (own_below (own_below HO2.out (show Below wr.heap.size wr w11 from b11x)) b12) b13)
              clear s11' s12 b12 b13
              go_wp2_with (at_builtin; refine push1 TP w13 #[.int .i64 (x : Int), .int .i64 1] _ jj _ _ O13.out _ _ rfl rfl rfl rfl rfl (by simp [Value.oneCell']) (by omega) (by omega) B13.out.size ?_; intro v1 w14 hown1 hgr; have hb1 : Below w.heap.size w w14 := below_push B13.out O13.out hgr B13.out.size (Nat.le_refl _))
              obtain ⟨A14, c14, rfl⟩ := own_form hown1
              clear hgr
              go_wp2
              go_roundg (m - jj - 1)
              case measure => have := HJJ.out; omega
              case rel => exact ⟨jj + 1, l ++ [((x : Int), b01 true)], mu + 1, by have := HJJ.out; omega, by omega, by go_num, by go_num, ⟨A14, jj + 1, c14, rfl, by rw [flat_snoc]; exact hown1⟩, by rw [List.length_append, HLL2.out]; rfl, exs_snoc HEX2.out hxp true, HMS.out, HDS.out, hb1⟩
          | true =>
            cases hbv : bitB (at0 xs ci) x with
            | false =>
              have hbV : bitV (at0 xs ci) (x : Int) = 0 := by rw [bitV_b01, hbv]; rfl
              have hsn := hid (show leftL xs (l ++ [((x : Int), b01 false)]) = split (leftL xs l) x false by rw [leftL_snoc]; show split (leftL xs l) x (b01 false == 1) = _; rw [b01_is1])
              have HMS := hid (show at0 xs ci ∈ leftL xs (l ++ [((x : Int), b01 false)]) by rw [hsn.out]; exact split_mem.2 ⟨HM2, hbv⟩)
              have HDS := hid (show ((mu + 1 : Nat) : Int) + dimL p (leftL xs (l ++ [((x : Int), b01 false)])) ≤ j by
                rw [hsn.out]
                have := HMU.out
                have := careful_falls hxp (y := false) (fun e => by have := split_mem.2 ⟨HM2, hbv⟩; rw [e] at this; cases this) (by rw [hcv]; decide)
                omega)
              rw [hcv] at HSAY
              clear hbv HM2 hcv
              go_wp2_with fail
              refine (HL.out _ HB2.out).mono ?_; rintro e w11 ⟨A11, c11, rfl, o11, b11⟩
              have B11 := hid (below_call HB2.out b11 HB2.out.size)
              have s11 := Sl.of_own o11
              have e11 := HE2.out.below b11
              go_wp2_with fail
              refine (lawPairs _ _ _ _ _ e11).mono ?_; rintro e w12 ⟨E12, d12, rfl, s12, b12⟩
              rw [show min jj 25 = jj from Nat.min_eq_left (by omega), List.take_of_length_le (by omega)] at s12
              have hmin : min (jj : Int) 25 = jj := by omega
              have hmin2 : min jj 25 = jj := by omega
              have B12 := hid (below_call B11.out b12 B11.out.size)
              have s11' := s11.below b12
              have b11x := b11
              clear e11 b11 o11
              go_wp2_with fail
              try rw [hmin2]
              refine (HSAY.out _ _ _ _ _ s11' s12).mono ?_; rintro e w13 ⟨rfl, b13⟩
              have B13 := hid (below_call B12.out b13 B12.out.size)
              have O13 := hid (own_below (own_below (own_below HO2.out (show Below wr.heap.size wr w11 from b11x)) b12) b13)
              clear s11' s12 b12 b13
              go_wp2_with (at_builtin; refine push1 TP w13 #[.int .i64 (x : Int), .int .i64 0] _ jj _ _ O13.out _ _ rfl rfl rfl rfl rfl (by simp [Value.oneCell']) (by omega) (by omega) B13.out.size ?_; intro v1 w14 hown1 hgr; have hb1 : Below w.heap.size w w14 := below_push B13.out O13.out hgr B13.out.size (Nat.le_refl _))
              obtain ⟨A14, c14, rfl⟩ := own_form hown1
              clear hgr
              go_wp2
              go_roundg (m - jj - 1)
              case measure => have := HJJ.out; omega
              case rel => exact ⟨jj + 1, l ++ [((x : Int), b01 false)], mu + 1, by have := HJJ.out; omega, by omega, by go_num, by go_num, ⟨A14, jj + 1, c14, rfl, by rw [flat_snoc]; exact hown1⟩, by rw [List.length_append, HLL2.out]; rfl, exs_snoc HEX2.out hxp false, HMS.out, HDS.out, hb1⟩
            | true =>
              have hbV : bitV (at0 xs ci) (x : Int) = 1 := by rw [bitV_b01, hbv]; rfl
              have hsn := hid (show leftL xs (l ++ [((x : Int), b01 true)]) = split (leftL xs l) x true by rw [leftL_snoc]; show split (leftL xs l) x (b01 true == 1) = _; rw [b01_is1])
              have HMS := hid (show at0 xs ci ∈ leftL xs (l ++ [((x : Int), b01 true)]) by rw [hsn.out]; exact split_mem.2 ⟨HM2, hbv⟩)
              have HDS := hid (show ((mu + 0 : Nat) : Int) + dimL p (leftL xs (l ++ [((x : Int), b01 true)])) ≤ j by
                rw [hsn.out]
                have := HMU.out
                have := dimL_split p (leftL xs l) x true
                omega)
              rw [hcv] at HSAY
              clear hbv HM2 hcv
              go_wp2_with fail
              refine (HL.out _ HB2.out).mono ?_; rintro e w11 ⟨A11, c11, rfl, o11, b11⟩
              have B11 := hid (below_call HB2.out b11 HB2.out.size)
              have s11 := Sl.of_own o11
              have e11 := HE2.out.below b11
              go_wp2_with fail
              refine (lawPairs _ _ _ _ _ e11).mono ?_; rintro e w12 ⟨E12, d12, rfl, s12, b12⟩
              rw [show min jj 25 = jj from Nat.min_eq_left (by omega), List.take_of_length_le (by omega)] at s12
              have hmin : min (jj : Int) 25 = jj := by omega
              have hmin2 : min jj 25 = jj := by omega
              have B12 := hid (below_call B11.out b12 B11.out.size)
              have s11' := s11.below b12
              have b11x := b11
              clear e11 b11 o11
              go_wp2_with fail
              try rw [hmin2]
              refine (HSAY.out _ _ _ _ _ s11' s12).mono ?_; rintro e w13 ⟨rfl, b13⟩
              have B13 := hid (below_call B12.out b13 B12.out.size)
              have O13 := hid (own_below (own_below (own_below HO2.out (show Below wr.heap.size wr w11 from b11x)) b12) b13)
              clear s11' s12 b12 b13
              go_wp2_with (at_builtin; refine push1 TP w13 #[.int .i64 (x : Int), .int .i64 1] _ jj _ _ O13.out _ _ rfl rfl rfl rfl rfl (by simp [Value.oneCell']) (by omega) (by omega) B13.out.size ?_; intro v1 w14 hown1 hgr; have hb1 : Below w.heap.size w w14 := below_push B13.out O13.out hgr B13.out.size (Nat.le_refl _))
              obtain ⟨A14, c14, rfl⟩ := own_form hown1
              clear hgr
              go_wp2
              go_roundg (m - jj - 1)
              case measure => have := HJJ.out; omega
              case rel => exact ⟨jj + 1, l ++ [((x : Int), b01 true)], mu + 0, by have := HJJ.out; omega, by omega, by go_num, rfl, ⟨A14, jj + 1, c14, rfl, by rw [flat_snoc]; exact hown1⟩, by rw [List.length_append, HLL2.out]; rfl, exs_snoc HEX2.out hxp true, HMS.out, HDS.out, hb1⟩
        · clear hj15
          have hdl := dimL_nonneg (p := p) (xs := leftL xs l) (fun e => by rw [e] at HM2; cases HM2)
          have g1 : decide ((mu : Int) ≤ (j : Int)) = true := decide_eq_true (by have := HMU.out; omega)
          have g2 : decide (mu ≤ j) = true := decide_eq_true (by have := HMU.out; omega)
          have HBF := hid HB2.out
          clear hdl HM2
          go_wp2_with (go_at_call 21; refine (awake _).mono ?_; rintro e w9 ⟨rfl, b9⟩)
          go_ret
          exact ⟨rfl, below_call HBF.out b9 HBF.out.size⟩

theorem learnFools_walk (w : World) (p : Int) (_ : (Lit.int .i64 p).wf = true) (A : Option Addr) (n c : Nat) (xs : List Int) (hs : Sl w A n c (xs.map (Value.int .i64))) (_ : ∀ x ∈ xs, -9223372036854775808 ≤ x ∧ x ≤ 9223372036854775807) (said : Int) (_ : (Lit.int .i64 said).wf = true)
    (Q : Option Addr) (m k : Nat) (qs : List Int) (hq : Sl w Q m k (qs.map (Value.int .i64))) (_ : ∀ x ∈ qs, -9223372036854775808 ≤ x ∧ x ≤ 9223372036854775807) (con : Int) (_ : (Lit.int .i64 con).wf = true) :
    Calls Try.prog 4 #[.int .i64 p, .slice A n c, .int .i64 said, .slice Q m k, .int .i64 con] w fun e w' => e = .returned (.bool true) ∧ Below w.heap.size w w' := by
  by_cases h : Cls p xs
  · obtain ⟨q, rfl⟩ := Int.eq_ofNat_of_zero_le (show 0 ≤ p by have := h.p1; omega)
    exact learnFools_good w q A n c xs hs said Q m k qs hq con h
  · exact learnFools_bad w p A n c xs hs said Q m k con h
end Go.Proofs.Ytpebglilphgamaa
