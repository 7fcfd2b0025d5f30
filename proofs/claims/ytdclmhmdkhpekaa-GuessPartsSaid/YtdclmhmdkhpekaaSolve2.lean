/- Walk of guess.solves, by induction on the number of guesses; of guess.Need. Conditions: the game's numbers are small; the slice reads as rising codes; the map tells the truth. -/
import Derived.Test.YtdclmhmdkhpekaaSolve
namespace Go.Proofs.Ytdclmhmdkhpekaa
open Go.RowKit Go.Maps

/-- A set of codes with one more. -/
def orI (s : Nat) (k : Int) : Nat := s ||| (1 <<< k.toNat)
def OrOk (s : Nat) (k : Int) : Prop := s < 1152921504606846976 ∧ 0 ≤ k ∧ k < 60
theorem wrap_nat {x : Nat} (h : x < 9223372036854775808) : IntKind.i64.wrap (x : Int) = x := by
  rw [IntWalk.i64_in _ (by omega)]
theorem ofInt64 (a : Nat) (ha : a < 18446744073709551616) : (BitVec.ofInt 64 (a : Int)).toNat = a := by
  rw [BitVec.ofInt_natCast, BitVec.toNat_ofNat]; exact Nat.mod_eq_of_lt (by omega)
theorem i64_or (a b : Nat) (ha : a < 9223372036854775808) (hb : b < 9223372036854775808) : bits .or .i64 (a : Int) (b : Int) = ((a ||| b : Nat) : Int) := by
  have hx : a ||| b < 2 ^ 63 := Nat.or_lt_two_pow (by omega) (by omega)
  show IntKind.i64.wrap ((BitVec.ofInt 64 (a : Int) ||| BitVec.ofInt 64 (b : Int)).toNat : Int) = _
  rw [BitVec.toNat_or, ofInt64 a (by omega), ofInt64 b (by omega), wrap_nat (by omega)]
theorem or_v {s : Nat} {k : Int} (h : OrOk s k) : Op.intBits .or .i64 (s : Int) (p2 k) = pure (.int .i64 (orI s k : Nat)) := by
  have h1 := p2_bd (k := k) (by have := h.2.2; omega)
  have h2 := p2_pos k
  have e : p2 k = ((1 <<< k.toNat : Nat) : Int) := by
    rw [Nat.one_shiftLeft]; unfold p2; simp
  have e2 : (1 <<< k.toNat : Nat) < 9223372036854775808 := by omega
  have := i64_or s (1 <<< k.toNat) (by have := h.1; omega) e2
  rw [← e] at this
  unfold orI
  rw [← this]
  rfl
attribute [local go_sem ↓] shl_p2 or_v


set_option maxRecDepth 100000 in
set_option maxHeartbeats 1000000 in
theorem solvesNil (p : Nat) (c : Int) (N n : Nat) (M : Nat) (A : Option Addr) (cp : Nat) (W : World) (hm : Memo Try.prog 106 W M (OKs c p N)) :
    Calls Try.prog 55 #[.agg #[.int .i64 p, .int .i64 c, .int .i64 N], .slice A 0 cp, .int .i64 n, .map (some M)] W fun e w' => e = .returned (.bool true) ∧ W.grownBy w' (some M) ∧ Memo Try.prog 106 w' M (OKs c p N) := by
  have HM := hid hm
  have HB := hid (((((Below.refl W.heap.size W).alloc (Nat.le_refl _) (.cells #[.int .i64 p, .int .i64 c, .int .i64 N] 68)).alloc (by simp) (.cells #[.slice A 0 cp] 34)).alloc (by simp; omega) (.cells #[.int .i64 n] 3)).alloc (by simp; omega) (.cells #[.map (some M)] 75))
  clear hm
  go_enter Try.func55, Try.ntmps55
  go_wp2
  go_ret
  exact ⟨rfl, gr_below HB.out, HM.out.keep HB.out⟩

set_option maxRecDepth 100000 in
set_option maxHeartbeats 1000000 in
theorem solvesZero (p : Nat) (c : Int) (N : Nat) : SolvesTo p c N 0 := by
  intro M A k cp l z W hz hs hm hr
  subst hz
  have hlen : l.length = k := by simpa using hs.len
  by_cases hk : k = 0
  · subst hk
    have : l = [] := List.eq_nil_of_length_eq_zero hlen
    subst this
    rw [solves_nil]
    exact solvesNil p c N 0 M A cp W hm
  · have g1 : ((k : Int) == 0) = false := by rw [beq_eq_false_iff_ne]; omega
    have g2 : (k == 0) = false := by rw [beq_eq_false_iff_ne]; omega
    have hf : solvesL c p N 0 l = false := by
      cases l with
      | nil => simp at hlen; omega
      | cons x t => rfl
    have HF := hid hf
    have HM := hid hm
    have HB := hid (((((Below.refl W.heap.size W).alloc (Nat.le_refl _) (.cells #[.int .i64 p, .int .i64 c, .int .i64 N] 68)).alloc (by simp) (.cells #[.slice A k cp] 34)).alloc (by simp; omega) (.cells #[.int .i64 0] 3)).alloc (by simp; omega) (.cells #[.map (some M)] 75))
    clear hk hf hm hs hlen hr
    go_enter Try.func55, Try.ntmps55
    go_wp2
    go_ret
    exact ⟨by rw [HF.out]; rfl, gr_below HB.out, HM.out.keep HB.out⟩

set_option maxRecDepth 100000 in
set_option maxHeartbeats 4000000 in
theorem solvesStep (p : Nat) (c : Int) (N n : Nat) (G : Gm p c N) (hn : n ≤ 500) (HT : SolvesTo p c N n) : SolvesTo p c N (n + 1) := by
  intro M A k cp l z W hz hs hm hr
  subst hz
  have hlen : l.length = k := by simpa using hs.len
  by_cases hk : k = 0
  · subst hk
    have : l = [] := List.eq_nil_of_length_eq_zero hlen
    subst this
    rw [solves_nil]
    exact solvesNil p c N (n + 1) M A cp W hm
  have g1 : ((k : Int) == 0) = false := by rw [beq_eq_false_iff_ne]; omega
  have g2 : (k == 0) = false := by rw [beq_eq_false_iff_ne]; omega
  have g3 : (((n + 1 : Nat) : Int) == 0) = false := by rw [beq_eq_false_iff_ne]; omega
  have g4 : (((n : Int) + 1) == 0) = false := by rw [beq_eq_false_iff_ne]; omega
  have hN := G.n27
  have hkN := hr.le
  have hk27 : k ≤ 27 := by omega
  have hne : l ≠ [] := by rintro rfl; simp at hlen; omega
  have hE : solvesL c p N (n + 1) l = (upto N).any (goodG c p N n l) := by
    have : l.isEmpty = false := by cases l <;> simp_all
    simp only [solvesL, this, Bool.false_or]
    rfl
  have HE := hid hE
  have HS := hid hs; have HM := hid hm; have HR := hid hr; have HLN := hid hlen
  have hML := hm.lt
  clear hk hs hm hr hlen hne hE
  go_enter Try.func55, Try.ntmps55
  go_wp2
  go_loopg [28] k (fun g i wr => ∃ j : Nat, g + j = k ∧ i = .int .i64 j ∧ Blk wr W.heap.size 68 #[.int .i64 p, .int .i64 c, .int .i64 N] ∧ Blk wr (W.heap.size + 1) 34 #[.slice A k cp] ∧ Blk wr (W.heap.size + 1 + 1) 3 #[.int .i64 ((n : Int) + 1)] ∧ Blk wr (W.heap.size + 1 + 1 + 1) 75 #[.map (some M)] ∧
      Blk wr (W.heap.size + 1 + 1 + 1 + 1) 106 #[.int .i64 (setN (l.take j) : Nat), .int .i64 ((n : Int) + 1)] ∧ Below W.heap.size W wr)
  case atStart =>
    refine ⟨0, by omega, rfl, ((((Blk.new _ _ _).alloc _).alloc _).alloc _).alloc _, (((Blk.new_at _ _ _ (by simp)).alloc _).alloc _).alloc _, ((Blk.new_at _ _ _ (by simp)).alloc _).alloc _, (Blk.new_at _ _ _ (by simp)).alloc _, ?_, ?_⟩
    · have e : setN (l.take 0) = 0 := by simp [setN]
      rw [e]
      exact Blk.new_at _ _ _ (by simp)
    · exact ((((((Below.refl _ _).alloc (Nat.le_refl _) _).alloc (by simp) _).alloc (by simp; omega) _).alloc (by simp; omega) _).alloc (by simp; omega) _)
  case round =>
    obtain ⟨j, hj, rfl, b0, b1, b2, b3, b4, hb⟩ := hrel
    have HJ := hid hj
    have hzz := b4.lt
    by_cases hlt : j < k
    · obtain ⟨b, o, u, rfl, lb, hx, hcl⟩ := HS.out.at2 hb hlt
      rw [List.getElem?_map] at hx
      obtain ⟨x, hxl, rfl⟩ := Option.map_eq_some_iff.1 hx
      have hxr := HR.out.mem x (List.mem_of_getElem? hxl)
      have F1 : Fits x := ⟨hxr.1, by omega⟩
      have hsl : setN (l.take j) < 134217728 := setN_lt fun y hy => by have := HR.out.mem y (List.mem_of_mem_take hy); omega
      have F2 : OrOk (setN (l.take j)) x := ⟨by omega, hxr.1, by omega⟩
      have HSN := hid (show setN (l.take (j + 1)) = orI (setN (l.take j)) x by
        have e : l.take (j + 1) = l.take j ++ [x] := by rw [List.take_add_one, hxl]; rfl
        rw [e, setN_snoc]; rfl)
      have c0 := b4.cell 0
      have f0 := b4.free 0
      simp only [List.getElem?_toArray, List.getElem?_cons_zero] at c0
      have B0 := hid b0; have B1 := hid b1; have B2 := hid b2; have B3 := hid b3; have B4 := hid b4; have HB := hid hb
      clear hj hx hxl b0 b1 b2 b3 b4 hb hsl
      go_wp2_with fail
      go_region
      all_goals go_wp2
      all_goals (go_roundg (gk - 1))
      any_goals (case measure => have := HJ.out; omega)
      all_goals
        refine ⟨j + 1, by have := HJ.out; omega, by go_num, ?_, ?_, ?_, ?_, ?_, ?_⟩
      all_goals first
        | exact B0.out.far (by first | (simp; done) | (simp; omega) | omega) _
        | exact (B0.out.far (by first | (simp; done) | (simp; omega) | omega) _).drew
        | exact B0.out.drew.far (by first | (simp; done) | (simp; omega) | omega) _
        | exact B1.out.far (by first | (simp; done) | (simp; omega) | omega) _
        | exact (B1.out.far (by first | (simp; done) | (simp; omega) | omega) _).drew
        | exact B1.out.drew.far (by first | (simp; done) | (simp; omega) | omega) _
        | exact B2.out.far (by first | (simp; done) | (simp; omega) | omega) _
        | exact (B2.out.far (by first | (simp; done) | (simp; omega) | omega) _).drew
        | exact B2.out.drew.far (by first | (simp; done) | (simp; omega) | omega) _
        | exact B3.out.far (by first | (simp; done) | (simp; omega) | omega) _
        | exact (B3.out.far (by first | (simp; done) | (simp; omega) | omega) _).drew
        | exact B3.out.drew.far (by first | (simp; done) | (simp; omega) | omega) _
        | (rw [HSN.out]; exact B4.out.set 0 _)
        | (rw [HSN.out]; exact (B4.out.set 0 _).drew)
        | (rw [HSN.out]; exact B4.out.drew.set 0 _)
        | exact HB.out.setCell (by first | (simp; done) | (simp; omega) | omega) _
        | exact (HB.out.setCell (by first | (simp; done) | (simp; omega) | omega) _).drew
        | exact HB.out.drew.setCell (by first | (simp; done) | (simp; omega) | omega) _
    · obtain rfl : j = k := by omega
      have et : l.take j = l := List.take_of_length_le (by have := HLN.out; omega)
      rw [et] at b4
      have hsl : setN l < 134217728 := setN_lt fun y hy => by have := HR.out.mem y hy; omega
      obtain ⟨kl, hkl⟩ := keyT_key (s := setN l) (q := ((n + 1 : Nat) : Int)) hsl (by omega)
      have hMr : Memo Try.prog 106 wr M (OKs c p N) := HM.out.keep hb
      have hz4 : ∀ W : World, (zeroValue 4).run Try.prog W = .ok (.bool false) W := by intro W; simp [go_sem]
      have HKL := hid hkl
      have hlk := hMr.look K106 M75 hz4 hkl (.bool (solvesL c p N (n + 1) l)) (fun v hv => hv l (n + 1) HR.out rfl)
      have HB0 := hid b0; have HB1 := hid b1; have HB2 := hid b2; have HB3 := hid b3; have HB4 := hid b4; have HB := hid hb; have HMR := hid hMr
      have c0 := b0.cell 0; have c1 := b0.cell 1; have c2 := b0.cell 2; have d0 := b3.cell 0; have k0 := b4.cell 0; have k1 := b4.cell 1
      simp only [List.getElem?_toArray, List.getElem?_cons_zero, List.getElem?_cons_succ] at c0 c1 c2 d0 k0 k1
      clear hj b0 b1 b2 b3 b4 hb hMr hkl hsl et
      rcases hlk with hlk | hlk
      · have hl0 : (Instr.lookup 75 (.map (some M)) (.agg #[.int .i64 (setN l : Nat), .int .i64 ((n : Int) + 1)]) true).run Try.prog wr = .ok (.tuple #[.bool (solvesL c p N (n + 1) l), .bool true]) wr := hlk 0
        clear hlk
        go_wp2
        go_ret
        exact ⟨rfl, gr_below HB.out, HMR.out⟩
      · have hl0 : (Instr.lookup 75 (.map (some M)) (.agg #[.int .i64 (setN l : Nat), .int .i64 ((n : Int) + 1)]) true).run Try.prog wr = .ok (.tuple #[.bool false, .bool false]) wr := hlk 0
        clear hlk
        go_wp2_with fail
        refine (allS p c N (by omega) _).mono ?_; rintro e w1 ⟨A1, cp1, rfl, ho1, hb1⟩
        have HB5 := hid hb1
        have hz1 := hb1.size
        have HO1 := hid ho1
        have hv1 : Sv w1 W.heap.size (W.heap.size + 1) (W.heap.size + 1 + 1) (W.heap.size + 1 + 1 + 1) M p c N A j cp l (n + 1) :=
          ⟨HB0.out.keep hb1, HB1.out.keep hb1, HB2.out.keep hb1, HB3.out.keep hb1, (HS.out.below HB.out).below hb1, HMR.out.keep hb1, HR.out⟩
        have HV1 := hid hv1
        have HC := hid (containsFunc2 (fun Wx => w1.grownBy Wx (some M) ∧ Memo Try.prog 106 Wx M (OKs c p N)) A1 N cp1 (upto N) 84 #[.pointer (some ⟨W.heap.size, 0, none⟩), .pointer (some ⟨W.heap.size + 1, 0, none⟩), .pointer (some ⟨W.heap.size + 1 + 1, 0, none⟩), .pointer (some ⟨W.heap.size + 1 + 1 + 1, 0, none⟩)] (goodG c p N n l) w1 ⟨gr_refl _ _, hv1.memo⟩
          (fun Wx ⟨hg, _⟩ => sl_grown (Sl.of_own HO1.out) HV1.out.memo hg)
          ⟨enters Try.func84 (by kernel_rfl) rfl, fun x hx Wx ⟨hg, hmx⟩ => (solves1 p c N n G hn HT W.heap.size (W.heap.size + 1) (W.heap.size + 1 + 1) (W.heap.size + 1 + 1 + 1) M A j cp l x (mem_upto.1 hx) Wx (HV1.out.grown hg hmx)).mono fun e w' ⟨he, h1, h2⟩ => ⟨he, gr_trans hg h1, h2⟩⟩)
        rw [← HE.out] at HC
        clear hb1 ho1 hv1 hl0
        go_wp2_with fail
        refine HC.out.mono ?_; rintro e w2 ⟨rfl, hg2, hm2⟩
        have HG2 := hid hg2; have HM2 := hid hm2
        have b3' : Blk w2 (W.heap.size + 1 + 1 + 1) 75 #[.map (some M)] := blk_grown HV1.out.b3 HV1.out.memo hg2
        have b4' : Blk w2 (W.heap.size + 1 + 1 + 1 + 1) 106 #[.int .i64 (setN l : Nat), .int .i64 ((n : Int) + 1)] := blk_grown (HB4.out.keep HB5.out) HV1.out.memo hg2
        obtain ⟨w3, hu, hm3, hg3⟩ := hm2.update K106 M75 HKL.out (OKs_mk (c := c) (p := p) (q := n + 1) HR.out)
        have hu' : (Instr.mapUpdate 75 (.map (some M)) (.agg #[.int .i64 (setN l : Nat), .int .i64 ((n : Int) + 1)]) (.bool (solvesL c p N (n + 1) l))).run Try.prog w2 = .ok () w3 := hu
        have HM3 := hid hm3; have HG3 := hid hg3
        have q0 := b3'.cell 0; have q1 := b4'.cell 0; have q2 := b4'.cell 1
        simp only [List.getElem?_toArray, List.getElem?_cons_zero, List.getElem?_cons_succ] at q0 q1 q2
        clear hg2 hm2 hm3 hg3 hu b3' b4' c0 c1 c2 d0 k0 k1
        go_wp2
        go_ret
        exact ⟨rfl, gr_trans (gr_trans (gr_trans (gr_below HB.out) (gr_below HB5.out)) HG2.out) HG3.out, HM3.out⟩

theorem solvesAll (p : Nat) (c : Int) (N : Nat) (G : Gm p c N) : ∀ n, n ≤ 500 → SolvesTo p c N n := by
  intro n
  induction n with
  | zero => intro _; exact solvesZero p c N
  | succ n ih => intro h; exact solvesStep p c N n G (by omega) (ih (by omega))
end Go.Proofs.Ytdclmhmdkhpekaa
