/- Walks of family.fold and away. Conditions: a family of at most six elements; the table of the library stands. -/
import Derived.Test.YtjddbglbodkihaaDoorFoldM
import Derived.Test.YtjddbglbodkihaaDoorRefP
import Derived.Test.YtjddbglbodkihaaDoorOnes
import Derived.Test.YtjddbglbodkihaaDoorList
namespace Go.Proofs.YtjddbglbodkihaaDoor
open Go.RowKit
attribute [local go_sem ↓] shl_p2 shl_u or_u shr_u and_shrF shr_v and_shr andNot_v and_nn or_i andNot_nn

def supD (F s d : Nat) : List Int := ((famL 64 F.testBit).take d).filter fun x => supB s x.toNat
theorem supD_all (F s : Nat) : supD F s (famL 64 F.testBit).length = supL F s := by unfold supD supL; rw [List.take_length]
theorem at0_some' {xs : List Int} {j : Nat} (h : j < xs.length) : xs[j]? = some (at0 xs j) := by
  have e : xs[j]? = some xs[j] := List.getElem?_eq_getElem h
  rw [e]; congr 1; exact (at0_get e).symm
theorem supD_succ {F s d x : Nat} (hd : d < (famL 64 F.testBit).length) (hx : at0 (famL 64 F.testBit) d = x) : supD F s (d + 1) = if supB s x then supD F s d ++ [(x : Int)] else supD F s d := by
  unfold supD
  rw [List.take_add_one, at0_some' hd, hx]
  show List.filter _ (_ ++ [(x : Int)]) = _
  rw [List.filter_append]
  cases h : supB s x
  · simp [h]
  · simp [h]
theorem supD_len (F s d : Nat) : (supD F s d).length ≤ 64 := by
  unfold supD
  have h1 := List.length_filter_le (fun x : Int => supB s x.toNat) ((famL 64 F.testBit).take d)
  have h2 := List.length_take (i := d) (l := famL 64 F.testBit)
  have h3 := famL_len 64 F.testBit
  omega
theorem lastD_snoc (l : List Int) (x : Int) : lastD (l ++ [x]) = x := by simp [lastD]
theorem lastD_mem (l : List Int) : l = [] ∧ lastD l = 0 ∨ lastD l ∈ l := by
  rcases List.eq_nil_or_concat l with rfl | ⟨l', x, rfl⟩
  · left; exact ⟨rfl, rfl⟩
  · right; rw [List.concat_eq_append, lastD_snoc]; simp
theorem supD_last {F s d : Nat} : 0 ≤ lastD (supD F s d) ∧ lastD (supD F s d) < 64 := by
  rcases lastD_mem (supD F s d) with ⟨_, h⟩ | h
  · rw [h]; exact ⟨by decide, by decide⟩
  · have hm : lastD (supD F s d) ∈ (famL 64 F.testBit).take d := by
      unfold supD at h ⊢
      exact (List.mem_filter.1 h).1
    obtain ⟨h0, h1, _⟩ := mem_famL.1 (List.mem_of_mem_take hm)
    exact ⟨h0, by simpa using h1⟩
/-- What fold tells. -/
def FoldRes (F : Nat) (s t : Int) (b : Bool) : Prop := (b = true → ∃ sn tn : Nat, s = sn ∧ t = tn ∧ FR F sn tn) ∧ (b = false → ∀ sn tn : Nat, s = sn → ¬ FR F sn tn)
set_option maxRecDepth 100000 in
set_option maxHeartbeats 4000000 in
theorem foldF (n F : Nat) (s : Int) (w : World) (hn : n ≤ 6) (hF : F < 2 ^ (2 ^ n)) (hT : Tab w) :
    Calls Tryd.prog 86 #[.agg #[.int .i64 n, .int .u64 F], .int .i64 s] w fun e w' => (∃ t b, e = .returned (.tuple #[.int .i64 t, .bool b]) ∧ FoldRes F s t b) ∧ Below w.heap.size w w' := by
  have hF64 := fam64 hn hF
  have h64 := two6 hn
  have FN : Fits (n : Int) := ⟨by omega, by omega⟩
  have hp := p2_nat n
  have hpp := Nat.two_pow_pos n
  have hpb : 1 ≤ p2 (n : Int) ∧ p2 (n : Int) ≤ 64 := by omega
  have HB0 := hid ((Below.refl w.heap.size w).alloc (Nat.le_refl _) (.cells #[.int .i64 n, .int .u64 F] 72))
  have HF0 := hid (Blk.new w 72 #[.int .i64 n, .int .u64 F])
  by_cases h1 : s ≤ 0
  · have g1 : decide (s ≤ 0) = true := decide_eq_true h1
    have HR := hid (show FoldRes F s 0 false from ⟨fun h => (by cases h), fun _ sn tn e (h : FR F sn tn) => (by have := h.pos; omega)⟩)
    clear h1 hp hpp
    go_enter Tryd.func86, Tryd.ntmps86
    go_wp2
    go_ret2
    exact ⟨⟨0, false, rfl, HR.out⟩, HB0.out⟩
  · have g1 : decide (s ≤ 0) = false := decide_eq_false h1
    obtain ⟨s, rfl⟩ := Int.eq_ofNat_of_zero_le (show 0 ≤ s by omega)
    have g1n : decide (s = 0) = false := decide_eq_false (by omega)
    by_cases h2 : p2 (n : Int) ≤ s
    · have g2 : decide (p2 (n : Int) ≤ s) = true := decide_eq_true h2
      have HR := hid (show FoldRes F s 0 false from ⟨fun h => (by cases h), fun _ sn tn e (h : FR F sn tn) => (by have := bit_lt hF h.inS; omega)⟩)
      clear h1 h2 hp hpp
      go_enter Tryd.func86, Tryd.ntmps86
      go_wp2
      go_ret2
      exact ⟨⟨0, false, rfl, HR.out⟩, HB0.out⟩
    · have g2 : decide (p2 (n : Int) ≤ s) = false := decide_eq_false h2
      have hs64 : s < 64 := by omega
      have HH := hid fun W => hasF n F (s : Nat) W ⟨hF64, by omega, by omega⟩
      simp only [Int.toNat_natCast] at HH
      cases hb : F.testBit s
      · rw [hb] at HH
        have HR := hid (show FoldRes F s 0 false from ⟨fun h => (by cases h), fun _ sn tn e (h : FR F sn tn) => by
          have e2 : sn = s := by omega
          have := h.inS; rw [e2, hb] at this; cases this⟩)
        clear h1 h2 hp hpp hb
        go_enter Tryd.func86, Tryd.ntmps86
        go_wp2_with fail
        refine (HH.out _).mono ?_; rintro e w1 ⟨rfl, b1⟩
        have HB1 := hid (below_call HB0.out b1 HB0.out.size)
        clear b1
        go_wp2
        go_ret2
        exact ⟨⟨0, false, rfl, HR.out⟩, HB1.out⟩
      · rw [hb] at HH
        have HLI := hid fun W (hb : Below w.heap.size w W) => listF n F W hF64 (hT.below hb)
        have HSU := hid fun d x (hd : d < (famL 64 F.testBit).length) (hx : at0 (famL 64 F.testBit) d = (x : Nat)) => supD_succ (s := s) hd hx
        have HM := hid fun d (hd : d < (famL 64 F.testBit).length) => mem_famL.1 (at0_mem hd)
        have HCT := hid fun x (hx : x < 64) W => countS x hx W
        have HYES := hid fun h1 h2 => fold_yes (F := F) (s := s) hF64 (by omega) hb h1 h2
        have HNO := hid fun h => fold_no (F := F) (s := s) hF64 h
        have HALL := hid (supD_all F s)
        have HS0 : Hid (supD F s 0 = []) := hid rfl
        have hll := famL_len 64 F.testBit
        generalize hl : famL 64 F.testBit = l at *
        clear h1 h2 hp hpp hb hT hl hF hF64
        go_enter Tryd.func86, Tryd.ntmps86
        go_wp2_with fail
        refine (HH.out _).mono ?_; rintro e w1 ⟨rfl, b1⟩
        have HB1 := hid (below_call HB0.out b1 HB0.out.size)
        have HF1 := hid (HF0.out.keep b1)
        have f0 := HF1.out.cell 0; have f1 := HF1.out.cell 1
        simp only [List.getElem?_toArray, List.getElem?_cons_zero, List.getElem?_cons_succ] at f0 f1
        clear b1
        go_wp2_with fail
        refine (HLI.out _ HB1.out).mono ?_; rintro e w2 ⟨A2, c2, rfl, ho, b2⟩
        have HB2 := hid (below_call HB1.out b2 HB1.out.size)
        have HSL := hid (Sl.of_own ho)
        clear b2 ho f0 f1
        go_wp2
        go_loopg [4, 6, 27] l.length (fun gk t c i wr => ∃ d : Nat, gk + d = l.length ∧ i = .int .i64 d ∧ t = .int .i64 (lastD (supD F s d)) ∧ c = .int .i64 ((supD F s d).length : Nat) ∧ w2 = wr)
        case atStart => exact ⟨0, by omega, rfl, by rw [HS0.out]; rfl, by rw [HS0.out]; rfl, rfl⟩
        case round =>
          obtain ⟨d, hd, rfl, rfl, rfl, rfl⟩ := hrel
          have HD := hid hd
          have hln := supD_len F s d
          by_cases hlt : d < l.length
          · have HLT := hid hlt
            obtain ⟨b, o, rfl, lb, hdx, c1⟩ := HSL.out.num hlt
            obtain ⟨m0, m1, _⟩ := HM.out d hlt
            obtain ⟨x, hx⟩ := Int.eq_ofNat_of_zero_le m0
            have hx64 : x < 64 := by omega
            have hsu := HSU.out d x hlt hx
            rw [hx] at c1
            have HSN := hid hsu
            have A1 : AndF s x := ⟨by omega, by omega⟩
            have hab := anB hs64 hx64
            clear hsu hx m0 m1 hd hdx
            by_cases hxs : x = s
            · have g3 : ((x : Int) != s) = false := by rw [hxs]; simp
              have g3n : (x != s) = false := by rw [hxs]; simp
              have hbb : supB s x = false := by unfold supB; rw [hxs]; simp
              rw [hbb] at HSN
              clear hxs hbb
              go_wp2
              go_roundg (gk - 1)
              case measure => have := HD.out; have := HLT.out; omega
              case rel => exact ⟨d + 1, by have := HD.out; have := HLT.out; omega, by go_num, by rw [HSN.out]; rfl, by rw [HSN.out]; rfl, rfl⟩
            · have g3 : ((x : Int) != s) = true := by simp; omega
              have g3n : (x != s) = true := by simp; exact hxs
              have hbb : supB s x = (s &&& x == s) := by unfold supB; rw [decide_eq_true hxs, Bool.true_and]
              rw [hbb] at HSN
              cases hc : (s &&& x == s)
              · rw [hc] at hab HSN
                clear hxs hbb hc
                go_wp2
                go_roundg (gk - 1)
                case measure => have := HD.out; have := HLT.out; omega
                case rel => exact ⟨d + 1, by have := HD.out; have := HLT.out; omega, by go_num, by rw [HSN.out]; rfl, by rw [HSN.out]; rfl, rfl⟩
              · rw [hc] at hab HSN
                clear hxs hbb hc
                go_wp2
                go_roundg (gk - 1)
                case measure => have := HD.out; have := HLT.out; omega
                case rel => exact ⟨d + 1, by have := HD.out; have := HLT.out; omega, by go_num, by rw [HSN.out]; simp [lastD], by rw [HSN.out]; simp, rfl⟩
          · obtain rfl : d = l.length := by have := HD.out; omega
            have hlst := supD_last (F := F) (s := s) (d := l.length)
            rw [HALL.out] at hln hlst ⊢
            obtain ⟨t, ht⟩ := Int.eq_ofNat_of_zero_le hlst.1
            have ht64 : t < 64 := by omega
            rw [ht] at HYES HNO ⊢
            have HT := hid (HCT.out t ht64)
            have HSs := hid (HCT.out s hs64)
            simp only [Int.toNat_natCast] at HYES HNO
            have hst := sz_le t
            have hss := sz_le s
            by_cases hone : (supL F s).length = 1
            · have g4 : (((supL F s).length : Int) == 1) = true := by rw [beq_iff_eq]; omega
              have g4n : ((supL F s).length == 1) = true := by rw [beq_iff_eq]; exact hone
              by_cases hz : sz t = sz s + 1
              · have g5 : ((sz t : Int) == (sz s : Int) + 1) = true := by rw [beq_iff_eq]; omega
                have HR := hid (show FoldRes F s t true from ⟨fun _ => by
                  obtain ⟨t', e, h⟩ := HYES.out hone hz
                  have : t' = t := by omega
                  subst this
                  exact ⟨s, t', rfl, rfl, h⟩, fun h => by cases h⟩)
                generalize (supL F s).length = ln at *
                generalize hzt : sz t = zt at *
                generalize hzs : sz s = zs at *
                clear hz hone hd hlt hlst ht hzt hzs
                go_wp2_with fail
                refine (HT.out _).mono ?_; rintro e wx ⟨rfl, rfl⟩
                go_wp2_with fail
                refine (HSs.out _).mono ?_; rintro e wx ⟨rfl, rfl⟩
                go_wp2
                go_ret2
                exact ⟨⟨t, true, rfl, HR.out⟩, HB2.out⟩
              · have g5 : ((sz t : Int) == (sz s : Int) + 1) = false := by rw [beq_eq_false_iff_ne]; omega
                have HR := hid (show FoldRes F s t false from ⟨fun h => (by cases h), fun _ sn tn e (h : FR F sn tn) => by
                  have e2 : sn = s := by omega
                  subst e2
                  exact HNO.out (fun hh => hz hh.2) tn h⟩)
                generalize (supL F s).length = ln at *
                generalize hzt : sz t = zt at *
                generalize hzs : sz s = zs at *
                clear hz hone hd hlt hlst ht hzt hzs
                go_wp2_with fail
                refine (HT.out _).mono ?_; rintro e wx ⟨rfl, rfl⟩
                go_wp2_with fail
                refine (HSs.out _).mono ?_; rintro e wx ⟨rfl, rfl⟩
                go_wp2
                go_ret2
                exact ⟨⟨t, false, rfl, HR.out⟩, HB2.out⟩
            · have g4 : (((supL F s).length : Int) == 1) = false := by rw [beq_eq_false_iff_ne]; omega
              have g4n : ((supL F s).length == 1) = false := by rw [beq_eq_false_iff_ne]; exact hone
              have HR := hid (show FoldRes F s t false from ⟨fun h => (by cases h), fun _ sn tn e (h : FR F sn tn) => by
                have e2 : sn = s := by omega
                subst e2
                exact HNO.out (fun hh => hone hh.1) tn h⟩)
              generalize (supL F s).length = ln at *
              clear hone hd hlt hlst ht
              go_wp2
              go_ret2
              exact ⟨⟨t, false, rfl, HR.out⟩, HB2.out⟩
theorem point_no {F : Nat} (h : ¬ ((famL 64 F.testBit).length = 2 ∧ sz (at0 (famL 64 F.testBit) 1).toNat = 1)) : ¬ Point F.testBit := by
  intro hp
  obtain ⟨v, hv, hl⟩ := hp.list
  rw [hl] at h
  refine h ⟨rfl, ?_⟩
  have : ∀ v : Fin 6, sz (1 <<< v.val) = 1 := by decide
  exact this ⟨v, hv⟩
theorem point_yes {F : Nat} (hF : FS F) (h1 : (famL 64 F.testBit).length = 2) (h2 : sz (at0 (famL 64 F.testBit) 1).toNat = 1) : Point F.testBit := by
  generalize hl : famL 64 F.testBit = l at *
  match l, h1 with
  | [a, b], _ => exact point_list hF hl h2
set_option maxRecDepth 100000 in
set_option maxHeartbeats 4000000 in
theorem awayF (n : Int) (F : Nat) (w : World) (hF : FS F) (hT : Tab w) :
    Calls Tryd.prog 85 #[.agg #[.int .i64 n, .int .u64 F]] w fun e w' => (∃ b, e = .returned (.bool b) ∧ (b = true ↔ Point F.testBit)) ∧ Below w.heap.size w w' := by
  have HB0 := hid ((Below.refl w.heap.size w).alloc (Nat.le_refl _) (.cells #[.int .i64 n, .int .u64 F] 72))
  have HLI := hid fun W (hb : Below w.heap.size w W) => listF n F W hF.lt (hT.below hb)
  have HY := hid fun h1 h2 => point_yes hF h1 h2
  have HN := hid fun h => point_no (F := F) h
  have hll := famL_len 64 F.testBit
  have HM := hid fun d (hd : d < (famL 64 F.testBit).length) => mem_famL.1 (at0_mem hd)
  generalize Point F.testBit = PP at *
  generalize hl : famL 64 F.testBit = l at *
  clear hF hT hl
  by_cases h : l.length = 2
  · have g : ((l.length : Int) == 2) = true := by rw [beq_iff_eq]; omega
    obtain ⟨m0, m1, _⟩ := HM.out 1 (by omega)
    obtain ⟨x, hx⟩ := Int.eq_ofNat_of_zero_le m0
    have hx64 : x < 64 := by omega
    have HCT := hid fun W => countS x hx64 W
    have hsz := sz_le x
    have HH := hid h
    have HX := hid hx
    have gl : (l.length == 2) = true := by rw [beq_iff_eq]; exact h
    have glt : 1 < l.length := by omega
    by_cases hz : sz x = 1
    · have g2 : ((sz x : Int) == 1) = true := by rw [beq_iff_eq]; omega
      have g2n : (sz x == 1) = true := by rw [beq_iff_eq]; exact hz
      have HR := hid (show PP from HY.out h (by rw [hx]; simpa using hz))
      generalize sz x = zx at *
      clear h hx m0 m1 hz
      go_enter Tryd.func85, Tryd.ntmps85
      go_wp2_with fail
      refine (HLI.out _ HB0.out).mono ?_; rintro e w2 ⟨A2, c2, rfl, ho, b2⟩
      have HB2 := hid (below_call HB0.out b2 HB0.out.size)
      have HSL := Sl.of_own ho
      obtain ⟨b, o, rfl, lb, hdx, c1⟩ := HSL.num (k := 1) (by have := HH.out; omega)
      rw [HX.out] at c1
      clear b2 ho HSL hdx
      go_wp2_with fail
      refine (HCT.out _).mono ?_; rintro e wx ⟨rfl, rfl⟩
      go_wp2
      go_ret
      exact ⟨⟨true, rfl, ⟨fun _ => HR.out, fun _ => rfl⟩⟩, HB2.out⟩
    · have g2 : ((sz x : Int) == 1) = false := by rw [beq_eq_false_iff_ne]; omega
      have g2n : (sz x == 1) = false := by rw [beq_eq_false_iff_ne]; exact hz
      have HR := hid (show ¬ PP from HN.out (by
        rw [hx]; rintro ⟨_, h2⟩; exact hz (by simpa using h2)))
      generalize sz x = zx at *
      clear h hx m0 m1 hz
      go_enter Tryd.func85, Tryd.ntmps85
      go_wp2_with fail
      refine (HLI.out _ HB0.out).mono ?_; rintro e w2 ⟨A2, c2, rfl, ho, b2⟩
      have HB2 := hid (below_call HB0.out b2 HB0.out.size)
      have HSL := Sl.of_own ho
      obtain ⟨b, o, rfl, lb, hdx, c1⟩ := HSL.num (k := 1) (by have := HH.out; omega)
      rw [HX.out] at c1
      clear b2 ho HSL hdx
      go_wp2_with fail
      refine (HCT.out _).mono ?_; rintro e wx ⟨rfl, rfl⟩
      go_wp2
      go_ret
      exact ⟨⟨false, rfl, ⟨fun h => (by cases h), fun h => absurd h HR.out⟩⟩, HB2.out⟩
  · have g : ((l.length : Int) == 2) = false := by rw [beq_eq_false_iff_ne]; omega
    have gl : (l.length == 2) = false := by rw [beq_eq_false_iff_ne]; exact h
    have HR := hid (show ¬ PP from HN.out fun hh => h hh.1)
    clear h
    go_enter Tryd.func85, Tryd.ntmps85
    go_wp2_with fail
    refine (HLI.out _ HB0.out).mono ?_; rintro e w2 ⟨A2, c2, rfl, ho, b2⟩
    have HB2 := hid (below_call HB0.out b2 HB0.out.size)
    clear b2 ho
    go_wp2
    go_ret
    exact ⟨⟨false, rfl, ⟨fun h => (by cases h), fun h => absurd h HR.out⟩⟩, HB2.out⟩
end Go.Proofs.YtjddbglbodkihaaDoor
