/- Walk of the reference's Spread. Conditions: two to four nodes; sets of their pairs. -/
import Derived.Test.YtjddbglbodkihaaDoorSpR
namespace Go.Proofs.YtjddbglbodkihaaDoor
open Go.RowKit

theorem moreX_y (m g X Y : Nat) : moreX m g X (Y + 1) = moreX m g X Y ++ [((exS m g X Y (pairsL m) : Nat) : Int)] := by
  unfold moreX
  rw [List.range_succ (n := Y), List.map_append, List.append_assoc]; rfl
theorem moreX_x (m g X : Nat) : moreX m g (X + 1) 0 = moreX m g X X := by
  unfold moreX
  rw [List.range_succ (n := X), List.flatMap_append]; simp
theorem moreX_0 (m g : Nat) : moreX m g 0 0 = [] := rfl
theorem moreL_snoc (m : Nat) (l : List Int) (g : Nat) : moreL m (l ++ [(g : Int)]) = moreL m l ++ ((g : Int) :: moreX m g m 0) := by
  unfold moreL
  rw [List.flatMap_append]; simp
theorem moreX_len (m g X Y : Nat) : (moreX m g X Y).length ≤ X * X + Y := by
  unfold moreX
  rw [List.length_append, List.length_map, List.length_range]
  have h : ∀ X, ((List.range X).flatMap fun x => (List.range x).map fun y => ((exS m g x y (pairsL m) : Nat) : Int)).length ≤ X * X := by
    intro X
    induction X with
    | zero => simp
    | succ X ih =>
      rw [List.range_succ, List.flatMap_append, List.length_append]
      have e : (X + 1) * (X + 1) = X * X + 2 * X + 1 := by rw [Nat.add_mul, Nat.mul_add]; omega
      simp at *
      omega
  have := h X
  omega
theorem sub_len {N F G : Nat} (h : SubF F G) : (famL N F.testBit).length ≤ (famL N G.testBit).length ∧ ((famL N G.testBit).length = (famL N F.testBit).length → F < 2 ^ N → G < 2 ^ N → F = G) := by
  have hs : ((List.range N).filter fun i => F.testBit i).Sublist ((List.range N).filter fun i => G.testBit i) := by
    have e : ((List.range N).filter fun i => F.testBit i) = ((List.range N).filter fun i => G.testBit i).filter fun i => F.testBit i := by
      rw [List.filter_filter]
      apply List.filter_congr
      intro i _
      cases hf : F.testBit i
      · rfl
      · rw [h i hf]; rfl
    rw [e]
    exact List.filter_sublist
  have hl := hs.length_le
  unfold famL
  rw [List.length_map, List.length_map]
  refine ⟨hl, fun he hF hG => ?_⟩
  have e := hs.eq_of_length he.symm
  apply bits_ext
  intro u
  by_cases hu : u < N
  · have : u ∈ ((List.range N).filter fun i => F.testBit i) ↔ u ∈ ((List.range N).filter fun i => G.testBit i) := by rw [e]
    rw [List.mem_filter, List.mem_filter, List.mem_range] at this
    rw [Bool.eq_iff_iff]
    constructor
    · intro k; exact (this.1 ⟨hu, k⟩).2
    · intro k; exact (this.2 ⟨hu, k⟩).2
  · have h1 : F.testBit u = false := by
      cases k : F.testBit u
      · rfl
      · exact absurd (bit_lt hF k) hu
    have h2 : G.testBit u = false := by
      cases k : G.testBit u
      · rfl
      · exact absurd (bit_lt hG k) hu
    rw [h1, h2]
set_option maxRecDepth 100000 in
set_option maxHeartbeats 4000000 in
theorem refSpread (m : Nat) (A : Option Addr) (k c : Nat) (xs : List Int) (w : World) (h2 : 2 ≤ m) (h4 : m ≤ 4) (hs : Sl w A k c (xs.map (Value.int .i64))) (H : SetsP (nP m : Nat) xs) :
    Calls Tryd.prog 47 #[.int .i64 m, .slice A k c] w fun e w' => ∃ (G : Nat) (A' : Option Addr) (c' l : Nat), e = .returned (.slice A' l c') ∧ Spr m (setF xs) G ∧ w'.ownsRow w.heap.size 3 1 (.slice A' l c') l ((famL (2 ^ nP m) G.testBit).map (Value.int .i64)) ∧ Below w.heap.size w w' := by
  have hn6 := nP_bd ⟨m, by omega⟩
  simp only at hn6
  have h64 := two64 hn6
  have hlt : setF xs < 2 ^ (2 ^ nP m) := setF_lt H.bdn
  obtain ⟨G0, hG0⟩ := clo_exists (n := nP m) hlt
  have HPA := hid fun W => refPairs m W h2 h4
  have HC0 := hid fun W (hb : Below w.heap.size w W) => refClose (nP m) A k c xs W (hs.below hb) H
  rw [parts_clo H.bdn hG0] at HC0
  have HSP := hid fun Fc Fn (hl : Fc < 2 ^ (2 ^ nP m)) hd hs hls hn => spr_step (F := setF xs) (Fc := Fc) (Fn := Fn) h2 h4 hl hd hs hls hn
  have HCE := hid fun Fc (hl : Fc < 2 ^ (2 ^ nP m)) => (show ∃ Fn, Clo (nP m) (setF (moreL m (famL (2 ^ nP m) Fc.testBit))) Fn ∧ famL (2 ^ nP m) (partsR (moreL m (famL (2 ^ nP m) Fc.testBit))) = famL (2 ^ nP m) Fn.testBit from by
    have hb := more_bd (Fc := Fc) h2 h4
    obtain ⟨Fn, hFn⟩ := clo_exists (n := nP m) (setF_lt hb)
    exact ⟨Fn, hFn, parts_clo hb hFn⟩)
  have HMB := hid fun Fc => more_bd (Fc := Fc) h2 h4
  have HRC := hid fun A' k' c' (ys : List Int) W (s1 : Sl W A' k' c' (ys.map (Value.int .i64))) (hb : ∀ x ∈ ys, 0 ≤ x ∧ x < (2 ^ nP m : Nat)) => refCloseB (nP m) A' k' c' ys W s1 hn6 hb
  have HEX := hid fun g x y (hy : y < x) (hx : x < m) W => exchangedS m g x y W h4 hy hx
  have HST0 : Hid (Lst m (setF xs) G0 ∧ SubF (setF xs) G0 ∧ DownN (nP m) G0 ∧ G0 < 2 ^ (2 ^ nP m)) := hid ⟨(sp_start (l := []) hG0 (fun S h _ _ _ => h)).least, hG0.up, hG0.down, hG0.lt⟩
  generalize setF xs = F at *
  have HN64 := hid h64
  have HFL := hid fun p => famL_len (2 ^ nP m) p
  clear hs H hG0 hlt
  go_enter Tryd.func47, Tryd.ntmps47
  go_wp2_with fail
  refine (HPA.out _).mono ?_; rintro e w' ⟨rfl, rfl⟩
  go_wp2_with fail
  refine (HC0.out _ (Below.refl _ _)).mono ?_; rintro e w1 ⟨A1, c1, l1, rfl, ho, hb⟩
  have HB1 := hid hb
  have HO1 := hid ho
  clear hb ho
  go_wp2
  go_loopg [5] (65 - l1) (fun gk v wr => ∃ (Fc : Nat) (A' : Option Addr) (c' l : Nat), gk = 65 - l ∧ v = .slice A' l c' ∧ Hid (Lst m F Fc ∧ SubF F Fc ∧ DownN (nP m) Fc ∧ Fc < 2 ^ (2 ^ nP m)) ∧ Hid (wr.ownsRow w.heap.size 3 1 (.slice A' l c') l ((famL (2 ^ nP m) Fc.testBit).map (Value.int .i64))) ∧ Hid (Below w.heap.size w wr))
  case atStart => exact ⟨G0, A1, c1, l1, rfl, rfl, HST0, HO1, HB1⟩
  case round =>
    obtain ⟨Fc, A', c', l, hgk, rfl, HST, HO, HB⟩ := hrel
    obtain ⟨W0, hW0⟩ : ∃ W0, W0 = wr := ⟨_, rfl⟩
    subst hW0
    have HGK := hid hgk
    have HLL := hid (show (famL (2 ^ nP m) Fc.testBit).length = l from by have := HO.out.1; simpa using this)
    clear hgk
    have HLF := hid (HFL.out Fc.testBit)
    have HMBF := hid (HMB.out Fc)
    have HMEM := hid fun d (hd : d < (famL (2 ^ nP m) Fc.testBit).length) => mem_famL.1 (at0_mem hd)
    have HTK := hid fun d (g : Nat) (hd : (famL (2 ^ nP m) Fc.testBit)[d]? = some (g : Int)) => (show moreL m ((famL (2 ^ nP m) Fc.testBit).take (d + 1)) = moreL m ((famL (2 ^ nP m) Fc.testBit).take d) ++ ((g : Int) :: moreX m g m 0) from by rw [List.take_add_one, hd]; exact moreL_snoc _ _ _)
    go_wp2
    go_loopg [6, 18] l (fun gk v i wx => ∃ (d M : Nat) (A2 : Option Addr) (c2 : Nat), gk + d = l ∧ i = .int .i64 d ∧ v = .slice A2 M c2 ∧ M ≤ 40 * d ∧ Hid (wx.ownsRow W0.heap.size 3 1 (.slice A2 M c2) M ((moreL m ((famL (2 ^ nP m) Fc.testBit).take d)).map (Value.int .i64))) ∧ Hid (Below W0.heap.size W0 wx))
    case atStart => exact ⟨0, 0, none, 0, by omega, rfl, rfl, by omega, hid (by simpa [moreL] using World.ownsRow_nil _ _ _ _), hid (Below.refl _ _)⟩
    case round =>
      obtain ⟨d, M, A2, c2, hd, rfl, rfl, hM, HI, HW⟩ := hrel
      have HD := hid hd
      by_cases hlt : d < l
      · have HLT := hid hlt
        obtain ⟨b, o, rfl, lb, hdx, c1⟩ := (Sl.of_own (own_below HO.out HW.out)).num (by have := HLL.out; exact hlt)
        obtain ⟨m0, m1, mF⟩ := HMEM.out d hdx
        obtain ⟨g, hg⟩ := Int.eq_ofNat_of_zero_le m0
        have hget : (famL (2 ^ nP m) Fc.testBit)[d]? = some (g : Int) := by
          have e : (famL (2 ^ nP m) Fc.testBit)[d]? = some (famL (2 ^ nP m) Fc.testBit)[d] := List.getElem?_eq_getElem hdx
          rw [e]; congr 1; rw [← hg]; exact (at0_get e).symm
        have HTN := hid (HTK.out d g hget)
        rw [hg] at c1
        have hz := HW.out.size
        have HMB2 := hid (show M ≤ 2600 from by have := HLF.out; have := HLL.out; have := HN64.out; omega)
        have hdb : d < 64 := by have := HLF.out; have := HLL.out; have := HN64.out; omega
        have HML := hid hM
        clear hd hget m0 m1 mF hg hdx lb hM
        generalize hQ : moreL m ((famL (2 ^ nP m) Fc.testBit).take d) = Q at *
        go_wp2_with (at_builtin; refine push1P TI22 wr #[.int .i64 (g : Int)] W0.heap.size _ _ _ HI.out _ _ wr.heap.size rfl rfl rfl rfl rfl rfl (by simp [Value.oneCell']) (by have := HMB2.out; omega) (by have := HMB2.out; omega) hz ?_; intro v1 w8 hown1 hgr)
        have HW8 := hid (below_push HW.out HI.out hgr hz (Nat.le_refl _))
        obtain ⟨A8, c8, rfl⟩ := own_form hown1
        have HI8 := hid (show w8.ownsRow W0.heap.size 3 1 (.slice A8 (M + 1) c8) (M + 1) ((Q ++ (g : Int) :: moreX m g 0 0).map (Value.int .i64)) from by rw [moreX_0, List.map_append]; exact hown1)
        clear hown1 hgr hz HI HW c1
        go_wp2
        go_loopg [6, 27] m (fun gk3 v i wx => ∃ (X M3 : Nat) (A3 : Option Addr) (c3 : Nat), gk3 + X = m ∧ i = .int .i64 X ∧ v = .slice A3 M3 c3 ∧ M3 ≤ M + 1 + 4 * X ∧ Hid (wx.ownsRow W0.heap.size 3 1 (.slice A3 M3 c3) M3 ((Q ++ (g : Int) :: moreX m g X 0).map (Value.int .i64))) ∧ Hid (Below W0.heap.size W0 wx))
        case atStart => exact ⟨0, M + 1, A8, c8, by omega, rfl, rfl, by omega, HI8, HW8⟩
        case round =>
          obtain ⟨X, M3, A3, c3, hX, rfl, rfl, hM3, HI, HW⟩ := hrel
          have HX := hid hX
          have HM3 := hid hM3
          by_cases hltX : X < m
          · have HLTX := hid hltX
            have HEXX := hid fun y hy W => HEX.out g X y hy hltX W
            clear hX hM3
            go_wp2
            go_loopg [6, 31] X (fun gk4 v i wx => ∃ (Y M4 : Nat) (A4 : Option Addr) (c4 : Nat), gk4 + Y = X ∧ i = .int .i64 Y ∧ v = .slice A4 M4 c4 ∧ M4 ≤ M3 + Y ∧ Hid (wx.ownsRow W0.heap.size 3 1 (.slice A4 M4 c4) M4 ((Q ++ (g : Int) :: moreX m g X Y).map (Value.int .i64))) ∧ Hid (Below W0.heap.size W0 wx))
            case atStart => exact ⟨0, M3, A3, c3, by omega, rfl, rfl, by omega, HI, HW⟩
            case round =>
              clear HI HW
              obtain ⟨Y, M4, A4, c4, hY, rfl, rfl, hM4, HI, HW⟩ := hrel
              have HY := hid hY
              have HM4 := hid hM4
              by_cases hltY : Y < X
              · have HLTY := hid hltY
                have HCL := hid fun W => HEXX.out Y hltY W
                have HMS := hid (moreX_y m g X Y)
                have HM4b := hid (show M4 ≤ 2700 from by have := HMB2.out; have := HM3.out; have := HM4.out; have := h4; have := HLTX.out; omega)
                generalize exS m g X Y (pairsL m) = ex at *
                clear hY hM4
                go_wp2_with fail
                refine (HCL.out _).mono ?_; rintro e w5 ⟨rfl, hlat⟩
                have HW5 := hid (below_call HW.out (hlat.below _) HW.out.size)
                have HI5 := hid (own_below HI.out (hlat.below _))
                have hz5 := HW5.out.size
                clear hlat
                go_wp2_with (at_builtin; refine push1P TI22 w5 #[.int .i64 (ex : Int)] W0.heap.size _ _ _ HI5.out _ _ w5.heap.size rfl rfl rfl rfl rfl rfl (by simp [Value.oneCell']) (by have := HM4b.out; omega) (by have := HM4b.out; omega) hz5 ?_; intro v1 w8 hown1 hgr)
                have HW8 := hid (below_push HW5.out HI5.out hgr hz5 (Nat.le_refl _))
                obtain ⟨A9, c9, rfl⟩ := own_form hown1
                have HI8 := hid hown1
                clear hown1 hgr hz5
                go_wp2
                go_roundg (gk - 1)
                case measure => have := HY.out; have := HLTY.out; omega
                case rel =>
                  refine ⟨Y + 1, M4 + 1, A9, c9, by have := HY.out; have := HLTY.out; omega, by go_num, rfl, by have := HM4.out; omega, hid ?_, HW8⟩
                  have e : Q ++ (g : Int) :: moreX m g X (Y + 1) = (Q ++ (g : Int) :: moreX m g X Y) ++ [(ex : Int)] := by rw [HMS.out, List.append_assoc]; rfl
                  rw [e, List.map_append]
                  exact HI8.out
              · obtain rfl : Y = X := by have := HY.out; omega
                clear hY
                go_wp2
                go_roundg (m - Y - 1)
                case measure => have := HX.out; have := HLTX.out; omega
                case rel => exact ⟨Y + 1, M4, A4, c4, by have := HX.out; have := HLTX.out; omega, by go_num, rfl, by have := HM3.out; have := HM4.out; have := HLTX.out; omega, by rw [moreX_x]; exact HI, HW⟩
          · obtain rfl : X = m := by have := HX.out; omega
            clear hX
            go_wp2
            go_roundg (l - d - 1)
            case measure => have := HD.out; have := HLT.out; omega
            case rel => exact ⟨d + 1, M3, A3, c3, by have := HD.out; have := HLT.out; omega, by go_num, rfl, by have := HM3.out; have := HML.out; omega, by rw [HTN.out]; exact HI, HW⟩
      · obtain rfl : d = l := by have := HD.out; omega
        have e : (famL (2 ^ nP m) Fc.testBit).take d = famL (2 ^ nP m) Fc.testBit := List.take_of_length_le (by have := HLL.out; omega)
        rw [e] at HI
        obtain ⟨Fn, hFn, hpn⟩ := HCE.out Fc HST.out.2.2.2
        have HSTEP := hid (HSP.out Fc Fn HST.out.2.2.2 HST.out.2.2.1 HST.out.2.1 HST.out.1 hFn)
        have HCN := hid hFn
        have HRCW := hid fun W s1 => HRC.out A2 M c2 (moreL m (famL (2 ^ nP m) Fc.testBit)) W s1 HMBF.out
        rw [hpn] at HRCW
        clear hpn hFn e hd hM
        go_wp2_with fail
        refine (HPA.out _).mono ?_; rintro e w5 ⟨rfl, rfl⟩
        go_wp2_with fail
        refine (HRCW.out _ (Sl.of_own HI.out)).mono ?_; rintro e w6 ⟨A7, c7, l7, rfl, ho, hb⟩
        have HB7 := hid (below_call (below_call HB.out HW.out HB.out.size) hb (by have := HB.out.size; have := HW.out.size; omega))
        have HO7 := hid (own_more ho (by have := HB.out.size; have := HW.out.size; omega : w.heap.size ≤ _))
        have HL7 := hid (show (famL (2 ^ nP m) Fn.testBit).length = l7 from by have := ho.1; simpa using this)
        clear hb ho HI HW
        have hcmp := sub_len (N := 2 ^ nP m) HSTEP.out.1
        have hle7 := HFL.out Fn.testBit
        have HCMP := hid hcmp
        by_cases hlen : l7 = d
        · have HEQ := hid (show Fn = Fc from (hcmp.2 (by rw [HL7.out, HLL.out, hlen]) HST.out.2.2.2 HCN.out.lt).symm)
          have q1 : (l7 == d) = true := by rw [beq_iff_eq]; exact hlen
          have q2 : ((l7 : Int) == (d : Int)) = true := by rw [beq_iff_eq]; omega
          have q3 : decide ((l7 : Int) = (d : Int)) = true := decide_eq_true (by omega)
          clear hcmp hlen hle7
          go_wp2
          go_ret
          exact ⟨Fn, _, _, _, rfl, by rw [HEQ.out]; exact HSTEP.out.2.2 HEQ.out, HO7.out, HB7.out⟩
        · have HNE := hid hlen
          have q1 : (l7 == d) = false := by rw [beq_eq_false_iff_ne]; exact hlen
          have q2 : ((l7 : Int) == (d : Int)) = false := by rw [beq_eq_false_iff_ne]; omega
          have q3 : decide ((l7 : Int) = (d : Int)) = false := decide_eq_false (by omega)
          clear hcmp hlen hle7
          go_wp2
          go_roundg (65 - l7)
          case measure => have := HCMP.out.1; have := HL7.out; have := HLL.out; have := HNE.out; have := HFL.out Fn.testBit; have := HN64.out; have := HGK.out; omega
          case rel => exact ⟨Fn, A7, c7, l7, rfl, rfl, hid ⟨HSTEP.out.2.1, HST.out.2.1.trans HSTEP.out.1, HCN.out.down, HCN.out.lt⟩, HO7, HB7⟩
end Go.Proofs.YtjddbglbodkihaaDoor
