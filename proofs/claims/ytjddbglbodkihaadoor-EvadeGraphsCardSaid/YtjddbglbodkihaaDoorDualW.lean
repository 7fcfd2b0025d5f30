/- Walks of evade.Dual and the reference's. Conditions: the slices read as numbers; the table of the library stands. -/
import Derived.Test.YtjddbglbodkihaaDoorSumW
namespace Go.Proofs.YtjddbglbodkihaaDoor
open Go.RowKit
attribute [local go_sem ↓] shl_p2 shl_u or_u shr_u and_shrF shr_v and_shr andNot_v and_nn or_i

set_option maxRecDepth 100000 in
set_option maxHeartbeats 2000000 in
theorem dual1F (bf bn n F s : Nat) (w : World) (hn : n ≤ 6) (hF : F < 18446744073709551616) (hs : s < 2 ^ n) (Bf : Blk w bf 72 #[.int .i64 n, .int .u64 F]) (Bn : Blk w bn 3 #[.int .i64 n]) :
    Calls Tryd.prog 70 #[.int .i64 s, .pointer (some ⟨bf, 0, none⟩), .pointer (some ⟨bn, 0, none⟩)] w fun e w' => e = .returned (.bool (dualP n F.testBit s)) ∧ Below w.heap.size w w' := by
  have c0 := Bf.cell 0; have c1 := Bf.cell 1; have d0 := Bn.cell 0
  simp only [List.getElem?_toArray, List.getElem?_cons_zero, List.getElem?_cons_succ] at c0 c1 d0
  have FN : Fits (n : Int) := ⟨by omega, by omega⟩
  have hp := p2_nat n
  have h64 := two6 hn
  have H1 := hid fun W => hasF n F (p2 (n : Int) - 1 - s) W ⟨hF, by omega, by omega⟩
  have e1 : (p2 (n : Int) - 1 - (s : Int)).toNat = flip n s := by unfold flip; omega
  rw [e1] at H1
  have hpb : 1 ≤ p2 (n : Int) ∧ p2 (n : Int) ≤ 64 ∧ (s : Int) < p2 (n : Int) := by omega
  have HWR := hid (show IntKind.i64.wrap (IntKind.i64.wrap (p2 (n : Int) - 1) - s) = p2 (n : Int) - 1 - s from by rw [IntKind.wrap_i64, IntKind.wrap_i64]; omega)
  unfold dualP
  generalize F.testBit (flip n s) = b at *
  have k0 : w.drew.cell? ⟨bf, 0, none⟩ = some (.int .i64 n) := c0
  have k1 : w.drew.cell? ⟨bf, 1, none⟩ = some (.int .u64 F) := c1
  have k2 : w.drew.cell? ⟨bn, 0, none⟩ = some (.int .i64 n) := d0
  have HB0 := hid (Below.refl w.heap.size w).drew
  clear hs Bf Bn hp h64 e1
  go_enter Tryd.func70, Tryd.ntmps70
  go_wp2_with fail
  go_region_held3 (fun w' => w'.cell? ⟨bf, 0, none⟩ = some (.int .i64 n) ∧ w'.cell? ⟨bf, 1, none⟩ = some (.int .u64 F) ∧ w'.cell? ⟨bn, 0, none⟩ = some (.int .i64 n)) (first | assumption | go_keep)
    ((go_at_call 60; rw [HWR.out]; refine (H1.out _).mono ?_; rintro e w1 ⟨rfl, b1⟩; have hk1 : w1.cell? ⟨bf, 0, none⟩ = some (.int .i64 n) ∧ w1.cell? ⟨bf, 1, none⟩ = some (.int .u64 F) ∧ w1.cell? ⟨bn, 0, none⟩ = some (.int .i64 n) := ⟨cell_keep b1 k0, cell_keep b1 k1, cell_keep b1 k2⟩; have HB1 := hid (below_call HB0.out b1 HB0.out.size); clear b1))
  go_wp2
  go_ret
  exact ⟨rfl, HB1.out⟩
set_option maxRecDepth 100000 in
set_option maxHeartbeats 2000000 in
theorem dualYes (n : Nat) (A : Option Addr) (m c : Nat) (xs : List Int) (w : World) (hs : Sl w A m c (xs.map (Value.int .i64))) (hT : Tab w) (H : Fam n xs) :
    Calls Tryd.prog 30 #[.int .i64 n, .slice A m c] w fun e w' => ∃ A' c' l, e = .returned (.tuple #[.slice A' l c', .int .i64 0]) ∧ w'.ownsRow w.heap.size 3 1 (.slice A' l c') l ((famL (2 ^ n) (dualP n (setF xs).testBit)).map (Value.int .i64)) ∧ Below w.heap.size w w' := by
  have h6 := H.n6n
  have hF := fam64 h6 H.lt
  have HR1 := hid fun W (hb : Below w.heap.size w W) => readYes n A m c xs W (hs.below hb) (hT.below hb) H
  have HP := hid fun bf bn W (B1 : Blk W bf 72 #[.int .i64 n, .int .u64 (setF xs : Nat)]) (B2 : Blk W bn 3 #[.int .i64 n]) =>
    (show TellsF W 70 #[.pointer (some ⟨bf, 0, none⟩), .pointer (some ⟨bn, 0, none⟩)] (2 ^ n) (dualP n (setF xs).testBit) from
      ⟨fun args W => enters Tryd.func70 (by kernel_rfl) rfl args W, fun s hs W1 hW => dual1F bf bn n (setF xs) s W1 h6 hF hs (B1.keep hW) (B2.keep hW)⟩)
  have HK := hid fun lb W hf => keptF n (setF xs) 70 lb (dualP n (setF xs).testBit) W h6 hf
  have hmk : mkN (2 ^ n) (dualP n (setF xs).testBit) < 18446744073709551616 := fam64 h6 (mkN_lt _ _)
  have HL := hid fun W (hb : Below w.heap.size w W) => listF (n : Int) (mkN (2 ^ n) (dualP n (setF xs).testBit)) W hmk (hT.below hb)
  have hfl : famL 64 (mkN (2 ^ n) (dualP n (setF xs).testBit)).testBit = famL (2 ^ n) (dualP n (setF xs).testBit) := by
    rw [famL_wide (two64 h6) fun i hi => bit_lt (mkN_lt _ _) hi]
    exact famL_congr fun i hi => by rw [mkN_bit]; simp [hi]
  rw [hfl] at HL
  generalize setF xs = F at *
  generalize dualP n F.testBit = p at *
  generalize famL (2 ^ n) p = l at *
  generalize mkN (2 ^ n) p = MK at *
  generalize 2 ^ n = N at *
  clear hfl hmk hs hT H h6 hF
  go_enter Tryd.func30, Tryd.ntmps30
  go_wp2_with fail
  have HB0 := hid ((Below.refl w.heap.size w).alloc (Nat.le_refl _) (.cells #[.int .i64 n] 3))
  have Bn0 := hid (Blk.new w 3 #[.int .i64 n])
  refine (HR1.out _ HB0.out).mono ?_; rintro e w1 ⟨rfl, b1⟩
  have HB1 := hid (below_call HB0.out b1 HB0.out.size)
  have Bn1 := hid (Bn0.out.keep b1)
  clear b1
  go_wp2_with fail
  have HB2 := hid (HB1.out.alloc HB1.out.size (.cells #[.int .i64 n, .int .u64 F] 72))
  have Bn2 := hid (Bn1.out.alloc (.cells #[.int .i64 n, .int .u64 F] 72))
  have Bf2 := hid (Blk.new w1 72 #[.int .i64 n, .int .u64 F])
  refine (HK.out _ _ (HP.out _ _ _ Bf2.out Bn2.out)).mono ?_
  rintro e w5 ⟨rfl, b5⟩
  have HB6 := hid (below_call HB2.out b5 HB2.out.size)
  clear b5
  go_wp2_with fail
  refine (HL.out _ HB6.out).mono ?_
  rintro e w6 ⟨A', c', rfl, ho, b6⟩
  have HB7 := hid (below_call HB6.out b6 HB6.out.size)
  have HO := hid (own_more ho HB6.out.size)
  clear b6 ho
  go_wp2
  go_ret2
  exact ⟨_, _, _, rfl, HO.out, HB7.out⟩
set_option maxRecDepth 100000 in
set_option maxHeartbeats 2000000 in
theorem dualNo (n : Int) (A : Option Addr) (m c : Nat) (xs : List Int) (w : World) (hs : Sl w A m c (xs.map (Value.int .i64))) (hT : Tab w) (H : ¬ Fam n xs) :
    Calls Tryd.prog 30 #[.int .i64 n, .slice A m c] w fun e w' => e = .returned (.tuple #[.slice none 0 0, .int .i64 2]) ∧ Below w.heap.size w w' := by
  have HB0 := hid ((Below.refl w.heap.size w).alloc (Nat.le_refl _) (.cells #[.int .i64 n] 3))
  have HRD := hid (readNo n A m c xs _ (hs.below HB0.out) (hT.below HB0.out) H)
  clear hs hT H
  go_enter Tryd.func30, Tryd.ntmps30
  go_wp2_with fail
  refine (HRD.out).mono ?_; rintro e w1 ⟨⟨G, rfl⟩, hb1⟩
  have HB1 := hid (below_call HB0.out hb1 HB0.out.size)
  clear hb1
  go_wp2
  go_ret2
  exact ⟨rfl, HB1.out.alloc HB1.out.size _⟩
set_option maxRecDepth 100000 in
set_option maxHeartbeats 2000000 in
theorem refDual (n : Nat) (A : Option Addr) (m c : Nat) (xs : List Int) (w : World) (hs : Sl w A m c (xs.map (Value.int .i64))) (H : Fam n xs) :
    Calls Tryd.prog 32 #[.int .i64 n, .slice A m c] w fun e w' => ∃ A' c' l, e = .returned (.slice A' l c') ∧ w'.ownsRow w.heap.size 3 1 (.slice A' l c') l ((famL (2 ^ n) (dualP n (setF xs).testBit)).map (Value.int .i64)) ∧ Below w.heap.size w w' := by
  have h6 := H.n6n
  have h64 := two6 h6
  have hp := p2_nat n
  have FN : Fits (n : Int) := ⟨by omega, by omega⟩
  have HTB := hid (tableF n A m c xs w hs h6 fun x hx => H.nlt hx)
  have HFL := hid fun s (_ : s < 2 ^ n) => flip_lt n s
  have HFI := hid fun (s : Nat) (hs : s < 2 ^ n) => (show p2 (n : Int) - 1 - (s : Int) = ((flip n s : Nat) : Int) from by unfold flip; omega)
  have HE2 := hid hp
  have hpb : 1 ≤ p2 (n : Int) ∧ p2 (n : Int) ≤ 64 := by have := Nat.two_pow_pos n; omega
  obtain ⟨q, hq0⟩ : ∃ q, (setF xs).testBit = q := ⟨_, rfl⟩
  rw [hq0] at HTB ⊢
  obtain ⟨p, hp0⟩ : ∃ p, dualP n q = p := ⟨_, rfl⟩
  have HD := hid (show ∀ s, p s = !q (flip n s) from fun s => by rw [← hp0]; rfl)
  rw [hp0]
  clear hp0 hq0
  generalize 2 ^ n = N at *
  clear hs H hp h6
  go_enter Tryd.func32, Tryd.ntmps32
  go_wp2_with fail
  refine (HTB.out).mono ?_; rintro e w1 ⟨rfl, bt, b1⟩
  have HB1 := hid b1
  have HBt := hid fun W (hW : Below w1.heap.size w1 W) => bt.keep hW
  have lt1 := bt.lt
  clear b1 bt
  go_wp2
  go_loopg [6, 13] N (fun gk v i wr => ∃ d : Nat, gk + d = N ∧ i = .int .i64 d ∧ (∃ A c, v = .slice A (famL d p).length c ∧ Hid (wr.ownsRow w1.heap.size 3 1 (.slice A (famL d p).length c) (famL d p).length ((famL d p).map (Value.int .i64)))) ∧ Hid (Below w1.heap.size w1 wr))
  case atStart => exact ⟨0, by omega, rfl, ⟨none, 0, rfl, hid (World.ownsRow_nil _ _ _ _)⟩, hid (Below.refl _ _)⟩
  case round =>
    obtain ⟨d, hd, rfl, ⟨A3, c3, rfl, hO⟩, HW⟩ := hrel
    have HDD := hid hd
    have hz := HW.out.size
    have hz0 := Nat.le_refl w1.heap.size
    have hz1 := hz
    by_cases hlt : d < N
    · have HLT1 := hid hlt
      have g1 : decide ((d : Int) < p2 (n : Int)) = true := decide_eq_true (by rw [HE2.out]; omega)
      have hfi := HFI.out d hlt
      have hfl := HFL.out d hlt
      have fs := (HBt.out wr HW.out).cell (flip n d)
      rw [barr_get hfl] at fs
      have hdn := HD.out d
      have hln := famL_len d p
      have hk64 : (famL d p).length ≤ 64 := by omega
      have HF := hid (famL_succ d p)
      have hdp : (d : Int) < p2 (n : Int) := by rw [HE2.out]; omega
      have hflz : flip n d < 64 := by omega
      have hflI : ((flip n d : Nat) : Int) < N := by omega
      generalize flip n d = f at *
      clear hd hln
      cases hq : q f
      · rw [hq] at fs hdn
        simp only [Bool.not_false] at hdn
        rw [hdn] at HF
        simp only [if_true] at HF
        clear hq hdn
        go_wp2_with (at_builtin; refine push1 TI22 wr #[.int .i64 (d : Int)] _ _ _ _ hO.out _ _ rfl rfl rfl rfl rfl (by simp [Value.oneCell']) (by omega) (by omega) hz1 ?_; intro v1 w3 hown1 hgr; have hb1 : Below w1.heap.size w1 w3 := below_push HW.out hO.out hgr hz hz0; obtain ⟨A1, c1, rfl⟩ := own_form hown1; have HO3 := hid hown1; have HB3 := hid hb1; clear hown1 hgr hb1)
        go_roundg (gk - 1)
        case measure => have := HDD.out; have := HLT1.out; omega
        case rel =>
          have hl2 : (famL (d + 1) p).length = (famL d p).length + 1 := by rw [HF.out]; simp
          refine ⟨d + 1, by have := HDD.out; have := HLT1.out; omega, by go_num, ⟨A1, c1, by rw [hl2], ?_⟩, HB3⟩
          rw [hl2, HF.out]
          exact hid (by simpa using HO3.out)
      · rw [hq] at fs hdn
        simp only [Bool.not_true] at hdn
        rw [hdn] at HF
        simp only [Bool.false_eq_true, if_false, List.append_nil] at HF
        clear hq hdn
        go_wp2
        go_roundg (gk - 1)
        case measure => have := HDD.out; have := HLT1.out; omega
        case rel => exact ⟨d + 1, by have := HDD.out; have := HLT1.out; omega, by go_num, ⟨A3, c3, by rw [HF.out], by rw [HF.out]; exact hO⟩, HW⟩
    · obtain rfl : d = N := by have := HDD.out; omega
      have g1 : decide ((d : Int) < p2 (n : Int)) = false := decide_eq_false (by rw [HE2.out]; omega)
      clear hd
      go_wp2
      go_ret
      exact ⟨A3, c3, _, rfl, own_more hO.out HB1.out.size, below_call HB1.out HW.out HB1.out.size⟩
end Go.Proofs.YtjddbglbodkihaaDoor
