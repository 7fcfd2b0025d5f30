/- Walks of evade.Join and the reference's Join. Conditions: the slices read as numbers; the table of the library stands. -/
import Derived.Test.YtjddbglbodkihaaDoorJoinF
import Derived.Test.YtjddbglbodkihaaDoorRefG
namespace Go.Proofs.YtjddbglbodkihaaDoor
open Go.RowKit
attribute [local go_sem ↓] shl_p2 shl_u or_u shr_u and_shrF shr_v and_shr andNot_v and_nn or_i

set_option maxRecDepth 100000 in
set_option maxHeartbeats 2000000 in
theorem joinYes (n m : Nat) (A A2 : Option Addr) (k c k2 c2 : Nat) (xs ys : List Int) (w : World) (hs : Sl w A k c (xs.map (Value.int .i64))) (ht : Sl w A2 k2 c2 (ys.map (Value.int .i64))) (hT : Tab w) (H : Fam n xs) (G : Fam m ys) (hnm : n + m ≤ 6) :
    Calls Tryd.prog 15 #[.int .i64 n, .int .i64 m, .slice A k c, .slice A2 k2 c2] w fun e w' => ∃ A' c' l, e = .returned (.tuple #[.slice A' l c', .int .i64 0]) ∧ w'.ownsRow w.heap.size 3 1 (.slice A' l c') l ((famL (2 ^ (n + m)) (joinP n (setF xs) (setF ys))).map (Value.int .i64)) ∧ Below w.heap.size w w' := by
  have h6 : n ≤ 6 := by omega
  have h6m : m ≤ 6 := by omega
  have hF := fam64 h6 H.lt
  have hG := fam64 h6m G.lt
  have HR1 := hid fun W (hb : Below w.heap.size w W) => readYes n A k c xs W (hs.below hb) (hT.below hb) H
  have HR2 := hid fun W (hb : Below w.heap.size w W) => readYes m A2 k2 c2 ys W (ht.below hb) (hT.below hb) G
  have HJ := hid fun bf bn bg W B1 B2 B3 => (show TellsF W 59 #[.pointer (some ⟨bf, 0, none⟩), .pointer (some ⟨bn, 0, none⟩), .pointer (some ⟨bg, 0, none⟩)] (2 ^ (n + m)) (joinP n (setF xs) (setF ys)) from ⟨fun args W => enters Tryd.func59 (by kernel_rfl) rfl args W, fun s hs W1 hW => join1F bf bn bg n m (setF xs) (setF ys) s W1 h6 hF hG hnm hs (Blk.keep B1 hW) (Blk.keep B2 hW) (Blk.keep B3 hW)⟩)
  have HK := hid fun g lb W hf => keptF (n + m) 0 g lb (joinP n (setF xs) (setF ys)) W hnm hf
  have hmk : mkN (2 ^ (n + m)) (joinP n (setF xs) (setF ys)) < 18446744073709551616 := fam64 hnm (mkN_lt _ _)
  have HL := hid fun W (hb : Below w.heap.size w W) => listF ((n + m : Nat) : Int) (mkN (2 ^ (n + m)) (joinP n (setF xs) (setF ys))) W hmk (hT.below hb)
  have hfl : famL 64 (mkN (2 ^ (n + m)) (joinP n (setF xs) (setF ys))).testBit = famL (2 ^ (n + m)) (joinP n (setF xs) (setF ys)) := by
    rw [famL_wide (two64 hnm) fun i hi => bit_lt (mkN_lt _ _) hi]
    exact famL_congr fun i hi => by rw [mkN_bit]; simp [hi]
  rw [hfl] at HL
  have hcast : ((n + m : Nat) : Int) = (n : Int) + m := by omega
  have q1 : decide (6 < (n : Int) + m) = false := decide_eq_false (by omega)
  have q2 : wrap64 ((n : Int) + m) = (n : Int) + m := by unfold wrap64; omega
  rw [hcast] at HL HK
  generalize setF xs = F at *
  generalize setF ys = F2 at *
  generalize joinP n F F2 = p at *
  generalize famL (2 ^ (n + m)) p = l at *
  generalize mkN (2 ^ (n + m)) p = MK at *
  generalize 2 ^ (n + m) = N at *
  clear hfl hmk hs ht hT H G h6 h6m hF hG
  go_enter Tryd.func15, Tryd.ntmps15
  go_wp2_with fail
  have HB0 := hid ((Below.refl w.heap.size w).alloc (Nat.le_refl _) (.cells #[.int .i64 n] 3))
  have Bn0 := hid (Blk.new w 3 #[.int .i64 n])
  refine (HR1.out _ HB0.out).mono ?_; rintro e w1 ⟨rfl, b1⟩
  have HB1 := hid (below_call HB0.out b1 HB0.out.size)
  have Bn1 := hid (Bn0.out.keep b1)
  clear b1
  go_wp2_with fail
  have HB2 := hid (HB1.out.alloc HB1.out.size (.cells #[.int .i64 n, .int .u64 F] 72))
  have Bf2 := hid (Blk.new w1 72 #[.int .i64 n, .int .u64 F])
  have Bn2 := hid (Bn1.out.alloc (.cells #[.int .i64 n, .int .u64 F] 72))
  refine (HR2.out _ HB2.out).mono ?_; rintro e w2 ⟨rfl, b2⟩
  have HB3 := hid (below_call HB2.out b2 HB2.out.size)
  have Bn3 := hid (Bn2.out.keep b2)
  have Bf3 := hid (Bf2.out.keep b2)
  clear b2
  have d0 := Bn3.out.cell 0
  have lt0 := Bn3.out.lt
  simp only [List.getElem?_toArray, List.getElem?_cons_zero] at d0
  have HB5 := hid ((HB3.out.alloc HB3.out.size (.cells #[.int .i64 m, .int .u64 F2] 72)).alloc (by have := HB3.out.size; simp; omega) (.cells #[.int .i64 ((n : Int) + m), .int .u64 0] 72))
  have Bn5 := hid ((Bn3.out.alloc (.cells #[.int .i64 m, .int .u64 F2] 72)).alloc (.cells #[.int .i64 ((n : Int) + m), .int .u64 0] 72))
  have Bf5 := hid ((Bf3.out.alloc (.cells #[.int .i64 m, .int .u64 F2] 72)).alloc (.cells #[.int .i64 ((n : Int) + m), .int .u64 0] 72))
  have Bg5 := hid ((Blk.new w2 72 #[.int .i64 m, .int .u64 F2]).alloc (.cells #[.int .i64 ((n : Int) + m), .int .u64 0] 72))
  go_wp2_with fail
  refine (HK.out 59 _ _ (HJ.out _ _ _ _ Bf5.out Bn5.out Bg5.out)).mono ?_
  rintro e w5 ⟨rfl, b5⟩
  have HB6 := hid (below_call HB5.out b5 HB5.out.size)
  clear b5
  go_wp2_with fail
  refine (HL.out _ HB6.out).mono ?_
  rintro e w6 ⟨A', c', rfl, ho, b6⟩
  have HB7 := hid (below_call HB6.out b6 HB6.out.size)
  have HO := hid (own_more ho HB6.out.size)
  clear b6 ho
  go_wp2
  go_ret2
  exact ⟨_, _, _, rfl, HO.out, HB7.out⟩

theorem readAny (n : Int) (A : Option Addr) (m c : Nat) (xs : List Int) (w : World) (hs : Sl w A m c (xs.map (Value.int .i64))) (hT : Tab w) :
    Calls Tryd.prog 57 #[.int .i64 n, .slice A m c] w fun e w' => (∃ G : Nat, ∃ b : Bool, e = .returned (.tuple #[.agg #[.int .i64 n, .int .u64 G], .bool b]) ∧ (b = true → Fam n xs)) ∧ Below w.heap.size w w' := by
  by_cases H : Fam n xs
  · obtain ⟨k, rfl⟩ := Int.eq_ofNat_of_zero_le (show 0 ≤ n by have := H.n1; omega)
    exact (readYes k A m c xs w hs hT H).mono fun _ _ h => ⟨⟨_, _, h.1, fun _ => H⟩, h.2⟩
  · exact (readNo n A m c xs w hs hT H).mono fun _ _ h => ⟨⟨h.1.choose, false, h.1.choose_spec, fun e => by cases e⟩, h.2⟩
set_option maxRecDepth 100000 in
set_option maxHeartbeats 2000000 in
theorem joinNo (n m : Int) (A A2 : Option Addr) (k c k2 c2 : Nat) (xs ys : List Int) (w : World) (hs : Sl w A k c (xs.map (Value.int .i64))) (ht : Sl w A2 k2 c2 (ys.map (Value.int .i64))) (hT : Tab w) (H : ¬ (Fam n xs ∧ Fam m ys ∧ n + m ≤ 6)) :
    Calls Tryd.prog 15 #[.int .i64 n, .int .i64 m, .slice A k c, .slice A2 k2 c2] w fun e w' => e = .returned (.tuple #[.slice none 0 0, .int .i64 2]) ∧ Below w.heap.size w w' := by
  have HR1 := hid fun W (hb : Below w.heap.size w W) => readAny n A k c xs W (hs.below hb) (hT.below hb)
  have HR2 := hid fun W (hb : Below w.heap.size w W) => readAny m A2 k2 c2 ys W (ht.below hb) (hT.below hb)
  have HN := hid H
  clear hs ht hT H
  go_enter Tryd.func15, Tryd.ntmps15
  go_wp2_with fail
  have HB0 := hid ((Below.refl w.heap.size w).alloc (Nat.le_refl _) (.cells #[.int .i64 n] 3))
  have Bn0 := hid (Blk.new w 3 #[.int .i64 n])
  refine (HR1.out _ HB0.out).mono ?_; rintro e w1 ⟨⟨G1, b1, rfl, h1⟩, k1⟩
  have HB1 := hid (below_call HB0.out k1 HB0.out.size)
  have Bn1 := hid (Bn0.out.keep k1)
  have HF1 := hid h1
  clear k1 h1
  go_wp2_with fail
  have HB2 := hid (HB1.out.alloc HB1.out.size (.cells #[.int .i64 n, .int .u64 G1] 72))
  have Bn2 := hid (Bn1.out.alloc (.cells #[.int .i64 n, .int .u64 G1] 72))
  refine (HR2.out _ HB2.out).mono ?_; rintro e w2 ⟨⟨G2, b2, rfl, h2⟩, k2⟩
  have HB3 := hid (below_call HB2.out k2 HB2.out.size)
  have Bn3 := hid (Bn2.out.keep k2)
  have HF2 := hid h2
  clear k2 h2
  have d0 := Bn3.out.cell 0
  have lt0 := Bn3.out.lt
  have HB4 := hid (HB3.out.alloc HB3.out.size (.cells #[.int .i64 m, .int .u64 G2] 72))
  simp only [List.getElem?_toArray, List.getElem?_cons_zero] at d0
  cases b1
  · go_wp2
    go_ret2
    exact ⟨rfl, HB4.out⟩
  · cases b2
    · go_wp2
      go_ret2
      exact ⟨rfl, HB4.out⟩
    · have f1 := HF1.out rfl
      have f2 := HF2.out rfl
      have q1 : decide (6 < n + m) = true := decide_eq_true (by have := HN.out; by_cases h : n + m ≤ 6; exact absurd ⟨f1, f2, h⟩ this; omega)
      have q2 : 2 ≤ n + m ∧ n + m ≤ 12 := by have := f1.n1; have := f1.n6; have := f2.n1; have := f2.n6; omega
      clear f1 f2
      go_wp2
      go_ret2
      exact ⟨rfl, HB4.out⟩

def shlV (u : Nat) (n : Int) : Nat := u <<< n.toNat
def ShlF (u : Nat) (n : Int) : Prop := u < 64 ∧ 0 ≤ n ∧ n ≤ 6
theorem shlV_lt {u : Nat} {n : Int} (h : ShlF u n) : shlV u n < 4096 := by
  unfold shlV
  rw [Nat.shiftLeft_eq]
  have h1 := two6 (show n.toNat ≤ 6 by have := h.2.2; omega)
  have := h.1
  calc u * 2 ^ n.toNat ≤ 63 * 64 := Nat.mul_le_mul (by omega) h1
    _ < 4096 := by decide
theorem shl_v {yk : IntKind} {u : Nat} {n : Int} (h : ShlF u n) : Op.shift .shl .i64 (u : Int) yk n = pure (.int .i64 (shlV u n : Nat)) := by
  have hb := shlV_lt h
  rw [shift_shl .i64 yk _ n h.2.1 (by have := h.2.2; simp only [IntKind.bits]; omega)]
  have e : (u : Int) * 2 ^ n.toNat = (shlV u n : Nat) := by unfold shlV; rw [Nat.shiftLeft_eq]; simp
  rw [e]
  show pure (Value.int .i64 (IntKind.i64.wrap (shlV u n : Nat))) = _
  rw [IntWalk.i64_in _ (by omega)]
def orN (a b : Nat) : Nat := a ||| b
theorem or_nn {a b : Nat} (h : AndF a b) : Op.intBits .or .i64 (a : Int) (b : Int) = pure (.int .i64 ((orN a b : Nat) : Int)) := by
  show pure (Value.int .i64 (bits .or .i64 (a : Int) (b : Int))) = _
  rw [i64_or _ _ (by have := h.1; omega) (by have := h.2; omega)]
  rfl
attribute [local go_sem ↓] shl_v or_nn
/-- What the reference's Join has marked. -/
def joinU (n : Nat) (x : Int) (g : List Int) (s : Nat) : Bool := g.any fun u => (x.toNat ||| (u.toNat <<< n)) == s
theorem joinR_snoc (n : Nat) (f g : List Int) (x : Int) (s : Nat) : joinR n (f ++ [x]) g s = (joinR n f g s || joinU n x g s) := by simp [joinR, joinU, List.any_append]
theorem joinU_snoc (n : Nat) (x : Int) (g : List Int) (u : Int) (s : Nat) : joinU n x (g ++ [u]) s = (joinU n x g s || ((x.toNat ||| (u.toNat <<< n)) == s)) := by simp [joinU, List.any_append]
set_option maxRecDepth 100000 in
set_option maxHeartbeats 2000000 in
theorem refJoin (n m : Nat) (A A2 : Option Addr) (k c k2 c2 : Nat) (xs ys : List Int) (w : World) (hs : Sl w A k c (xs.map (Value.int .i64))) (ht : Sl w A2 k2 c2 (ys.map (Value.int .i64))) (H : Fam n xs) (G : Fam m ys) (hnm : n + m ≤ 6) :
    Calls Tryd.prog 20 #[.int .i64 n, .int .i64 m, .slice A k c, .slice A2 k2 c2] w fun e w' => ∃ A' c' l, e = .returned (.slice A' l c') ∧ w'.ownsRow w.heap.size 3 1 (.slice A' l c') l ((famL (2 ^ (n + m)) (joinP n (setF xs) (setF ys))).map (Value.int .i64)) ∧ Below w.heap.size w w' := by
  have hl := hs.numlen
  have hl2 := ht.numlen
  have hle := hs.len_le
  have hle2 := ht.len_le
  have hcast : ((n + m : Nat) : Int) = (n : Int) + m := by omega
  have FN : Fits ((n : Int) + m) := ⟨by omega, by omega⟩
  have q0 : 0 ≤ (n : Int) + m ∧ (n : Int) + m ≤ 6 := by omega
  have hN64 := two6 hnm
  have HR := hid fun j (hj : j < k) => H.nlt (at0_mem (by omega : j < xs.length))
  have HR2 := hid fun j (hj : j < k2) => G.nlt (at0_mem (by omega : j < ys.length))
  have HLT := hid fun x u (hx : x < 2 ^ n) (hu : u < 2 ^ m) => join_lt hx hu
  have HP := fun s => join_ref (f := xs) (g := ys) (fun x hx => H.nlt hx) (fun x hx => (G.nlt hx).1) s
  have hn6 : n ≤ 6 := by omega
  have hm6 : m ≤ 6 := by omega
  have H6 := hid (And.intro (two6 hn6) (two6 hm6))
  obtain ⟨N, hN⟩ : ∃ N, 2 ^ (n + m) = N := ⟨_, rfl⟩
  have hmk : ∀ W : World, (Instr.makeSlice 77 (.int .i64 (p2 ((n : Int) + m))) (.int .i64 (p2 ((n : Int) + m)))).run Tryd.prog W = .ok (.slice (some ⟨W.heap.size, 0, none⟩) N N) (W.alloc (.cells (barr N fun _ => false) 4)) := by
    have := make77p hnm hN
    rw [hcast] at this
    exact this
  rw [hN] at HLT hN64 ⊢
  obtain ⟨l, hfl⟩ : ∃ l, famL N (joinP n (setF xs) (setF ys)) = l := ⟨_, rfl⟩
  have HPL := hid (show famL N (joinR n xs ys) = l from by rw [← hfl]; exact famL_congr fun s _ => HP s)
  rw [hfl]
  clear HP hfl
  have HS := hid hs; have HT2 := hid ht
  have HLX := hid hl; have HLY := hid hl2
  clear H G hs ht hl hl2 hN
  go_enter Tryd.func20, Tryd.ntmps20
  go_wp2
  go_loopg [21] k (fun gk i wr => ∃ d : Nat, gk + d = k ∧ i = .int .i64 d ∧ Hid (Blk wr w.heap.size 4 (barr N (joinR n (xs.take d) ys))) ∧ Hid (Below w.heap.size w wr))
  case atStart =>
    refine ⟨0, by omega, rfl, hid ?_, hid ((Below.refl _ _).alloc (Nat.le_refl _) _)⟩
    have e : barr N (joinR n (xs.take 0) ys) = barr N fun _ => false := barr_congr fun j _ => by simp [joinR]
    rw [e]; exact Blk.new w 4 _
  case round =>
    obtain ⟨d, hd, rfl, HB, HW⟩ := hrel
    have HD := hid hd
    by_cases hlt : d < k
    · have HLT1 := hid hlt
      obtain ⟨b, o, rfl, lb, _, c1⟩ := HS.out.num hlt
      have hz := HW.out.size
      have c1' := (HW.out.cell (p := ⟨b, o + d, none⟩) lb).trans c1
      have lb' : b < wr.heap.size := by omega
      obtain ⟨x, hx⟩ := Int.eq_ofNat_of_zero_le (HR.out d hlt).1
      have hxN : x < 2 ^ n := by have := (HR.out d hlt).2; omega
      have HX := hid (And.intro hx hxN)
      rw [hx] at c1'
      clear c1 lb hxN
      have HGK : Hid (gk - 1 < gk) := hid (by omega)
      go_wp2
      go_loopg [27] k2 (fun gj i wr => ∃ j : Nat, gj + j = k2 ∧ i = .int .i64 j ∧ Hid (Blk wr w.heap.size 4 (barr N fun s => joinR n (xs.take d) ys s || joinU n x (ys.take j) s)) ∧ Hid (Below w.heap.size w wr))
      case atStart =>
        refine ⟨0, by omega, rfl, hid ?_, HW⟩
        have e : barr N (fun s => joinR n (xs.take d) ys s || joinU n x (ys.take 0) s) = barr N (joinR n (xs.take d) ys) := barr_congr fun j _ => by simp [joinU]
        rw [e]; exact HB.out
      case round =>
        obtain ⟨j, hj, rfl, HB1, HW1⟩ := hrel
        have HJ := hid hj
        by_cases hlt2 : j < k2
        · have HLT2 := hid hlt2
          obtain ⟨b2, o2, rfl, lb2, _, c2⟩ := HT2.out.num hlt2
          have c2' := (HW1.out.cell (p := ⟨b2, o2 + j, none⟩) lb2).trans c2
          have hz1 := HW1.out.size
          have lb2' : b2 < wr.heap.size := by omega
          obtain ⟨u, hu⟩ := Int.eq_ofNat_of_zero_le (HR2.out j hlt2).1
          have huM : u < 2 ^ m := by have := (HR2.out j hlt2).2; omega
          have HU := hid hu
          rw [hu] at c2'
          have hq : orN x (shlV u n) < N := HLT.out x u HX.out.2 huM
          have S1 : ShlF u (n : Int) := ⟨by have := H6.out; omega, by omega, by omega⟩
          have A1 : AndF x (shlV u n) := ⟨by have := H6.out; have := HX.out; omega, by have := shlV_lt S1; omega⟩
          have hyj : ys[j]? = some (u : Int) := by
            have hb : j < ys.length := by have := HLY.out; omega
            have e : ys[j]? = some ys[j] := List.getElem?_eq_getElem hb
            rw [e]; congr 1; rw [← hu]; exact (at0_get e).symm
          obtain ⟨q, hqe⟩ : ∃ q, orN x (shlV u n) = q := ⟨_, rfl⟩
          have or1 := or_nn A1
          rw [hqe] at hq or1
          have fz := HB1.out.free q
          have fs := HB1.out.cell q
          rw [barr_get hq] at fs
          have HN := hid (show Blk (wr.setCell ⟨w.heap.size, q, none⟩ (.bool true)) w.heap.size 4 (barr N fun s => joinR n (xs.take d) ys s || joinU n x (ys.take (j + 1)) s) from by
            have h := HB1.out.set q (.bool true)
            rw [barr_set (g := fun s => joinR n (xs.take d) ys s || joinU n x (ys.take (j + 1)) s) (fun s _ => by
              rw [List.take_add_one, hyj]
              show (_ || joinU n x (ys.take j ++ [(u : Int)]) s) = _
              rw [joinU_snoc]
              have e2 : ((x : Int).toNat ||| ((u : Int).toNat <<< n)) = q := by rw [← hqe]; rfl
              rw [e2]
              by_cases e : s = q
              · subst e; simp
              · have e3 : (q == s) = false := beq_eq_false_iff_ne.2 fun a => e a.symm
                rw [e3]; simp [e])] at h
            exact h)
          have HW2 := hid (HW1.out.setCell (p := ⟨w.heap.size, q, none⟩) (by simp) (.bool true))
          have hq2 : (q : Int) < N := by omega
          clear hyj A1 hqe c2 lb2 hu huM hj
          go_wp2
          go_roundg (gk - 1)
          case measure => have := HJ.out; have := HLT2.out; omega
          case rel => exact ⟨j + 1, by have := HJ.out; have := HLT2.out; omega, by go_num, HN, HW2⟩
        · obtain rfl : j = k2 := by have := HJ.out; omega
          have hxd : xs[d]? = some (x : Int) := by
            have hb : d < xs.length := by have := HLX.out; have := HLT1.out; omega
            have e : xs[d]? = some xs[d] := List.getElem?_eq_getElem hb
            rw [e]; congr 1; rw [← HX.out.1]; exact (at0_get e).symm
          have HN := hid (show Blk wr w.heap.size 4 (barr N (joinR n (xs.take (d + 1)) ys)) from by
            have h := HB1.out
            rw [List.take_of_length_le (show ys.length ≤ j by have := HLY.out; omega)] at h
            have e : barr N (joinR n (xs.take (d + 1)) ys) = barr N (fun s => joinR n (xs.take d) ys s || joinU n x ys s) := barr_congr fun s _ => by
              rw [List.take_add_one, hxd]
              exact joinR_snoc _ _ _ _ _
            rw [e]; exact h)
          clear hxd hj
          go_wp2
          go_roundg (k - d - 1)
          case measure => have := HD.out; have := HLT1.out; omega
          case rel => exact ⟨d + 1, by have := HD.out; have := HLT1.out; omega, by go_num, HN, HW1⟩
    · obtain rfl : d = k := by have := HD.out; omega
      have e : xs.take d = xs := List.take_of_length_le (by have := HLX.out; omega)
      rw [e] at HB
      have HLR := hid (listR w.heap.size N (joinR n xs ys) wr hN64 HB.out)
      rw [HPL.out] at HLR
      clear e
      have hz := HW.out.size
      go_wp2_with fail
      refine (HLR.out).mono ?_
      rintro e w6 ⟨A', c', rfl, ho, b6⟩
      have HB7 := hid (below_call HW.out b6 hz)
      have HO := hid (own_more ho hz)
      clear b6 ho
      go_wp2
      go_ret
      exact ⟨_, _, _, rfl, HO.out, HB7.out⟩
end Go.Proofs.YtjddbglbodkihaaDoor
