/- Walks of evade.Plan and Check. Conditions: the slices read as numbers and nodes; the table of the library stands. -/
import Derived.Test.YtjddbglbodkihaaDoorPlanW
import Derived.Test.YtjddbglbodkihaaDoorIsPlan
import Derived.Test.YtjddbglbodkihaaDoorAskP
namespace Go.Proofs.YtjddbglbodkihaaDoor
open Go.RowKit Go.Maps
attribute [local go_sem ↓] shl_p2 shl_u or_u shr_u and_shrF shr_v and_shr andNot_v and_nn or_i

set_option maxRecDepth 100000 in
set_option maxHeartbeats 2000000 in
theorem planYes (n : Nat) (A : Option Addr) (m c : Nat) (xs : List Int) (w : World) (hs : Sl w A m c (xs.map (Value.int .i64))) (hT : Tab w) (H : Fam n xs) :
    Calls Tryd.prog 36 #[.int .i64 n, .slice A m c] w fun e w' => ∃ A' c', e = .returned (.tuple #[.slice A' (planL n (setF xs) 0 0 0).length c', .int .i64 0]) ∧ w'.ownsRow w.heap.size 94 3 (.slice A' (planL n (setF xs) 0 0 0).length c') (planL n (setF xs) 0 0 0).length (flatN (planL n (setF xs) 0 0 0)) ∧ Below w.heap.size w w' := by
  have h6 : n ≤ 6 := by have := H.n6; omega
  have h64 := two6 h6
  have HRD := hid (readYes n A m c xs w hs hT H)
  have HA := hid fun W => askerF n (setF xs) W
  have hF := fam64 h6 H.lt
  have HP := hid fun s M1 M2 (W : World) (h1 : s < W.heap.size) (h2 : M1 < W.heap.size) (h3 : M2 < W.heap.size) (hW : AS W s n (setF xs) M1 M2 (bestN n (setF xs).testBit)) => planS W.heap.size s n (setF xs) M1 M2 h6 hF ⟨h1, h2, h3⟩ (un n 0) 0 0 W (.slice none 0 0) 0 [] rfl (View.zero n) rfl (by rw [un_none]; omega) hW (Nat.le_refl _) (World.ownsRow_nil _ _ _ _)
  clear hs hT H h6 hF h64
  generalize setF xs = F at *
  go_enter Tryd.func36, Tryd.ntmps36
  go_wp2_with fail
  refine (HRD.out).mono ?_; rintro e w1 ⟨rfl, hb1⟩
  have HB1 := hid hb1
  clear hb1
  go_wp2_with fail
  have HB2 := hid (HB1.out.alloc HB1.out.size (.cells #[.int .i64 n, .int .u64 F] 72))
  refine (HA.out _).mono ?_; rintro e w2 ⟨⟨s, M1, M2, rfl, g0, g1, g2, has⟩, hb2⟩
  have HB3 := hid (below_call HB2.out hb2 HB2.out.size)
  have GG : Hid (w.heap.size ≤ M1 ∧ w.heap.size ≤ M2) := hid (by have := HB2.out.size; exact ⟨by omega, by omega⟩)
  have HX := hid has
  clear hb2 has g0 g1 g2
  go_wp2_with fail
  refine (HP.out s M1 M2 _ HX.out.lt.1 HX.out.lt.2.1 HX.out.lt.2.2 HX.out).mono ?_; rintro e w3 ⟨t', rfl, ho, -, hc, -⟩
  obtain ⟨A', c', rfl⟩ := own_form ho
  have HB4 := hid (Chg.below HB3.out hc HB3.out.size fun i hi => by
    rcases hi with (hi | hi) | hi
    · have := GG.out.1; omega
    · have := GG.out.2; omega
    · cases hi)
  have HO := hid (own_more ho HB3.out.size)
  clear ho hc
  simp only [Nat.zero_add] at HO
  go_wp2
  go_ret2
  exact ⟨A', c', by simp, HO.out, HB4.out⟩
set_option maxRecDepth 100000 in
set_option maxHeartbeats 2000000 in
theorem planNo (n : Int) (A : Option Addr) (m c : Nat) (xs : List Int) (w : World) (hs : Sl w A m c (xs.map (Value.int .i64))) (hT : Tab w) (H : ¬ Fam n xs) :
    Calls Tryd.prog 36 #[.int .i64 n, .slice A m c] w fun e w' => e = .returned (.tuple #[.slice none 0 0, .int .i64 2]) ∧ Below w.heap.size w w' := by
  have HRD := hid (readNo n A m c xs w hs hT H)
  clear hs hT H
  go_enter Tryd.func36, Tryd.ntmps36
  go_wp2_with fail
  refine (HRD.out).mono ?_; rintro e w1 ⟨⟨G, rfl⟩, hb1⟩
  have HB1 := hid hb1
  clear hb1
  go_wp2
  go_ret2
  exact ⟨rfl, HB1.out.alloc HB1.out.size _⟩
set_option maxRecDepth 100000 in
set_option maxHeartbeats 2000000 in
theorem checkNo (n : Int) (A : Option Addr) (m c : Nat) (xs : List Int) (T : Option Addr) (L k : Nat) (w : World) (hs : Sl w A m c (xs.map (Value.int .i64))) (hT : Tab w) (H : ¬ Fam n xs) :
    Calls Tryd.prog 37 #[.int .i64 n, .slice A m c, .slice T L k] w fun e w' => e = .returned (.tuple #[.int .i64 0, .bool false, .int .i64 2]) ∧ Below w.heap.size w w' := by
  have HRD := hid (readNo n A m c xs w hs hT H)
  clear hs hT H
  go_enter Tryd.func37, Tryd.ntmps37
  go_wp2_with fail
  refine (HRD.out).mono ?_; rintro e w1 ⟨⟨G, rfl⟩, hb1⟩
  have HB1 := hid hb1
  clear hb1
  go_wp2
  go_ret3
  exact ⟨rfl, HB1.out.alloc HB1.out.size _⟩
set_option maxRecDepth 100000 in
set_option maxHeartbeats 2000000 in
theorem checkBad (n : Nat) (A : Option Addr) (m c : Nat) (xs : List Int) (T : Option Addr) (L k : Nat) (ts : List Nd) (w : World) (hs : Sl w A m c (xs.map (Value.int .i64))) (ht : Sl3 w T L k ts) (hT : Tab w) (H : Fam n xs) (hp : ¬ okP n ts) :
    Calls Tryd.prog 37 #[.int .i64 n, .slice A m c, .slice T L k] w fun e w' => e = .returned (.tuple #[.int .i64 0, .bool false, .int .i64 0]) ∧ Below w.heap.size w w' := by
  have HRD := hid (readYes n A m c xs w hs hT H)
  have HIP := hid fun W (hb : Below w.heap.size w W) => isPlanF n (setF xs) T L k ts W (ht.below hb) false (by constructor <;> intro h; cases h; exact absurd h hp)
  generalize setF xs = F at *
  clear hs hT H ht hp
  go_enter Tryd.func37, Tryd.ntmps37
  go_wp2_with fail
  refine (HRD.out).mono ?_; rintro e w1 ⟨rfl, hb1⟩
  have HB1 := hid hb1
  clear hb1
  go_wp2_with fail
  have HB2 := hid (HB1.out.alloc HB1.out.size (.cells #[.int .i64 n, .int .u64 F] 72))
  refine (HIP.out _ HB2.out).mono ?_; rintro e w2 ⟨rfl, hb2⟩
  have HB3 := hid (below_call HB2.out hb2 HB2.out.size)
  clear hb2
  go_wp2
  go_ret3
  exact ⟨rfl, HB3.out⟩
set_option maxRecDepth 100000 in
set_option maxHeartbeats 2000000 in
theorem checkYes (n : Nat) (A : Option Addr) (m c : Nat) (xs : List Int) (T : Option Addr) (L k : Nat) (ts : List Nd) (w : World) (hs : Sl w A m c (xs.map (Value.int .i64))) (ht : Sl3 w T L k ts) (hT : Tab w) (H : Fam n xs) (hp : okP n ts) (l : Nat) (b : Bool) (hl : lenN n (setF xs) ts (firstN ts) 0 0 = (l, b)) :
    Calls Tryd.prog 37 #[.int .i64 n, .slice A m c, .slice T L k] w fun e w' => e = .returned (.tuple #[.int .i64 (if b = true then l else 0 : Nat), .bool b, .int .i64 0]) ∧ Below w.heap.size w w' := by
  have h6 : n ≤ 6 := by have := H.n6; omega
  have hF := fam64 h6 H.lt
  have hlen := ht.len
  have HRD := hid (readYes n A m c xs w hs hT H)
  have HIP := hid fun W (hb : Below w.heap.size w W) => isPlanF n (setF xs) T L k ts W (ht.below hb) true ⟨fun _ => hp, fun _ => rfl⟩
  have hfo : atOk L (firstN ts) := by
    unfold atOk firstN
    rw [hlen]
    by_cases h : L = 0
    · rw [if_pos h]; exact .inl rfl
    · rw [if_neg h]; exact .inr (by omega)
  have HLN := hid fun W (hb : Below w.heap.size w W) => lenS n (setF xs) T L k ts h6 hF (fun j u hu => by have := hp.2 j u hu; rwa [hlen] at this) (un n 0) (firstN ts) 0 0 W rfl (View.zero n) hfo (ht.below hb)
  rw [hl] at HLN
  have HFI : Hid (firstN ts = if L = 0 then -1 else 0) := hid (by unfold firstN; rw [hlen])
  have hle := ht.len_le
  rw [HFI.out] at HLN
  generalize setF xs = F at *
  clear hs hT H ht hp hl hfo hF h6 hlen
  by_cases h0 : L = 0
  · subst h0
    simp only [if_true] at HLN
    cases b
    · go_enter Tryd.func37, Tryd.ntmps37
      go_wp2_with fail
      refine (HRD.out).mono ?_; rintro e w1 ⟨rfl, hb1⟩
      have HB1 := hid hb1
      clear hb1
      go_wp2_with fail
      have HB2 := hid (HB1.out.alloc HB1.out.size (.cells #[.int .i64 n, .int .u64 F] 72))
      refine (HIP.out _ HB2.out).mono ?_; rintro e w2 ⟨rfl, hb2⟩
      have HB3 := hid (below_call HB2.out hb2 HB2.out.size)
      have HF3 := hid ((Blk.new w1 72 #[.int .i64 n, .int .u64 F]).keep hb2)
      have f0 := HF3.out.cell 0; have f1 := HF3.out.cell 1
      simp only [List.getElem?_toArray, List.getElem?_cons_zero, List.getElem?_cons_succ] at f0 f1
      clear hb2
      go_wp2_with fail
      refine (HLN.out _ HB3.out).mono ?_; rintro e w3 ⟨rfl, hb3⟩
      have HB4 := hid (below_call HB3.out hb3 HB3.out.size)
      clear hb3
      go_wp2
      go_ret3
      exact ⟨rfl, HB4.out⟩
    · go_enter Tryd.func37, Tryd.ntmps37
      go_wp2_with fail
      refine (HRD.out).mono ?_; rintro e w1 ⟨rfl, hb1⟩
      have HB1 := hid hb1
      clear hb1
      go_wp2_with fail
      have HB2 := hid (HB1.out.alloc HB1.out.size (.cells #[.int .i64 n, .int .u64 F] 72))
      refine (HIP.out _ HB2.out).mono ?_; rintro e w2 ⟨rfl, hb2⟩
      have HB3 := hid (below_call HB2.out hb2 HB2.out.size)
      have HF3 := hid ((Blk.new w1 72 #[.int .i64 n, .int .u64 F]).keep hb2)
      have f0 := HF3.out.cell 0; have f1 := HF3.out.cell 1
      simp only [List.getElem?_toArray, List.getElem?_cons_zero, List.getElem?_cons_succ] at f0 f1
      clear hb2
      go_wp2_with fail
      refine (HLN.out _ HB3.out).mono ?_; rintro e w3 ⟨rfl, hb3⟩
      have HB4 := hid (below_call HB3.out hb3 HB3.out.size)
      clear hb3
      go_wp2
      go_ret3
      exact ⟨rfl, HB4.out⟩
  · have g0 : ((L : Int) == 0) = false := by rw [beq_eq_false_iff_ne]; omega
    have g0n : (L == 0) = false := by rw [beq_eq_false_iff_ne]; exact h0
    rw [if_neg h0] at HLN
    cases b
    · go_enter Tryd.func37, Tryd.ntmps37
      go_wp2_with fail
      refine (HRD.out).mono ?_; rintro e w1 ⟨rfl, hb1⟩
      have HB1 := hid hb1
      clear hb1
      go_wp2_with fail
      have HB2 := hid (HB1.out.alloc HB1.out.size (.cells #[.int .i64 n, .int .u64 F] 72))
      refine (HIP.out _ HB2.out).mono ?_; rintro e w2 ⟨rfl, hb2⟩
      have HB3 := hid (below_call HB2.out hb2 HB2.out.size)
      have HF3 := hid ((Blk.new w1 72 #[.int .i64 n, .int .u64 F]).keep hb2)
      have f0 := HF3.out.cell 0; have f1 := HF3.out.cell 1
      simp only [List.getElem?_toArray, List.getElem?_cons_zero, List.getElem?_cons_succ] at f0 f1
      clear hb2
      go_wp2_with fail
      refine (HLN.out _ HB3.out).mono ?_; rintro e w3 ⟨rfl, hb3⟩
      have HB4 := hid (below_call HB3.out hb3 HB3.out.size)
      clear hb3
      go_wp2
      go_ret3
      exact ⟨rfl, HB4.out⟩
    · go_enter Tryd.func37, Tryd.ntmps37
      go_wp2_with fail
      refine (HRD.out).mono ?_; rintro e w1 ⟨rfl, hb1⟩
      have HB1 := hid hb1
      clear hb1
      go_wp2_with fail
      have HB2 := hid (HB1.out.alloc HB1.out.size (.cells #[.int .i64 n, .int .u64 F] 72))
      refine (HIP.out _ HB2.out).mono ?_; rintro e w2 ⟨rfl, hb2⟩
      have HB3 := hid (below_call HB2.out hb2 HB2.out.size)
      have HF3 := hid ((Blk.new w1 72 #[.int .i64 n, .int .u64 F]).keep hb2)
      have f0 := HF3.out.cell 0; have f1 := HF3.out.cell 1
      simp only [List.getElem?_toArray, List.getElem?_cons_zero, List.getElem?_cons_succ] at f0 f1
      clear hb2
      go_wp2_with fail
      refine (HLN.out _ HB3.out).mono ?_; rintro e w3 ⟨rfl, hb3⟩
      have HB4 := hid (below_call HB3.out hb3 HB3.out.size)
      clear hb3
      go_wp2
      go_ret3
      exact ⟨rfl, HB4.out⟩
end Go.Proofs.YtjddbglbodkihaaDoor
