/- Walks of evade.Join and its word. Conditions: the slices read as numbers; the table of the library stands. -/
import Derived.Test.YtjddbglbodkihaaDoorReadP
import Derived.Test.YtjddbglbodkihaaDoorKept
import Derived.Test.YtjddbglbodkihaaDoorSettle
import Derived.Deep.RegionHeld3
import Derived.Test.YtjddbglbodkihaaDoorProdM
namespace Go.Proofs.YtjddbglbodkihaaDoor
open Go.RowKit

section
variable {P : Program} {ops : Array Oper} {Q : Exit → Act → World → Prop} {md : Region.Mode} {S : World → Prop}
/-- An operation taken first, its temporary named. -/
theorem takeD {i : Nat} {oi : Oper} {v : Value} {fuel : Nat} {listed : Array Bool} {a : Act} {w : World} (d : Option Tmp) (hi : ops[i]? = some oi) (hd : oi.dst = d)
    (hs : Region.noSelect ops = true) (hf : Region.free md ops listed i = true) (hr : (Region.ready md ops listed).contains i = true)
    (hQ : ∀ c a w, Q (.panic c) (a.put d v) w → Q (.panic c) a w) (hy : YieldsIf P ops S oi v a) (hS : S w)
    (h : wpAnyH P md ops Q S fuel (listed.setIfInBounds i true) (a.put d v) w) : wpAnyH P md ops Q S (fuel + 1) listed a w := by
  subst hd
  exact wpAnyH_take hi hs hf hr hQ hy hS h
end
/-- A set's elements below n. -/
def lowN (s n : Nat) : Nat := s &&& (2 ^ n - 1)
def MaskF (s n : Nat) : Prop := s < 1152921504606846976 ∧ n ≤ 6
theorem mask_v {s n : Nat} (h : MaskF s n) : bits .and .i64 (s : Int) (IntKind.i64.wrap (p2 (n : Int) - 1)) = (lowN s n : Nat) := by
  have h1 := two6 h.2
  have h2 := Nat.one_le_two_pow (n := n)
  rw [p2_nat, show ((2 ^ n : Nat) : Int) - 1 = ((2 ^ n - 1 : Nat) : Int) by omega, wrap_nat (by omega), i64_and _ _ (by have := h.1; omega) (by omega)]
  rfl
attribute [local go_sem ↓] shl_p2 shl_u or_u shr_u and_shrF shr_v and_shr andNot_v and_nn or_i

set_option maxRecDepth 100000 in
set_option maxHeartbeats 2000000 in
theorem join1F (bf bn bg n m F G s : Nat) (w : World) (hn : n ≤ 6) (hF : F < 18446744073709551616) (hG : G < 18446744073709551616) (hnm : n + m ≤ 6) (hs : s < 2 ^ (n + m)) (Bf : Blk w bf 72 #[.int .i64 n, .int .u64 F]) (Bn : Blk w bn 3 #[.int .i64 n]) (Bg : Blk w bg 72 #[.int .i64 m, .int .u64 G]) :
    Calls Tryd.prog 59 #[.int .i64 s, .pointer (some ⟨bf, 0, none⟩), .pointer (some ⟨bn, 0, none⟩), .pointer (some ⟨bg, 0, none⟩)] w fun e w' => e = .returned (.bool (joinP n F G s)) ∧ Below w.heap.size w w' := by
  have h64 := two6 hnm
  have hpb := p2_nat n
  have hp1 := Nat.one_le_two_pow (n := n)
  have hp6 := two6 hn
  have hp : 1 ≤ p2 (n : Int) ∧ p2 (n : Int) ≤ 64 := by omega
  have FN : Fits (n : Int) := ⟨by omega, by omega⟩
  have HMK := hid (mask_v (s := s) (n := n) ⟨by omega, hn⟩)
  have hlow : lowN s n < 64 := by have := low_lt n s; unfold lowN; omega
  have hsv : shrV (s : Int) (n : Int) = ((s >>> n : Nat) : Int) := by
    unfold shrV; rw [high_div]; simp
  have hhi0 : s >>> n < 64 := by have := high_lt hs; have := two6 (show m ≤ 6 by omega); omega
  obtain ⟨hi, hhi⟩ : ∃ hi, s >>> n = hi := ⟨_, rfl⟩
  rw [hhi] at hsv hhi0
  have H1 := hid fun W => hasF n F (lowN s n : Nat) W ⟨hF, by omega, by omega⟩
  have H2 := hid fun W => hasF m G (hi : Nat) W ⟨hG, by omega, by omega⟩
  simp only [Int.toNat_natCast] at H1 H2
  have hJ : joinP n F G s = (F.testBit (lowN s n) && G.testBit (s >>> n)) := rfl
  rw [hJ, hhi]
  have c0 := Bf.cell 0; have c1 := Bf.cell 1; have d0 := Bn.cell 0; have e0 := Bg.cell 0; have e1 := Bg.cell 1
  simp only [List.getElem?_toArray, List.getElem?_cons_zero, List.getElem?_cons_succ] at c0 c1 d0 e0 e1
  have HF1 := hid Bf; have HN1 := hid Bn; have HG1 := hid Bg
  have HSV := hid hsv
  clear hhi
  clear hpb hp1 hp6 h64 hs hJ Bf Bn Bg
  have KP := hid (show ∀ w1, Below w.drew.heap.size w.drew w1 → (w1.cell? ⟨bf, 0, none⟩ = some (.int .i64 n) ∧ w1.cell? ⟨bf, 1, none⟩ = some (.int .u64 F) ∧ w1.cell? ⟨bn, 0, none⟩ = some (.int .i64 n) ∧ w1.cell? ⟨bg, 0, none⟩ = some (.int .i64 m) ∧ w1.cell? ⟨bg, 1, none⟩ = some (.int .u64 G)) from fun w1 b => ⟨cell_keep b c0, cell_keep b c1, cell_keep b d0, cell_keep b e0, cell_keep b e1⟩)
  have KQ := hid (show ∀ w1 w2, Below w1.heap.size w1 w2 → (w1.cell? ⟨bf, 0, none⟩ = some (.int .i64 n) ∧ w1.cell? ⟨bf, 1, none⟩ = some (.int .u64 F) ∧ w1.cell? ⟨bn, 0, none⟩ = some (.int .i64 n) ∧ w1.cell? ⟨bg, 0, none⟩ = some (.int .i64 m) ∧ w1.cell? ⟨bg, 1, none⟩ = some (.int .u64 G)) → (w2.cell? ⟨bf, 0, none⟩ = some (.int .i64 n) ∧ w2.cell? ⟨bf, 1, none⟩ = some (.int .u64 F) ∧ w2.cell? ⟨bn, 0, none⟩ = some (.int .i64 n) ∧ w2.cell? ⟨bg, 0, none⟩ = some (.int .i64 m) ∧ w2.cell? ⟨bg, 1, none⟩ = some (.int .u64 G)) from fun w1 w2 b h => ⟨cell_keep b h.1, cell_keep b h.2.1, cell_keep b h.2.2.1, cell_keep b h.2.2.2.1, cell_keep b h.2.2.2.2⟩)
  cases hb1 : F.testBit (lowN s n)
  · rw [hb1] at H1
    clear hb1
    rw [Bool.false_and]
    go_enter Tryd.func59, Tryd.ntmps59
    go_wp2_with fail
    refine wp_region_held_drew (S := (fun w' => w'.cell? ⟨bf, 0, none⟩ = some (.int .i64 n) ∧ w'.cell? ⟨bf, 1, none⟩ = some (.int .u64 F) ∧ w'.cell? ⟨bn, 0, none⟩ = some (.int .i64 n) ∧ w'.cell? ⟨bg, 0, none⟩ = some (.int .i64 m) ∧ w'.cell? ⟨bg, 1, none⟩ = some (.int .u64 G))) (by kernel_rfl) (by (try dsimp only); (first | assumption | exact ⟨c0, c1, d0, e0, e1⟩ | go_keep)) (fun hHeld => ?_)
    refine takeD (i := 0) (v := ?_) (some 6) rfl rfl (by kernel_rfl) (by kernel_rfl) (by kernel_rfl) (fun _ _ _ h => h) (Or.inl ⟨by rfl, ?_⟩) (by assumption) ?_
    rotate_left
    · intro w hSw
      (try dsimp only at hSw)
      first
        | (go_simp; done)
        | (go_simp; with_reducible rfl)
    try simp only [Act.put, List.setIfInBounds_toArray, List.set_cons_zero, List.set_cons_succ]
    refine takeD (i := 1) (v := ?_) (some 7) rfl rfl (by kernel_rfl) (by kernel_rfl) (by kernel_rfl) (fun _ _ _ h => h) (Or.inl ⟨by rfl, ?_⟩) (by assumption) ?_
    rotate_left
    · intro w hSw
      (try dsimp only at hSw)
      first
        | (go_simp; done)
        | (go_simp; with_reducible rfl)
    try simp only [Act.put, List.setIfInBounds_toArray, List.set_cons_zero, List.set_cons_succ]
    refine takeD (i := 2) (v := ?_) (some 8) rfl rfl (by kernel_rfl) (by kernel_rfl) (by kernel_rfl) (fun _ _ _ h => h) (Or.inl ⟨by rfl, ?_⟩) (by assumption) ?_
    rotate_left
    · intro w hSw
      (try dsimp only at hSw)
      first
        | (go_simp; done)
        | (go_simp; with_reducible rfl)
    try simp only [Act.put, List.setIfInBounds_toArray, List.set_cons_zero, List.set_cons_succ]
    refine takeD (i := 3) (v := ?_) (some 9) rfl rfl (by kernel_rfl) (by kernel_rfl) (by kernel_rfl) (fun _ _ _ h => h) (Or.inl ⟨by rfl, ?_⟩) (by assumption) ?_
    rotate_left
    · intro w hSw
      (try dsimp only at hSw)
      first
        | (go_simp; done)
        | (go_simp; with_reducible rfl)
    try simp only [Act.put, List.setIfInBounds_toArray, List.set_cons_zero, List.set_cons_succ]
    refine takeD (i := 4) (v := ?_) (some 10) rfl rfl (by kernel_rfl) (by kernel_rfl) (by kernel_rfl) (fun _ _ _ h => h) (Or.inl ⟨by rfl, ?_⟩) (by assumption) ?_
    rotate_left
    · intro w hSw
      (try dsimp only at hSw)
      first
        | (go_simp; done)
        | (go_simp; with_reducible rfl)
    try simp only [Act.put, List.setIfInBounds_toArray, List.set_cons_zero, List.set_cons_succ]
    refine takeD (i := 5) (v := ?_) (some 11) rfl rfl (by kernel_rfl) (by kernel_rfl) (by kernel_rfl) (fun _ _ _ h => h) (Or.inl ⟨by rfl, ?_⟩) (by assumption) ?_
    rotate_left
    · intro w hSw
      (try dsimp only at hSw)
      first
        | (go_simp; done)
        | (go_simp; with_reducible rfl)
    try simp only [Act.put, List.setIfInBounds_toArray, List.set_cons_zero, List.set_cons_succ]
    refine wpAnyH_ready (rs := [6]) (by kernel_rfl) (by simp) ?_
    refine AllReadyH.cons rfl (fun K hK => ?_) AllReadyH.nil
    go_simp
    rw [HMK.out]
    refine (H1.out _).mono ?_; rintro e w1 ⟨rfl, b1⟩
    have hk1 := KP.out _ b1
    have BB := hid ((Below.refl w.heap.size w).drew.trans b1)
    clear b1
    refine hK.out _ _ ?_ (fun hHeld => ?_)
    · (try dsimp only)
      (first | assumption | exact ⟨c0, c1, d0, e0, e1⟩ | go_keep)
    clear hK K
    try simp only [Act.put, List.setIfInBounds_toArray, List.set_cons_zero, List.set_cons_succ]
    refine takeD (i := 7) (v := ?_) (some 13) rfl rfl (by kernel_rfl) (by kernel_rfl) (by kernel_rfl) (fun _ _ _ h => h) (Or.inl ⟨by rfl, ?_⟩) (by assumption) ?_
    rotate_left
    · intro w hSw
      (try dsimp only at hSw)
      first
        | (go_simp; done)
        | (go_simp; with_reducible rfl)
    try simp only [Act.put, List.setIfInBounds_toArray, List.set_cons_zero, List.set_cons_succ]
    refine takeD (i := 8) (v := undef) (some 14) rfl rfl (by kernel_rfl) (by kernel_rfl) (by kernel_rfl) (fun _ _ _ h => h) (Or.inr ⟨by rfl, rfl⟩) (by assumption) ?_
    try simp only [Act.put, List.setIfInBounds_toArray, List.set_cons_zero, List.set_cons_succ]
    refine takeD (i := 9) (v := undef) (some 15) rfl rfl (by kernel_rfl) (by kernel_rfl) (by kernel_rfl) (fun _ _ _ h => h) (Or.inr ⟨by rfl, rfl⟩) (by assumption) ?_
    try simp only [Act.put, List.setIfInBounds_toArray, List.set_cons_zero, List.set_cons_succ]
    refine takeD (i := 10) (v := undef) (some 16) rfl rfl (by kernel_rfl) (by kernel_rfl) (by kernel_rfl) (fun _ _ _ h => h) (Or.inr ⟨by rfl, rfl⟩) (by assumption) ?_
    try simp only [Act.put, List.setIfInBounds_toArray, List.set_cons_zero, List.set_cons_succ]
    refine takeD (i := 11) (v := undef) (some 17) rfl rfl (by kernel_rfl) (by kernel_rfl) (by kernel_rfl) (fun _ _ _ h => h) (Or.inr ⟨by rfl, rfl⟩) (by assumption) ?_
    try simp only [Act.put, List.setIfInBounds_toArray, List.set_cons_zero, List.set_cons_succ]
    refine takeD (i := 12) (v := undef) (some 18) rfl rfl (by kernel_rfl) (by kernel_rfl) (by kernel_rfl) (fun _ _ _ h => h) (Or.inr ⟨by rfl, rfl⟩) (by assumption) ?_
    try simp only [Act.put, List.setIfInBounds_toArray, List.set_cons_zero, List.set_cons_succ]
    refine takeD (i := 13) (v := ?_) (some 19) rfl rfl (by kernel_rfl) (by kernel_rfl) (by kernel_rfl) (fun _ _ _ h => h) (Or.inl ⟨by rfl, ?_⟩) (by assumption) ?_
    rotate_left
    · intro w hSw
      (try dsimp only at hSw)
      first
        | (go_simp; done)
        | (go_simp; with_reducible rfl)
    try simp only [Act.put, List.setIfInBounds_toArray, List.set_cons_zero, List.set_cons_succ]
    refine takeD (i := 14) (v := ?_) (some 5) rfl rfl (by kernel_rfl) (by kernel_rfl) (by kernel_rfl) (fun _ _ _ h => h) (Or.inl ⟨by rfl, ?_⟩) (by assumption) ?_
    rotate_left
    · intro w hSw
      (try dsimp only at hSw)
      first
        | (go_simp; done)
        | (go_simp; with_reducible rfl)
    try simp only [Act.put, List.setIfInBounds_toArray, List.set_cons_zero, List.set_cons_succ]
    refine wpAnyH_done (by kernel_rfl) ?_ _
    go_wp2
    go_ret
    exact ⟨rfl, BB.out⟩
  · rw [hb1] at H1
    clear hb1
    rw [Bool.true_and]
    go_enter Tryd.func59, Tryd.ntmps59
    go_wp2_with fail
    refine wp_region_held_drew (S := (fun w' => w'.cell? ⟨bf, 0, none⟩ = some (.int .i64 n) ∧ w'.cell? ⟨bf, 1, none⟩ = some (.int .u64 F) ∧ w'.cell? ⟨bn, 0, none⟩ = some (.int .i64 n) ∧ w'.cell? ⟨bg, 0, none⟩ = some (.int .i64 m) ∧ w'.cell? ⟨bg, 1, none⟩ = some (.int .u64 G))) (by kernel_rfl) (by (try dsimp only); (first | assumption | exact ⟨c0, c1, d0, e0, e1⟩ | go_keep)) (fun hHeld => ?_)
    refine takeD (i := 0) (v := ?_) (some 6) rfl rfl (by kernel_rfl) (by kernel_rfl) (by kernel_rfl) (fun _ _ _ h => h) (Or.inl ⟨by rfl, ?_⟩) (by assumption) ?_
    rotate_left
    · intro w hSw
      (try dsimp only at hSw)
      first
        | (go_simp; done)
        | (go_simp; with_reducible rfl)
    try simp only [Act.put, List.setIfInBounds_toArray, List.set_cons_zero, List.set_cons_succ]
    refine takeD (i := 1) (v := ?_) (some 7) rfl rfl (by kernel_rfl) (by kernel_rfl) (by kernel_rfl) (fun _ _ _ h => h) (Or.inl ⟨by rfl, ?_⟩) (by assumption) ?_
    rotate_left
    · intro w hSw
      (try dsimp only at hSw)
      first
        | (go_simp; done)
        | (go_simp; with_reducible rfl)
    try simp only [Act.put, List.setIfInBounds_toArray, List.set_cons_zero, List.set_cons_succ]
    refine takeD (i := 2) (v := ?_) (some 8) rfl rfl (by kernel_rfl) (by kernel_rfl) (by kernel_rfl) (fun _ _ _ h => h) (Or.inl ⟨by rfl, ?_⟩) (by assumption) ?_
    rotate_left
    · intro w hSw
      (try dsimp only at hSw)
      first
        | (go_simp; done)
        | (go_simp; with_reducible rfl)
    try simp only [Act.put, List.setIfInBounds_toArray, List.set_cons_zero, List.set_cons_succ]
    refine takeD (i := 3) (v := ?_) (some 9) rfl rfl (by kernel_rfl) (by kernel_rfl) (by kernel_rfl) (fun _ _ _ h => h) (Or.inl ⟨by rfl, ?_⟩) (by assumption) ?_
    rotate_left
    · intro w hSw
      (try dsimp only at hSw)
      first
        | (go_simp; done)
        | (go_simp; with_reducible rfl)
    try simp only [Act.put, List.setIfInBounds_toArray, List.set_cons_zero, List.set_cons_succ]
    refine takeD (i := 4) (v := ?_) (some 10) rfl rfl (by kernel_rfl) (by kernel_rfl) (by kernel_rfl) (fun _ _ _ h => h) (Or.inl ⟨by rfl, ?_⟩) (by assumption) ?_
    rotate_left
    · intro w hSw
      (try dsimp only at hSw)
      first
        | (go_simp; done)
        | (go_simp; with_reducible rfl)
    try simp only [Act.put, List.setIfInBounds_toArray, List.set_cons_zero, List.set_cons_succ]
    refine takeD (i := 5) (v := ?_) (some 11) rfl rfl (by kernel_rfl) (by kernel_rfl) (by kernel_rfl) (fun _ _ _ h => h) (Or.inl ⟨by rfl, ?_⟩) (by assumption) ?_
    rotate_left
    · intro w hSw
      (try dsimp only at hSw)
      first
        | (go_simp; done)
        | (go_simp; with_reducible rfl)
    try simp only [Act.put, List.setIfInBounds_toArray, List.set_cons_zero, List.set_cons_succ]
    refine wpAnyH_ready (rs := [6]) (by kernel_rfl) (by simp) ?_
    refine AllReadyH.cons rfl (fun K hK => ?_) AllReadyH.nil
    go_simp
    rw [HMK.out]
    refine (H1.out _).mono ?_; rintro e w1 ⟨rfl, b1⟩
    have hk1 := KP.out _ b1
    have BB := hid ((Below.refl w.heap.size w).drew.trans b1)
    clear b1
    refine hK.out _ _ ?_ (fun hHeld => ?_)
    · (try dsimp only)
      (first | assumption | exact ⟨c0, c1, d0, e0, e1⟩ | go_keep)
    clear hK K
    try simp only [Act.put, List.setIfInBounds_toArray, List.set_cons_zero, List.set_cons_succ]
    refine takeD (i := 7) (v := ?_) (some 13) rfl rfl (by kernel_rfl) (by kernel_rfl) (by kernel_rfl) (fun _ _ _ h => h) (Or.inl ⟨by rfl, ?_⟩) (by assumption) ?_
    rotate_left
    · intro w hSw
      (try dsimp only at hSw)
      first
        | (go_simp; done)
        | (go_simp; with_reducible rfl)
    try simp only [Act.put, List.setIfInBounds_toArray, List.set_cons_zero, List.set_cons_succ]
    refine takeD (i := 8) (v := ?_) (some 14) rfl rfl (by kernel_rfl) (by kernel_rfl) (by kernel_rfl) (fun _ _ _ h => h) (Or.inl ⟨by rfl, ?_⟩) (by assumption) ?_
    rotate_left
    · intro w hSw
      (try dsimp only at hSw)
      first
        | (go_simp; done)
        | (go_simp; with_reducible rfl)
    try simp only [Act.put, List.setIfInBounds_toArray, List.set_cons_zero, List.set_cons_succ]
    refine takeD (i := 9) (v := ?_) (some 15) rfl rfl (by kernel_rfl) (by kernel_rfl) (by kernel_rfl) (fun _ _ _ h => h) (Or.inl ⟨by rfl, ?_⟩) (by assumption) ?_
    rotate_left
    · intro w hSw
      (try dsimp only at hSw)
      first
        | (go_simp; done)
        | (go_simp; with_reducible rfl)
    try simp only [Act.put, List.setIfInBounds_toArray, List.set_cons_zero, List.set_cons_succ]
    refine takeD (i := 10) (v := ?_) (some 16) rfl rfl (by kernel_rfl) (by kernel_rfl) (by kernel_rfl) (fun _ _ _ h => h) (Or.inl ⟨by rfl, ?_⟩) (by assumption) ?_
    rotate_left
    · intro w hSw
      (try dsimp only at hSw)
      first
        | (go_simp; done)
        | (go_simp; with_reducible rfl)
    try simp only [Act.put, List.setIfInBounds_toArray, List.set_cons_zero, List.set_cons_succ]
    refine takeD (i := 11) (v := ?_) (some 17) rfl rfl (by kernel_rfl) (by kernel_rfl) (by kernel_rfl) (fun _ _ _ h => h) (Or.inl ⟨by rfl, ?_⟩) (by assumption) ?_
    rotate_left
    · intro w hSw
      (try dsimp only at hSw)
      first
        | (go_simp; done)
        | (go_simp; with_reducible rfl)
    try simp only [Act.put, List.setIfInBounds_toArray, List.set_cons_zero, List.set_cons_succ]
    refine wpAnyH_ready (rs := [12]) (by kernel_rfl) (by simp) ?_
    refine AllReadyH.cons rfl (fun K hK => ?_) AllReadyH.nil
    go_simp
    refine (H2.out _).mono ?_; rintro e w2 ⟨rfl, b2⟩
    have hk2 := KQ.out _ _ b2 hk1
    have BC := hid (below_call BB.out b2 BB.out.size)
    clear b2
    refine hK.out _ _ ?_ (fun hHeld => ?_)
    · (try dsimp only)
      (first | assumption | exact ⟨c0, c1, d0, e0, e1⟩ | go_keep)
    clear hK K
    try simp only [Act.put, List.setIfInBounds_toArray, List.set_cons_zero, List.set_cons_succ]
    refine takeD (i := 13) (v := ?_) (some 19) rfl rfl (by kernel_rfl) (by kernel_rfl) (by kernel_rfl) (fun _ _ _ h => h) (Or.inl ⟨by rfl, ?_⟩) (by assumption) ?_
    rotate_left
    · intro w hSw
      (try dsimp only at hSw)
      first
        | (go_simp; done)
        | (go_simp; with_reducible rfl)
    try simp only [Act.put, List.setIfInBounds_toArray, List.set_cons_zero, List.set_cons_succ]
    refine takeD (i := 14) (v := ?_) (some 5) rfl rfl (by kernel_rfl) (by kernel_rfl) (by kernel_rfl) (fun _ _ _ h => h) (Or.inl ⟨by rfl, ?_⟩) (by assumption) ?_
    rotate_left
    · intro w hSw
      (try dsimp only at hSw)
      first
        | (go_simp; done)
        | (go_simp; with_reducible rfl)
    try simp only [Act.put, List.setIfInBounds_toArray, List.set_cons_zero, List.set_cons_succ]
    refine wpAnyH_done (by kernel_rfl) ?_ _
    go_wp2
    go_ret
    exact ⟨rfl, BC.out⟩
end Go.Proofs.YtjddbglbodkihaaDoor
