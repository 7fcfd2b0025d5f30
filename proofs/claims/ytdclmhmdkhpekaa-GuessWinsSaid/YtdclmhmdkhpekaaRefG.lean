/- Walk of the reference's good, from what its win does with one question less. Conditions: a state of numbers that sum to at most 60, a question for it. -/
import Derived.Test.YtdclmhmdkhpekaaNextW
import Derived.Test.YtdclmhmdkhpekaaWinPub
import Derived.Test.YtdclmhmdkhpekaaGrowQ
import Derived.BigQuiet
namespace Go.Proofs.Ytdclmhmdkhpekaa
open Go.RowKit

/-- A state of n levels that the reference looks at. -/
structure St (n : Nat) (xs : List Int) : Prop where
  len : xs.length = n
  nn : Nn xs
  sum : total xs ≤ 60
section
variable {n : Nat} {xs : List Int}
theorem St.at0 (h : St n xs) (j : Nat) : 0 ≤ at0 xs j ∧ at0 xs j ≤ 60 := by
  by_cases hj : j < xs.length
  · have h1 := h.nn.nn j hj
    have h2 := at0_le_total h.nn.nn hj
    have := h.sum
    omega
  · have : Ytdclmhmdkhpekaa.at0 xs j = 0 := by simp [Ytdclmhmdkhpekaa.at0, List.getD, show xs.length ≤ j by omega]
    omega
theorem St.bd (h : St n xs) : ∀ x ∈ xs, 0 ≤ x ∧ x ≤ 1000 := by
  intro x hx
  obtain ⟨j, _, rfl⟩ := mem_at0 hx
  have := h.at0 j
  omega
theorem St.hi (h : St n xs) : 1 ≤ n ∧ n ≤ 4 := by rw [← h.len]; exact ⟨h.nn.lo, h.nn.hi⟩
theorem St.after (h : St n xs) {s : List Int} (hs : askOk xs s = true) (yes : Bool) : St n (after yes xs s) := by
  refine ⟨by rw [after_len]; exact h.len, h.nn.after hs yes, ?_⟩
  rw [total_after h.nn.lo]
  have := inA_nonneg (yes := !yes) hs (show xs.length - 1 < xs.length by have := h.nn.lo; omega)
  have := h.sum
  omega
end
/-- What the table says of a key. -/
def OKr (n : Nat) (k : Int) (b : Bool) : Prop := ∃ (q : Nat) (xs : List Int), St n xs ∧ q ≤ 20 ∧ k = keyN xs q ∧ b = winS q xs
theorem key_ge {n : Nat} {xs : List Int} (h : St n xs) (q : Nat) : ((q : Int) + 1) * 61 ^ n ≤ keyN xs q ∧ keyN xs q < ((q : Int) + 2) * 61 ^ n := by
  unfold keyN
  rw [h.len]
  exact keyP_bd (fun j => h.at0 j) q n h.hi.2
theorem pow61 {n : Nat} (h : n ≤ 4) : (1 : Int) ≤ 61 ^ n ∧ (61 : Int) ^ n ≤ 13845841 := by
  obtain rfl | rfl | rfl | rfl | rfl : n = 0 ∨ n = 1 ∨ n = 2 ∨ n = 3 ∨ n = 4 := by omega
  all_goals decide
theorem bounds_r (n : Nat) : Bounds (OKr n) := by
  rintro k b ⟨q, xs, h, hq, rfl, rfl⟩
  have h1 := key_ge h q
  have h2 := pow61 h.hi.2
  have hk : (kMax : Int) = 305000000 := rfl
  generalize (61 : Int) ^ n = p at h1 h2
  have h3 : ((q : Int) + 1) * p ≥ p := by
    have := Int.mul_le_mul_of_nonneg_right (show (1 : Int) ≤ (q : Int) + 1 by omega) (show 0 ≤ p by omega)
    omega
  have h4 : ((q : Int) + 2) * p ≤ 22 * p := Int.mul_le_mul_of_nonneg_right (by omega) (by omega)
  omega
theorem OKr.eq {n : Nat} {xs : List Int} {q : Nat} {b : Bool} (h : St n xs) (ho : OKr n (keyN xs q) b) : b = winS q xs := by
  obtain ⟨r, ys, hy, _, hk, rfl⟩ := ho
  unfold keyN at hk
  rw [h.len, hy.len] at hk
  obtain ⟨h1, h2⟩ := keyP_inj (fun j => h.at0 j) (fun j => hy.at0 j) n hk
  have h1 : q = r := by omega
  subst h1
  have : xs = ys := by
    apply List.ext_getElem (by rw [h.len, hy.len])
    intro j hj hj'
    have := h2 j (by rw [← h.len]; exact hj)
    simpa [at0, hj, hj'] using this
  rw [this]
/-- What a call leaves: a table with more keys, of no more questions than q. -/
def Aft (n : Nat) (W w' : World) (mb g1 g2 : Nat) (L : List Int) (q : Nat) : Prop := ∃ g1' g2' L', Tab (OKr n) w' mb g1' g2' L' ∧ Step W w' mb g1 g2 g1' g2' ∧ ∀ k, k ∈ L' → k ∈ L ∨ k < ((q : Int) + 2) * 61 ^ n
def WinR (n q : Nat) : Prop := ∀ (mb g1 g2 : Nat) (L : List Int) (A : Option Addr) (c : Nat) (xs : List Int) (W : World), St n xs → SlT W mb g1 g2 A n c xs → Tab (OKr n) W mb g1 g2 L →
  Calls Try.prog 60 #[.pointer (some ⟨mb, 0, none⟩), .slice A n c, .int .i64 q] W fun e w' => e = .returned (.bool (winS q xs)) ∧ Aft n W w' mb g1 g2 L q
def GoodR (n q : Nat) : Prop := ∀ (mb g1 g2 : Nat) (L : List Int) (A B : Option Addr) (c d : Nat) (xs s : List Int) (W : World), St n xs → askOk xs s = true → SlT W mb g1 g2 A n c xs → Sl W B n d (s.map (Value.int .i64)) → Tab (OKr n) W mb g1 g2 L →
  Calls Try.prog 76 #[.pointer (some ⟨mb, 0, none⟩), .slice A n c, .slice B n d, .int .i64 ((q : Int) + 1)] W fun e w' => e = .returned (.bool (goodQ (winS q) q xs s)) ∧ Aft n W w' mb g1 g2 L q
section
variable {OK : Int → Bool → Prop} {w w' : World} {mb g1 g2 : Nat} {L : List Int}
theorem Tab.keep (h : Tab OK w mb g1 g2 L) (hb : Below w.heap.size w w') : Tab OK w' mb g1 g2 L := by
  obtain ⟨N, ks, ws, h⟩ := h
  exact ⟨N, ks, ws, h.keep hb⟩
theorem Tab.drewN (h : Tab OK w mb g1 g2 L) (k : Nat) : Tab OK (w.drewN k) mb g1 g2 L := by
  obtain ⟨N, ks, ws, h⟩ := h
  exact ⟨N, ks, ws, h.drewN k⟩
theorem Tab.lt (h : Tab OK w mb g1 g2 L) : mb < w.heap.size ∧ g1 < w.heap.size ∧ g2 < w.heap.size := by
  obtain ⟨N, ks, ws, h⟩ := h
  exact ⟨h.bm.lt, h.bk.lt, h.bw.lt⟩
theorem Aft.same {n q : Nat} {W : World} (h : Tab (OKr n) w' mb g1 g2 L) (hs : Step W w' mb g1 g2 g1 g2) : Aft n W w' mb g1 g2 L q := ⟨g1, g2, L, h, hs, fun _ h => .inl h⟩
theorem Aft.mono {n q r : Nat} {W : World} (hqr : q ≤ r) (h : Aft n W w' mb g1 g2 L q) : Aft n W w' mb g1 g2 L r := by
  obtain ⟨a, b, M, h1, h2, h3⟩ := h
  refine ⟨a, b, M, h1, h2, fun k hk => (h3 k hk).imp_right fun h => ?_⟩
  have hp : (0 : Int) ≤ 61 ^ n := Int.pow_nonneg (by decide)
  have := Int.mul_le_mul_of_nonneg_right (show (q : Int) + 2 ≤ (r : Int) + 2 by omega) hp
  omega
theorem Aft.trans {n q : Nat} {W : World} {g1' g2' : Nat} {L' : List Int} (hs : Step W w mb g1 g2 g1' g2') (hm : ∀ k, k ∈ L' → k ∈ L ∨ k < ((q : Int) + 2) * 61 ^ n) (h : Aft n w w' mb g1' g2' L' q) : Aft n W w' mb g1 g2 L q := by
  obtain ⟨a, b, M, h1, h2, h3⟩ := h
  exact ⟨a, b, M, h1, hs.trans h2, fun k hk => (h3 k hk).elim (hm k) .inr⟩
end
theorem SlT.new {w : World} {base mb g1 g2 n c : Nat} {A : Option Addr} {xs : List Int} {e : TypeId} (h : w.ownsRow base e 1 (.slice A n c) n (xs.map (Value.int .i64))) (h0 : 1 ≤ n) (hb : mb < base ∧ g1 < base ∧ g2 < base) : SlT w mb g1 g2 A n c xs := by
  refine ⟨Sl.of_own h, fun a ha => ?_⟩
  subst ha
  obtain ⟨g, hg, _⟩ := own_some h h0
  have hlt := h.lt g (by rw [hg]; rfl)
  injection hg with hg
  subst hg
  exact ⟨hlt.2, by have := hlt.1; simp; omega, by have := hlt.1; simp; omega, by have := hlt.1; simp; omega⟩

attribute [local go_sem ↓] shl_p2

set_option maxRecDepth 100000 in
set_option maxHeartbeats 4000000 in
theorem goodS (n q : Nat) (hq : q ≤ 19) (HW : WinR n q) : GoodR n q := by
  intro mb g1 g2 L A B c d xs s W hx hs sx ss ht
  have hn := hx.hi
  have HRA := hid fun yes W' (hb : Below W.heap.size W W') => refAfter A B n c d xs s yes 1000 (by omega) (by omega) hn.1 hn.2 hx.bd hs W' (sx.sl.below hb) (ss.below hb)
  have sa := hx.after hs true
  have sb := hx.after hs false
  have HWA := hid fun A' c' W' (h : Sl W' A' n c' ((after true xs s).map (Value.int .i64))) => refWeight A' n c' _ (q : Int) (by omega) (by omega) hn.2 sa.bd W' h
  have HWB := hid fun A' c' W' (h : Sl W' A' n c' ((after false xs s).map (Value.int .i64))) => refWeight A' n c' _ (q : Int) (by omega) (by omega) hn.2 sb.bd W' h
  have HVA := hid fun A' c' g1 g2 L W' (h : SlT W' mb g1 g2 A' n c' (after true xs s)) (ht : Tab (OKr n) W' mb g1 g2 L) => HW mb g1 g2 L A' c' _ W' sa h ht
  have HVB := hid fun A' c' g1 g2 L W' (h : SlT W' mb g1 g2 A' n c' (after false xs s)) (ht : Tab (OKr n) W' mb g1 g2 L) => HW mb g1 g2 L A' c' _ W' sb h ht
  have FQ : Fits (q : Int) := ⟨by omega, by omega⟩
  have qb : (q : Int) ≤ 19 := by omega
  have HT := hid ht
  have HG := hid (show goodQ (winS q) q xs s = (decide (weight (after true xs s) q ≤ p2 q) && decide (weight (after false xs s) q ≤ p2 q) && winS q (after true xs s) && winS q (after false xs s)) from rfl)
  clear ht hs hx sx ss sa sb
  go_enter Try.func76, Try.ntmps76
  go_wp2_with fail
  refine (HRA.out true W (Below.refl _ _)).mono ?_; rintro e w1 ⟨A1, c1, rfl, o1, b1⟩
  have lt := hid HT.out.lt
  have S1 := hid (SlT.new (mb := mb) (g1 := g1) (g2 := g2) o1 hn.1 lt.out)
  have T1 := hid (HT.out.keep b1)
  have B1 := hid b1
  clear o1 b1
  go_wp2_with fail
  refine (HRA.out false w1 B1.out).mono ?_; rintro e w2 ⟨A2, c2, rfl, o2, b2⟩
  have S2 := hid (SlT.new (mb := mb) (g1 := g1) (g2 := g2) o2 hn.1 T1.out.lt)
  have S1 := hid (S1.out.keep b2)
  have T2 := hid (T1.out.keep b2)
  have B2 := hid (below_call B1.out b2 B1.out.size)
  clear o2 b2 T1 B1
  go_wp2_with fail
  have hs1 : IntKind.i64.wrap ((q : Int) + 1 - 1) = (q : Int) := by rw [IntKind.wrap_i64]; omega
  have hs2 : IntKind.i64.wrap (q : Int) = (q : Int) := by rw [IntKind.wrap_i64]; omega
  have FQ2 : Fits ((q : Int) + 1 - 1) := by have : (q : Int) + 1 - 1 = q := by omega
                                            rw [this]; exact FQ
  by_cases hc1 : weight (after true xs s) q ≤ p2 q
  case neg =>
    have d1 : decide (weight (after true xs s) q ≤ p2 q) = false := decide_eq_false hc1
    have HZ := hid (show goodQ (winS q) q xs s = false by rw [HG.out, d1]; rfl)
    have HWa := hid fun m => HWA.out A1 c1 (w2.drewN m) (S1.out.sl.drewN m)
    clear hc1
    go_quiet ((go_at_call 36; with_reducible exact quiet_same (HWa.out _)))
    go_wp2
    go_ret
    exact ⟨ret_b HZ.out, Aft.same (T2.out.drewN _) ((Step.of_below B2.out).drewN _)⟩
  case pos =>
  have d1 : decide (weight (after true xs s) q ≤ p2 q) = true := decide_eq_true hc1
  by_cases hc2 : weight (after false xs s) q ≤ p2 q
  case neg =>
    have d2 : decide (weight (after false xs s) q ≤ p2 q) = false := decide_eq_false hc2
    have HZ := hid (show goodQ (winS q) q xs s = false by rw [HG.out, d1, d2]; rfl)
    have HWa := hid fun m => HWA.out A1 c1 (w2.drewN m) (S1.out.sl.drewN m)
    have HWb := hid fun m => HWB.out A2 c2 (w2.drewN m) (S2.out.sl.drewN m)
    clear hc1 hc2
    go_quiet ((first | (go_at_call 36; with_reducible exact quiet_same (HWa.out _)) | (go_at_call 36; with_reducible exact quiet_same (HWb.out _))))
    go_wp2
    go_ret
    exact ⟨ret_b HZ.out, Aft.same (T2.out.drewN _) ((Step.of_below B2.out).drewN _)⟩
  case pos =>
  have d2 : decide (weight (after false xs s) q ≤ p2 q) = true := decide_eq_true hc2
  have HWa1 := hid (HWA.out A1 c1 w2.drew S1.out.sl.drew)
  have HWb1 := hid (HWB.out A2 c2 w2.drew S2.out.sl.drew)
  have BD := hid (show Step W w2.drew mb g1 g2 g1 g2 from (Step.of_below B2.out).drewN 1)
  have SD1 := hid (show SlT w2.drew mb g1 g2 A1 n c1 (after true xs s) from ⟨S1.out.sl.drew, S1.out.ne⟩)
  have SD2 := hid (show SlT w2.drew mb g1 g2 A2 n c2 (after false xs s) from ⟨S2.out.sl.drew, S2.out.ne⟩)
  have HVa := hid (HVA.out A1 c1 g1 g2 L w2.drew SD1.out (T2.out.drewN 1))
  clear hc1 hc2
  cases ra : winS q (after true xs s) with
  | false =>
    have HZ := hid (show goodQ (winS q) q xs s = false by rw [HG.out, d1, d2, ra]; rfl)
    rw [ra] at HVa
    clear ra
    refine wp_region_held_drew (S := fun _ => True) (by kernel_rfl) trivial (fun hHeld => ?_)
    refine takeD (i := 0) (v := ?_) (some 17) rfl rfl (by kernel_rfl) (by kernel_rfl) (by kernel_rfl) (fun _ _ _ h => h) (Or.inl ⟨by rfl, ?_⟩) (by assumption) ?_
    rotate_left
    · intro w hSw
      (try dsimp only at hSw)
      first
        | (go_simp; done)
        | (go_simp; with_reducible rfl)
    try simp only [Act.put, List.setIfInBounds_toArray, List.set_cons_zero, List.set_cons_succ]
    refine takeD (i := 1) (v := ?_) (some 18) rfl rfl (by kernel_rfl) (by kernel_rfl) (by kernel_rfl) (fun _ _ _ h => h) (Or.inl ⟨by rfl, ?_⟩) (by assumption) ?_
    rotate_left
    · intro w hSw
      (try dsimp only at hSw)
      first
        | (go_simp; done)
        | (go_simp; with_reducible rfl)
    try simp only [Act.put, List.setIfInBounds_toArray, List.set_cons_zero, List.set_cons_succ]
    refine takeD (i := 2) (v := ?_) (some 19) rfl rfl (by kernel_rfl) (by kernel_rfl) (by kernel_rfl) (fun _ _ _ h => h) (Or.inl ⟨by rfl, ?_⟩) (by assumption) ?_
    rotate_left
    · intro w hSw
      (try dsimp only at hSw)
      first
        | (go_simp; done)
        | (go_simp; with_reducible rfl)
    try simp only [Act.put, List.setIfInBounds_toArray, List.set_cons_zero, List.set_cons_succ]
    refine takeD (i := 4) (v := ?_) (some 21) rfl rfl (by kernel_rfl) (by kernel_rfl) (by kernel_rfl) (fun _ _ _ h => h) (Or.inl ⟨by rfl, ?_⟩) (by assumption) ?_
    rotate_left
    · intro w hSw
      (try dsimp only at hSw)
      first
        | (go_simp; done)
        | (go_simp; with_reducible rfl)
    try simp only [Act.put, List.setIfInBounds_toArray, List.set_cons_zero, List.set_cons_succ]
    refine takeD (i := 5) (v := ?_) (some 22) rfl rfl (by kernel_rfl) (by kernel_rfl) (by kernel_rfl) (fun _ _ _ h => h) (Or.inl ⟨by rfl, ?_⟩) (by assumption) ?_
    rotate_left
    · intro w hSw
      (try dsimp only at hSw)
      first
        | (go_simp; done)
        | (go_simp; with_reducible rfl)
    try simp only [Act.put, List.setIfInBounds_toArray, List.set_cons_zero, List.set_cons_succ]
    refine takeD (i := 6) (v := ?_) (some 23) rfl rfl (by kernel_rfl) (by kernel_rfl) (by kernel_rfl) (fun _ _ _ h => h) (Or.inl ⟨by rfl, ?_⟩) (by assumption) ?_
    rotate_left
    · intro w hSw
      (try dsimp only at hSw)
      first
        | (go_simp; done)
        | (go_simp; with_reducible rfl)
    try simp only [Act.put, List.setIfInBounds_toArray, List.set_cons_zero, List.set_cons_succ]
    refine wpAnyH_ready (rs := [3]) (by kernel_rfl) (by simp) ?_
    refine AllReadyH.cons rfl (fun K hK => ?_) AllReadyH.nil
    go_simp
    try rw [hs2]
    refine (HWa1.out).mono ?_; rintro e w4 ⟨rfl, rfl⟩
    refine hK.out _ _ trivial (fun hHeld => ?_)
    clear hK K
    try simp only [Act.put, List.setIfInBounds_toArray, List.set_cons_zero, List.set_cons_succ]
    refine takeD (i := 7) (v := ?_) (some 24) rfl rfl (by kernel_rfl) (by kernel_rfl) (by kernel_rfl) (fun _ _ _ h => h) (Or.inl ⟨by rfl, ?_⟩) (by assumption) ?_
    rotate_left
    · intro w hSw
      (try dsimp only at hSw)
      first
        | (go_simp; done)
        | (go_simp; with_reducible rfl)
    try simp only [Act.put, List.setIfInBounds_toArray, List.set_cons_zero, List.set_cons_succ]
    refine takeD (i := 8) (v := ?_) (some 25) rfl rfl (by kernel_rfl) (by kernel_rfl) (by kernel_rfl) (fun _ _ _ h => h) (Or.inl ⟨by rfl, ?_⟩) (by assumption) ?_
    rotate_left
    · intro w hSw
      (try dsimp only at hSw)
      first
        | (go_simp; done)
        | (go_simp; with_reducible rfl)
    try simp only [Act.put, List.setIfInBounds_toArray, List.set_cons_zero, List.set_cons_succ]
    refine takeD (i := 9) (v := ?_) (some 26) rfl rfl (by kernel_rfl) (by kernel_rfl) (by kernel_rfl) (fun _ _ _ h => h) (Or.inl ⟨by rfl, ?_⟩) (by assumption) ?_
    rotate_left
    · intro w hSw
      (try dsimp only at hSw)
      first
        | (go_simp; done)
        | (go_simp; with_reducible rfl)
    try simp only [Act.put, List.setIfInBounds_toArray, List.set_cons_zero, List.set_cons_succ]
    refine takeD (i := 10) (v := ?_) (some 27) rfl rfl (by kernel_rfl) (by kernel_rfl) (by kernel_rfl) (fun _ _ _ h => h) (Or.inl ⟨by rfl, ?_⟩) (by assumption) ?_
    rotate_left
    · intro w hSw
      (try dsimp only at hSw)
      first
        | (go_simp; done)
        | (go_simp; with_reducible rfl)
    try simp only [Act.put, List.setIfInBounds_toArray, List.set_cons_zero, List.set_cons_succ]
    refine takeD (i := 11) (v := ?_) (some 28) rfl rfl (by kernel_rfl) (by kernel_rfl) (by kernel_rfl) (fun _ _ _ h => h) (Or.inl ⟨by rfl, ?_⟩) (by assumption) ?_
    rotate_left
    · intro w hSw
      (try dsimp only at hSw)
      first
        | (go_simp; done)
        | (go_simp; with_reducible rfl)
    try simp only [Act.put, List.setIfInBounds_toArray, List.set_cons_zero, List.set_cons_succ]
    refine takeD (i := 13) (v := ?_) (some 30) rfl rfl (by kernel_rfl) (by kernel_rfl) (by kernel_rfl) (fun _ _ _ h => h) (Or.inl ⟨by rfl, ?_⟩) (by assumption) ?_
    rotate_left
    · intro w hSw
      (try dsimp only at hSw)
      first
        | (go_simp; done)
        | (go_simp; with_reducible rfl)
    try simp only [Act.put, List.setIfInBounds_toArray, List.set_cons_zero, List.set_cons_succ]
    refine takeD (i := 14) (v := ?_) (some 31) rfl rfl (by kernel_rfl) (by kernel_rfl) (by kernel_rfl) (fun _ _ _ h => h) (Or.inl ⟨by rfl, ?_⟩) (by assumption) ?_
    rotate_left
    · intro w hSw
      (try dsimp only at hSw)
      first
        | (go_simp; done)
        | (go_simp; with_reducible rfl)
    try simp only [Act.put, List.setIfInBounds_toArray, List.set_cons_zero, List.set_cons_succ]
    refine takeD (i := 15) (v := ?_) (some 32) rfl rfl (by kernel_rfl) (by kernel_rfl) (by kernel_rfl) (fun _ _ _ h => h) (Or.inl ⟨by rfl, ?_⟩) (by assumption) ?_
    rotate_left
    · intro w hSw
      (try dsimp only at hSw)
      first
        | (go_simp; done)
        | (go_simp; with_reducible rfl)
    try simp only [Act.put, List.setIfInBounds_toArray, List.set_cons_zero, List.set_cons_succ]
    refine wpAnyH_ready (rs := [12]) (by kernel_rfl) (by simp) ?_
    refine AllReadyH.cons rfl (fun K hK => ?_) AllReadyH.nil
    go_simp
    try rw [hs2]
    refine (HWb1.out).mono ?_; rintro e w4 ⟨rfl, rfl⟩
    refine hK.out _ _ trivial (fun hHeld => ?_)
    clear hK K
    try simp only [Act.put, List.setIfInBounds_toArray, List.set_cons_zero, List.set_cons_succ]
    refine takeD (i := 16) (v := ?_) (some 33) rfl rfl (by kernel_rfl) (by kernel_rfl) (by kernel_rfl) (fun _ _ _ h => h) (Or.inl ⟨by rfl, ?_⟩) (by assumption) ?_
    rotate_left
    · intro w hSw
      (try dsimp only at hSw)
      first
        | (go_simp; done)
        | (go_simp; with_reducible rfl)
    try simp only [Act.put, List.setIfInBounds_toArray, List.set_cons_zero, List.set_cons_succ]
    refine takeD (i := 17) (v := ?_) (some 34) rfl rfl (by kernel_rfl) (by kernel_rfl) (by kernel_rfl) (fun _ _ _ h => h) (Or.inl ⟨by rfl, ?_⟩) (by assumption) ?_
    rotate_left
    · intro w hSw
      (try dsimp only at hSw)
      first
        | (go_simp; done)
        | (go_simp; with_reducible rfl)
    try simp only [Act.put, List.setIfInBounds_toArray, List.set_cons_zero, List.set_cons_succ]
    refine takeD (i := 18) (v := ?_) (some 35) rfl rfl (by kernel_rfl) (by kernel_rfl) (by kernel_rfl) (fun _ _ _ h => h) (Or.inl ⟨by rfl, ?_⟩) (by assumption) ?_
    rotate_left
    · intro w hSw
      (try dsimp only at hSw)
      first
        | (go_simp; done)
        | (go_simp; with_reducible rfl)
    try simp only [Act.put, List.setIfInBounds_toArray, List.set_cons_zero, List.set_cons_succ]
    refine takeD (i := 19) (v := ?_) (some 36) rfl rfl (by kernel_rfl) (by kernel_rfl) (by kernel_rfl) (fun _ _ _ h => h) (Or.inl ⟨by rfl, ?_⟩) (by assumption) ?_
    rotate_left
    · intro w hSw
      (try dsimp only at hSw)
      first
        | (go_simp; done)
        | (go_simp; with_reducible rfl)
    try simp only [Act.put, List.setIfInBounds_toArray, List.set_cons_zero, List.set_cons_succ]
    refine takeD (i := 20) (v := ?_) (some 37) rfl rfl (by kernel_rfl) (by kernel_rfl) (by kernel_rfl) (fun _ _ _ h => h) (Or.inl ⟨by rfl, ?_⟩) (by assumption) ?_
    rotate_left
    · intro w hSw
      (try dsimp only at hSw)
      first
        | (go_simp; done)
        | (go_simp; with_reducible rfl)
    try simp only [Act.put, List.setIfInBounds_toArray, List.set_cons_zero, List.set_cons_succ]
    refine takeD (i := 21) (v := ?_) (some 38) rfl rfl (by kernel_rfl) (by kernel_rfl) (by kernel_rfl) (fun _ _ _ h => h) (Or.inl ⟨by rfl, ?_⟩) (by assumption) ?_
    rotate_left
    · intro w hSw
      (try dsimp only at hSw)
      first
        | (go_simp; done)
        | (go_simp; with_reducible rfl)
    try simp only [Act.put, List.setIfInBounds_toArray, List.set_cons_zero, List.set_cons_succ]
    refine takeD (i := 22) (v := ?_) (some 39) rfl rfl (by kernel_rfl) (by kernel_rfl) (by kernel_rfl) (fun _ _ _ h => h) (Or.inl ⟨by rfl, ?_⟩) (by assumption) ?_
    rotate_left
    · intro w hSw
      (try dsimp only at hSw)
      first
        | (go_simp; done)
        | (go_simp; with_reducible rfl)
    try simp only [Act.put, List.setIfInBounds_toArray, List.set_cons_zero, List.set_cons_succ]
    refine wpAnyH_ready (rs := [23]) (by kernel_rfl) (by simp) ?_
    refine AllReadyH.cons rfl (fun K hK => ?_) AllReadyH.nil
    go_simp
    try rw [hs2]
    refine (HVa.out).mono ?_
    rintro e w4 ⟨rfl, h4, u4, L4, t4, st4, m4⟩
    have T4 := hid t4; have ST4 := hid st4; have M4 := hid m4
    clear t4 st4 m4
    refine hK.out _ _ trivial (fun hHeld => ?_)
    clear hK K
    try simp only [Act.put, List.setIfInBounds_toArray, List.set_cons_zero, List.set_cons_succ]
    refine takeD (i := 24) (v := ?_) (some 41) rfl rfl (by kernel_rfl) (by kernel_rfl) (by kernel_rfl) (fun _ _ _ h => h) (Or.inl ⟨by rfl, ?_⟩) (by assumption) ?_
    rotate_left
    · intro w hSw
      (try dsimp only at hSw)
      first
        | (go_simp; done)
        | (go_simp; with_reducible rfl)
    try simp only [Act.put, List.setIfInBounds_toArray, List.set_cons_zero, List.set_cons_succ]
    refine takeD (i := 25) (v := ?_) (some 42) rfl rfl (by kernel_rfl) (by kernel_rfl) (by kernel_rfl) (fun _ _ _ h => h) (Or.inl ⟨by rfl, ?_⟩) (by assumption) ?_
    rotate_left
    · intro w hSw
      (try dsimp only at hSw)
      first
        | (go_simp; done)
        | (go_simp; with_reducible rfl)
    try simp only [Act.put, List.setIfInBounds_toArray, List.set_cons_zero, List.set_cons_succ]
    refine takeD (i := 26) (v := undef) (some 43) rfl rfl (by kernel_rfl) (by kernel_rfl) (by kernel_rfl) (fun _ _ _ h => h) (Or.inr ⟨by rfl, rfl⟩) (by assumption) ?_
    try simp only [Act.put, List.setIfInBounds_toArray, List.set_cons_zero, List.set_cons_succ]
    refine takeD (i := 27) (v := undef) (some 44) rfl rfl (by kernel_rfl) (by kernel_rfl) (by kernel_rfl) (fun _ _ _ h => h) (Or.inr ⟨by rfl, rfl⟩) (by assumption) ?_
    try simp only [Act.put, List.setIfInBounds_toArray, List.set_cons_zero, List.set_cons_succ]
    refine takeD (i := 28) (v := undef) (some 45) rfl rfl (by kernel_rfl) (by kernel_rfl) (by kernel_rfl) (fun _ _ _ h => h) (Or.inr ⟨by rfl, rfl⟩) (by assumption) ?_
    try simp only [Act.put, List.setIfInBounds_toArray, List.set_cons_zero, List.set_cons_succ]
    refine takeD (i := 29) (v := undef) (some 46) rfl rfl (by kernel_rfl) (by kernel_rfl) (by kernel_rfl) (fun _ _ _ h => h) (Or.inr ⟨by rfl, rfl⟩) (by assumption) ?_
    try simp only [Act.put, List.setIfInBounds_toArray, List.set_cons_zero, List.set_cons_succ]
    refine takeD (i := 30) (v := undef) (some 47) rfl rfl (by kernel_rfl) (by kernel_rfl) (by kernel_rfl) (fun _ _ _ h => h) (Or.inr ⟨by rfl, rfl⟩) (by assumption) ?_
    try simp only [Act.put, List.setIfInBounds_toArray, List.set_cons_zero, List.set_cons_succ]
    refine takeD (i := 31) (v := ?_) (some 48) rfl rfl (by kernel_rfl) (by kernel_rfl) (by kernel_rfl) (fun _ _ _ h => h) (Or.inl ⟨by rfl, ?_⟩) (by assumption) ?_
    rotate_left
    · intro w hSw
      (try dsimp only at hSw)
      first
        | (go_simp; done)
        | (go_simp; with_reducible rfl)
    try simp only [Act.put, List.setIfInBounds_toArray, List.set_cons_zero, List.set_cons_succ]
    refine takeD (i := 32) (v := ?_) (some 8) rfl rfl (by kernel_rfl) (by kernel_rfl) (by kernel_rfl) (fun _ _ _ h => h) (Or.inl ⟨by rfl, ?_⟩) (by assumption) ?_
    rotate_left
    · intro w hSw
      (try dsimp only at hSw)
      first
        | (go_simp; done)
        | (go_simp; with_reducible rfl)
    try simp only [Act.put, List.setIfInBounds_toArray, List.set_cons_zero, List.set_cons_succ]
    refine wpAnyH_done (by kernel_rfl) ?_ _
    all_goals go_wp2
    all_goals go_ret
    all_goals exact ⟨ret_b HZ.out, _, _, _, T4.out, BD.out.trans ST4.out, M4.out⟩
  | true =>
    have HZ := hid (show goodQ (winS q) q xs s = winS q (after false xs s) by rw [HG.out, d1, d2, ra]; rfl)
    rw [ra] at HVa
    clear ra
    generalize winS q (after false xs s) = rb at *
    refine wp_region_held_drew (S := fun _ => True) (by kernel_rfl) trivial (fun hHeld => ?_)
    refine takeD (i := 0) (v := ?_) (some 17) rfl rfl (by kernel_rfl) (by kernel_rfl) (by kernel_rfl) (fun _ _ _ h => h) (Or.inl ⟨by rfl, ?_⟩) (by assumption) ?_
    rotate_left
    · intro w hSw
      (try dsimp only at hSw)
      first
        | (go_simp; done)
        | (go_simp; with_reducible rfl)
    try simp only [Act.put, List.setIfInBounds_toArray, List.set_cons_zero, List.set_cons_succ]
    refine takeD (i := 1) (v := ?_) (some 18) rfl rfl (by kernel_rfl) (by kernel_rfl) (by kernel_rfl) (fun _ _ _ h => h) (Or.inl ⟨by rfl, ?_⟩) (by assumption) ?_
    rotate_left
    · intro w hSw
      (try dsimp only at hSw)
      first
        | (go_simp; done)
        | (go_simp; with_reducible rfl)
    try simp only [Act.put, List.setIfInBounds_toArray, List.set_cons_zero, List.set_cons_succ]
    refine takeD (i := 2) (v := ?_) (some 19) rfl rfl (by kernel_rfl) (by kernel_rfl) (by kernel_rfl) (fun _ _ _ h => h) (Or.inl ⟨by rfl, ?_⟩) (by assumption) ?_
    rotate_left
    · intro w hSw
      (try dsimp only at hSw)
      first
        | (go_simp; done)
        | (go_simp; with_reducible rfl)
    try simp only [Act.put, List.setIfInBounds_toArray, List.set_cons_zero, List.set_cons_succ]
    refine takeD (i := 4) (v := ?_) (some 21) rfl rfl (by kernel_rfl) (by kernel_rfl) (by kernel_rfl) (fun _ _ _ h => h) (Or.inl ⟨by rfl, ?_⟩) (by assumption) ?_
    rotate_left
    · intro w hSw
      (try dsimp only at hSw)
      first
        | (go_simp; done)
        | (go_simp; with_reducible rfl)
    try simp only [Act.put, List.setIfInBounds_toArray, List.set_cons_zero, List.set_cons_succ]
    refine takeD (i := 5) (v := ?_) (some 22) rfl rfl (by kernel_rfl) (by kernel_rfl) (by kernel_rfl) (fun _ _ _ h => h) (Or.inl ⟨by rfl, ?_⟩) (by assumption) ?_
    rotate_left
    · intro w hSw
      (try dsimp only at hSw)
      first
        | (go_simp; done)
        | (go_simp; with_reducible rfl)
    try simp only [Act.put, List.setIfInBounds_toArray, List.set_cons_zero, List.set_cons_succ]
    refine takeD (i := 6) (v := ?_) (some 23) rfl rfl (by kernel_rfl) (by kernel_rfl) (by kernel_rfl) (fun _ _ _ h => h) (Or.inl ⟨by rfl, ?_⟩) (by assumption) ?_
    rotate_left
    · intro w hSw
      (try dsimp only at hSw)
      first
        | (go_simp; done)
        | (go_simp; with_reducible rfl)
    try simp only [Act.put, List.setIfInBounds_toArray, List.set_cons_zero, List.set_cons_succ]
    refine wpAnyH_ready (rs := [3]) (by kernel_rfl) (by simp) ?_
    refine AllReadyH.cons rfl (fun K hK => ?_) AllReadyH.nil
    go_simp
    try rw [hs2]
    refine (HWa1.out).mono ?_; rintro e w4 ⟨rfl, rfl⟩
    refine hK.out _ _ trivial (fun hHeld => ?_)
    clear hK K
    try simp only [Act.put, List.setIfInBounds_toArray, List.set_cons_zero, List.set_cons_succ]
    refine takeD (i := 7) (v := ?_) (some 24) rfl rfl (by kernel_rfl) (by kernel_rfl) (by kernel_rfl) (fun _ _ _ h => h) (Or.inl ⟨by rfl, ?_⟩) (by assumption) ?_
    rotate_left
    · intro w hSw
      (try dsimp only at hSw)
      first
        | (go_simp; done)
        | (go_simp; with_reducible rfl)
    try simp only [Act.put, List.setIfInBounds_toArray, List.set_cons_zero, List.set_cons_succ]
    refine takeD (i := 8) (v := ?_) (some 25) rfl rfl (by kernel_rfl) (by kernel_rfl) (by kernel_rfl) (fun _ _ _ h => h) (Or.inl ⟨by rfl, ?_⟩) (by assumption) ?_
    rotate_left
    · intro w hSw
      (try dsimp only at hSw)
      first
        | (go_simp; done)
        | (go_simp; with_reducible rfl)
    try simp only [Act.put, List.setIfInBounds_toArray, List.set_cons_zero, List.set_cons_succ]
    refine takeD (i := 9) (v := ?_) (some 26) rfl rfl (by kernel_rfl) (by kernel_rfl) (by kernel_rfl) (fun _ _ _ h => h) (Or.inl ⟨by rfl, ?_⟩) (by assumption) ?_
    rotate_left
    · intro w hSw
      (try dsimp only at hSw)
      first
        | (go_simp; done)
        | (go_simp; with_reducible rfl)
    try simp only [Act.put, List.setIfInBounds_toArray, List.set_cons_zero, List.set_cons_succ]
    refine takeD (i := 10) (v := ?_) (some 27) rfl rfl (by kernel_rfl) (by kernel_rfl) (by kernel_rfl) (fun _ _ _ h => h) (Or.inl ⟨by rfl, ?_⟩) (by assumption) ?_
    rotate_left
    · intro w hSw
      (try dsimp only at hSw)
      first
        | (go_simp; done)
        | (go_simp; with_reducible rfl)
    try simp only [Act.put, List.setIfInBounds_toArray, List.set_cons_zero, List.set_cons_succ]
    refine takeD (i := 11) (v := ?_) (some 28) rfl rfl (by kernel_rfl) (by kernel_rfl) (by kernel_rfl) (fun _ _ _ h => h) (Or.inl ⟨by rfl, ?_⟩) (by assumption) ?_
    rotate_left
    · intro w hSw
      (try dsimp only at hSw)
      first
        | (go_simp; done)
        | (go_simp; with_reducible rfl)
    try simp only [Act.put, List.setIfInBounds_toArray, List.set_cons_zero, List.set_cons_succ]
    refine takeD (i := 13) (v := ?_) (some 30) rfl rfl (by kernel_rfl) (by kernel_rfl) (by kernel_rfl) (fun _ _ _ h => h) (Or.inl ⟨by rfl, ?_⟩) (by assumption) ?_
    rotate_left
    · intro w hSw
      (try dsimp only at hSw)
      first
        | (go_simp; done)
        | (go_simp; with_reducible rfl)
    try simp only [Act.put, List.setIfInBounds_toArray, List.set_cons_zero, List.set_cons_succ]
    refine takeD (i := 14) (v := ?_) (some 31) rfl rfl (by kernel_rfl) (by kernel_rfl) (by kernel_rfl) (fun _ _ _ h => h) (Or.inl ⟨by rfl, ?_⟩) (by assumption) ?_
    rotate_left
    · intro w hSw
      (try dsimp only at hSw)
      first
        | (go_simp; done)
        | (go_simp; with_reducible rfl)
    try simp only [Act.put, List.setIfInBounds_toArray, List.set_cons_zero, List.set_cons_succ]
    refine takeD (i := 15) (v := ?_) (some 32) rfl rfl (by kernel_rfl) (by kernel_rfl) (by kernel_rfl) (fun _ _ _ h => h) (Or.inl ⟨by rfl, ?_⟩) (by assumption) ?_
    rotate_left
    · intro w hSw
      (try dsimp only at hSw)
      first
        | (go_simp; done)
        | (go_simp; with_reducible rfl)
    try simp only [Act.put, List.setIfInBounds_toArray, List.set_cons_zero, List.set_cons_succ]
    refine wpAnyH_ready (rs := [12]) (by kernel_rfl) (by simp) ?_
    refine AllReadyH.cons rfl (fun K hK => ?_) AllReadyH.nil
    go_simp
    try rw [hs2]
    refine (HWb1.out).mono ?_; rintro e w4 ⟨rfl, rfl⟩
    refine hK.out _ _ trivial (fun hHeld => ?_)
    clear hK K
    try simp only [Act.put, List.setIfInBounds_toArray, List.set_cons_zero, List.set_cons_succ]
    refine takeD (i := 16) (v := ?_) (some 33) rfl rfl (by kernel_rfl) (by kernel_rfl) (by kernel_rfl) (fun _ _ _ h => h) (Or.inl ⟨by rfl, ?_⟩) (by assumption) ?_
    rotate_left
    · intro w hSw
      (try dsimp only at hSw)
      first
        | (go_simp; done)
        | (go_simp; with_reducible rfl)
    try simp only [Act.put, List.setIfInBounds_toArray, List.set_cons_zero, List.set_cons_succ]
    refine takeD (i := 17) (v := ?_) (some 34) rfl rfl (by kernel_rfl) (by kernel_rfl) (by kernel_rfl) (fun _ _ _ h => h) (Or.inl ⟨by rfl, ?_⟩) (by assumption) ?_
    rotate_left
    · intro w hSw
      (try dsimp only at hSw)
      first
        | (go_simp; done)
        | (go_simp; with_reducible rfl)
    try simp only [Act.put, List.setIfInBounds_toArray, List.set_cons_zero, List.set_cons_succ]
    refine takeD (i := 18) (v := ?_) (some 35) rfl rfl (by kernel_rfl) (by kernel_rfl) (by kernel_rfl) (fun _ _ _ h => h) (Or.inl ⟨by rfl, ?_⟩) (by assumption) ?_
    rotate_left
    · intro w hSw
      (try dsimp only at hSw)
      first
        | (go_simp; done)
        | (go_simp; with_reducible rfl)
    try simp only [Act.put, List.setIfInBounds_toArray, List.set_cons_zero, List.set_cons_succ]
    refine takeD (i := 19) (v := ?_) (some 36) rfl rfl (by kernel_rfl) (by kernel_rfl) (by kernel_rfl) (fun _ _ _ h => h) (Or.inl ⟨by rfl, ?_⟩) (by assumption) ?_
    rotate_left
    · intro w hSw
      (try dsimp only at hSw)
      first
        | (go_simp; done)
        | (go_simp; with_reducible rfl)
    try simp only [Act.put, List.setIfInBounds_toArray, List.set_cons_zero, List.set_cons_succ]
    refine takeD (i := 20) (v := ?_) (some 37) rfl rfl (by kernel_rfl) (by kernel_rfl) (by kernel_rfl) (fun _ _ _ h => h) (Or.inl ⟨by rfl, ?_⟩) (by assumption) ?_
    rotate_left
    · intro w hSw
      (try dsimp only at hSw)
      first
        | (go_simp; done)
        | (go_simp; with_reducible rfl)
    try simp only [Act.put, List.setIfInBounds_toArray, List.set_cons_zero, List.set_cons_succ]
    refine takeD (i := 21) (v := ?_) (some 38) rfl rfl (by kernel_rfl) (by kernel_rfl) (by kernel_rfl) (fun _ _ _ h => h) (Or.inl ⟨by rfl, ?_⟩) (by assumption) ?_
    rotate_left
    · intro w hSw
      (try dsimp only at hSw)
      first
        | (go_simp; done)
        | (go_simp; with_reducible rfl)
    try simp only [Act.put, List.setIfInBounds_toArray, List.set_cons_zero, List.set_cons_succ]
    refine takeD (i := 22) (v := ?_) (some 39) rfl rfl (by kernel_rfl) (by kernel_rfl) (by kernel_rfl) (fun _ _ _ h => h) (Or.inl ⟨by rfl, ?_⟩) (by assumption) ?_
    rotate_left
    · intro w hSw
      (try dsimp only at hSw)
      first
        | (go_simp; done)
        | (go_simp; with_reducible rfl)
    try simp only [Act.put, List.setIfInBounds_toArray, List.set_cons_zero, List.set_cons_succ]
    refine wpAnyH_ready (rs := [23]) (by kernel_rfl) (by simp) ?_
    refine AllReadyH.cons rfl (fun K hK => ?_) AllReadyH.nil
    go_simp
    try rw [hs2]
    refine (HVa.out).mono ?_
    rintro e w4 ⟨rfl, h4, u4, L4, t4, st4, m4⟩
    have T4 := hid t4; have ST4 := hid st4; have M4 := hid m4
    clear t4 st4 m4
    refine hK.out _ _ trivial (fun hHeld => ?_)
    clear hK K
    try simp only [Act.put, List.setIfInBounds_toArray, List.set_cons_zero, List.set_cons_succ]
    refine takeD (i := 24) (v := ?_) (some 41) rfl rfl (by kernel_rfl) (by kernel_rfl) (by kernel_rfl) (fun _ _ _ h => h) (Or.inl ⟨by rfl, ?_⟩) (by assumption) ?_
    rotate_left
    · intro w hSw
      (try dsimp only at hSw)
      first
        | (go_simp; done)
        | (go_simp; with_reducible rfl)
    try simp only [Act.put, List.setIfInBounds_toArray, List.set_cons_zero, List.set_cons_succ]
    refine takeD (i := 25) (v := ?_) (some 42) rfl rfl (by kernel_rfl) (by kernel_rfl) (by kernel_rfl) (fun _ _ _ h => h) (Or.inl ⟨by rfl, ?_⟩) (by assumption) ?_
    rotate_left
    · intro w hSw
      (try dsimp only at hSw)
      first
        | (go_simp; done)
        | (go_simp; with_reducible rfl)
    try simp only [Act.put, List.setIfInBounds_toArray, List.set_cons_zero, List.set_cons_succ]
    refine takeD (i := 26) (v := ?_) (some 43) rfl rfl (by kernel_rfl) (by kernel_rfl) (by kernel_rfl) (fun _ _ _ h => h) (Or.inl ⟨by rfl, ?_⟩) (by assumption) ?_
    rotate_left
    · intro w hSw
      (try dsimp only at hSw)
      first
        | (go_simp; done)
        | (go_simp; with_reducible rfl)
    try simp only [Act.put, List.setIfInBounds_toArray, List.set_cons_zero, List.set_cons_succ]
    refine takeD (i := 27) (v := ?_) (some 44) rfl rfl (by kernel_rfl) (by kernel_rfl) (by kernel_rfl) (fun _ _ _ h => h) (Or.inl ⟨by rfl, ?_⟩) (by assumption) ?_
    rotate_left
    · intro w hSw
      (try dsimp only at hSw)
      first
        | (go_simp; done)
        | (go_simp; with_reducible rfl)
    try simp only [Act.put, List.setIfInBounds_toArray, List.set_cons_zero, List.set_cons_succ]
    refine takeD (i := 28) (v := ?_) (some 45) rfl rfl (by kernel_rfl) (by kernel_rfl) (by kernel_rfl) (fun _ _ _ h => h) (Or.inl ⟨by rfl, ?_⟩) (by assumption) ?_
    rotate_left
    · intro w hSw
      (try dsimp only at hSw)
      first
        | (go_simp; done)
        | (go_simp; with_reducible rfl)
    try simp only [Act.put, List.setIfInBounds_toArray, List.set_cons_zero, List.set_cons_succ]
    refine takeD (i := 29) (v := ?_) (some 46) rfl rfl (by kernel_rfl) (by kernel_rfl) (by kernel_rfl) (fun _ _ _ h => h) (Or.inl ⟨by rfl, ?_⟩) (by assumption) ?_
    rotate_left
    · intro w hSw
      (try dsimp only at hSw)
      first
        | (go_simp; done)
        | (go_simp; with_reducible rfl)
    try simp only [Act.put, List.setIfInBounds_toArray, List.set_cons_zero, List.set_cons_succ]
    refine wpAnyH_ready (rs := [30]) (by kernel_rfl) (by simp) ?_
    refine AllReadyH.cons rfl (fun K hK => ?_) AllReadyH.nil
    go_simp
    try rw [hs2]
    refine (HVB.out A2 c2 h4 u4 L4 w4 (SD2.out.step ST4.out) T4.out).mono ?_
    rintro e w5 ⟨rfl, h5⟩
    have A5 := hid h5
    clear h5
    refine hK.out _ _ trivial (fun hHeld => ?_)
    clear hK K
    try simp only [Act.put, List.setIfInBounds_toArray, List.set_cons_zero, List.set_cons_succ]
    refine takeD (i := 31) (v := ?_) (some 48) rfl rfl (by kernel_rfl) (by kernel_rfl) (by kernel_rfl) (fun _ _ _ h => h) (Or.inl ⟨by rfl, ?_⟩) (by assumption) ?_
    rotate_left
    · intro w hSw
      (try dsimp only at hSw)
      first
        | (go_simp; done)
        | (go_simp; with_reducible rfl)
    try simp only [Act.put, List.setIfInBounds_toArray, List.set_cons_zero, List.set_cons_succ]
    refine takeD (i := 32) (v := ?_) (some 8) rfl rfl (by kernel_rfl) (by kernel_rfl) (by kernel_rfl) (fun _ _ _ h => h) (Or.inl ⟨by rfl, ?_⟩) (by assumption) ?_
    rotate_left
    · intro w hSw
      (try dsimp only at hSw)
      first
        | (go_simp; done)
        | (go_simp; with_reducible rfl)
    try simp only [Act.put, List.setIfInBounds_toArray, List.set_cons_zero, List.set_cons_succ]
    refine wpAnyH_done (by kernel_rfl) ?_ _
    all_goals go_wp2
    all_goals go_ret
    all_goals exact ⟨ret_b HZ.out, Aft.trans (BD.out.trans ST4.out) M4.out A5.out⟩
end Go.Proofs.Ytdclmhmdkhpekaa
