/- Walks of evade.Sum, Dual and the reference's. Conditions: the slices read as numbers; the table of the library stands. -/
import Derived.Test.YtjddbglbodkihaaDoorRefP
import Derived.Test.YtjddbglbodkihaaDoorOnes
namespace Go.Proofs.YtjddbglbodkihaaDoor
open Go.RowKit
attribute [local go_sem ↓] shl_p2 shl_u or_u shr_u and_shrF shr_v and_shr andNot_v and_nn or_i

def OneI (a : Nat) : Prop := a < 1152921504606846976
theorem and_one {a : Nat} (h : OneI a) : Op.intBits .and .i64 (a : Int) 1 = pure (.int .i64 ((a % 2 : Nat) : Int)) := by
  have := and_nn (a := a) (b := 1) ⟨h, by decide⟩
  rw [Nat.and_one_is_mod] at this
  exact this
attribute [local go_sem ↓] and_one
theorem sz_le6 (u : Nat) : sz u ≤ 6 := by unfold sz; exact Nat.le_trans List.countP_le_length (by simp)
theorem sg_bd (s : Nat) : -1 ≤ sg s ∧ sg s ≤ 1 := by unfold sg; omega
theorem sumL_bd (l : List Int) : -(l.length : Int) ≤ sumL l ∧ sumL l ≤ l.length := by
  rw [sumL_eq]
  induction l with
  | nil => simp [sumM]
  | cons x l ih =>
    have := sg_bd x.toNat
    simp only [sumM, List.map_cons, List.sum_cons, List.length_cons] at ih ⊢
    omega
theorem at0_some {xs : List Int} {j : Nat} (h : j < xs.length) : xs[j]? = some (at0 xs j) := by
  have e : xs[j]? = some xs[j] := List.getElem?_eq_getElem h
  rw [e]; congr 1; exact (at0_get e).symm
theorem take_at {xs : List Int} {j : Nat} (h : j < xs.length) : xs.take (j + 1) = xs.take j ++ [at0 xs j] := by
  rw [List.take_add_one, at0_some h]; rfl
set_option maxRecDepth 100000 in
set_option maxHeartbeats 2000000 in
theorem sumYes (n : Nat) (A : Option Addr) (m c : Nat) (xs : List Int) (w : World) (hs : Sl w A m c (xs.map (Value.int .i64))) (hT : Tab w) (H : Fam n xs) :
    Calls Tryd.prog 29 #[.int .i64 n, .slice A m c] w fun e w' => e = .returned (.tuple #[.int .i64 (sumL xs), .int .i64 0]) ∧ Below w.heap.size w w' := by
  have h6 := H.n6n
  have h64 := two6 h6
  have hl := hs.numlen
  have hm64 : xs.length ≤ 64 := (SetsP.of_fam H).len
  have HR1 := hid (readYes n A m c xs w hs hT H)
  have HR := hid fun j (hj : j < m) => H.nlt (at0_mem (by omega : j < xs.length))
  have HCT := hid fun x (hx : x < 64) W => countS x hx W
  have HS := hid hs
  have HLX := hid (And.intro hl hm64)
  clear hs hT H hl h6
  generalize setF xs = F at *
  go_enter Tryd.func29, Tryd.ntmps29
  go_wp2_with fail
  refine (HR1.out).mono ?_; rintro e w1 ⟨rfl, b1⟩
  have HB1 := hid (b1.alloc b1.size (.cells #[.int .i64 n, .int .u64 F] 72))
  clear b1
  go_wp2
  go_loopg [8, 21] m (fun gk v i wr => ∃ d : Nat, gk + d = m ∧ i = .int .i64 d ∧ v = .int .i64 (sumL (xs.take d)) ∧ Hid (Below w.heap.size w wr))
  case atStart => exact ⟨0, by omega, rfl, rfl, HB1⟩
  case round =>
    obtain ⟨d, hd, rfl, rfl, HW⟩ := hrel
    have HD := hid hd
    by_cases hlt : d < m
    · have HLT1 := hid hlt
      have hdx : d < xs.length := by have := HLX.out.1; omega
      obtain ⟨b, o, rfl, lb, _, c1⟩ := HS.out.num hlt
      have hz := HW.out.size
      have c1' := (HW.out.cell (p := ⟨b, o + d, none⟩) lb).trans c1
      have lb' : b < wr.heap.size := by omega
      obtain ⟨s, hse⟩ := Int.eq_ofNat_of_zero_le (HR.out d hlt).1
      have hs64 : s < 64 := by have := (HR.out d hlt).2; omega
      have HC := hid (HCT.out s hs64)
      have hsz := sz_le6 s
      have hv := sumL_bd (xs.take d)
      rw [List.length_take] at hv
      have hv2 : -64 ≤ sumL (xs.take d) ∧ sumL (xs.take d) ≤ 64 := by have := HLX.out; omega
      have HN := hid (show sumL (xs.take (d + 1)) = sumL (xs.take d) + (1 - 2 * ((sz s : Int) % 2)) from by
        rw [take_at hdx, hse, sumL_snoc, Int.toNat_natCast]; unfold sg; omega)
      rw [hse] at c1'
      generalize sumL (xs.take d) = v at *
      generalize hz2 : sz s = z at *
      have OZ : OneI z := by unfold OneI; omega
      clear c1 lb hse hdx hv hz2
      go_wp2_with fail
      refine (HC.out _).mono ?_; rintro e w2 ⟨rfl, rfl⟩
      go_wp2
      go_roundg (gk - 1)
      case measure => have := HD.out; have := HLT1.out; omega
      case rel => exact ⟨d + 1, by have := HD.out; have := HLT1.out; omega, by go_num, by rw [HN.out], HW⟩
    · obtain rfl : d = m := by have := HD.out; omega
      have e : xs.take d = xs := List.take_of_length_le (by have := HLX.out; omega)
      rw [e]
      clear e
      go_wp2
      go_ret2
      exact ⟨rfl, HW.out⟩
set_option maxRecDepth 100000 in
set_option maxHeartbeats 2000000 in
theorem sumNo (n : Int) (A : Option Addr) (m c : Nat) (xs : List Int) (w : World) (hs : Sl w A m c (xs.map (Value.int .i64))) (hT : Tab w) (H : ¬ Fam n xs) :
    Calls Tryd.prog 29 #[.int .i64 n, .slice A m c] w fun e w' => e = .returned (.tuple #[.int .i64 0, .int .i64 2]) ∧ Below w.heap.size w w' := by
  have HRD := hid (readNo n A m c xs w hs hT H)
  clear hs hT H
  go_enter Tryd.func29, Tryd.ntmps29
  go_wp2_with fail
  refine (HRD.out).mono ?_; rintro e w1 ⟨⟨G, rfl⟩, hb1⟩
  have HB1 := hid hb1
  clear hb1
  go_wp2
  go_ret2
  exact ⟨rfl, HB1.out.alloc HB1.out.size _⟩

def PopI (S : Nat) : Prop := S < 64 ∧ 0 < S
theorem pop_i {S : Nat} (h : PopI S) : bits .and .i64 (S : Int) (wrap64 ((S : Int) - 1)) = (popF S : Nat) := by
  have e : wrap64 ((S : Int) - 1) = ((S - 1 : Nat) : Int) := by have := h.1; have := h.2; unfold wrap64; omega
  rw [e, i64_and _ _ (by have := h.1; omega) (by have := h.1; omega)]
  rfl
theorem pop_sz_all : ∀ u : Fin 64, 0 < u.val → sz (popF u.val) + 1 = sz u.val ∧ popF u.val < u.val := by decide +kernel
theorem pop_sz {u : Nat} (h : u < 64) (h0 : 0 < u) : sz (popF u) + 1 = sz u ∧ popF u < u := pop_sz_all ⟨u, h⟩ h0
theorem sz_0 : sz 0 = 0 := by decide
set_option maxRecDepth 100000 in
set_option maxHeartbeats 1000000 in
theorem refSize (x : Nat) (hx : x < 64) (w : World) :
    Calls Tryd.prog 71 #[.int .i64 x] w fun e w' => e = .returned (.int .i64 (sz x)) ∧ w = w' := by
  go_enter Tryd.func71, Tryd.ntmps71
  go_wp2
  go_loopg [0, 3] x (fun gk s v wr => s = .int .i64 (gk : Nat) ∧ gk ≤ x ∧ (∃ k : Nat, v = .int .i64 k ∧ k + sz gk = sz x) ∧ w = wr)
  case atStart => exact ⟨rfl, Nat.le_refl _, ⟨0, rfl, by omega⟩, rfl⟩
  case round =>
    obtain ⟨rfl, hle, ⟨k, rfl, hk⟩, rfl⟩ := hrel
    have HK := hid hk
    have hb := sz_le6 x
    by_cases h0 : gk = 0
    · subst h0
      have e : k = sz x := by rw [sz_0] at hk; omega
      clear hk
      go_wp2
      go_ret
      exact ⟨ret_i (by rw [e]), rfl⟩
    · have hp := pop_sz (u := gk) (by omega) (by omega)
      have HP := hid hp
      have g1 : decide (0 < (gk : Int)) = true := decide_eq_true (by omega)
      have g2 : decide (0 < gk) = true := decide_eq_true (by omega)
      have P1 := hid (pop_i (S := gk) ⟨by omega, by omega⟩)
      have hk6 : k ≤ 6 := by omega
      have HLE := hid hle
      clear hk hp hb hle
      go_wp2
      go_roundg (popF gk)
      case measure => exact HP.out.2
      case rel => exact ⟨by rw [P1.out], by have := HP.out.2; have := HLE.out; omega, ⟨k + 1, by go_num, by have := HP.out.1; have := HK.out; omega⟩, rfl⟩
set_option maxRecDepth 100000 in
set_option maxHeartbeats 2000000 in
theorem refSum (A : Option Addr) (m c : Nat) (xs : List Int) (w : World) (hs : Sl w A m c (xs.map (Value.int .i64))) (hb : ∀ s ∈ xs, 0 ≤ s ∧ s < 64) (hm : m ≤ 64) :
    Calls Tryd.prog 31 #[.slice A m c] w fun e w' => e = .returned (.int .i64 (sumL xs)) ∧ w = w' := by
  have hl := hs.numlen
  have hle := hs.len_le
  have HR := hid fun j (hj : j < m) => hb (at0 xs j) (at0_mem (by omega : j < xs.length))
  have HCT := hid fun x (hx : x < 64) W => refSize x hx W
  have HS := hid hs
  have HLX := hid (And.intro hl hm)
  clear hs hl hb hm
  go_enter Tryd.func31, Tryd.ntmps31
  go_wp2
  go_loopg [3, 8] m (fun gk v i wr => ∃ d : Nat, gk + d = m ∧ i = .int .i64 d ∧ v = .int .i64 (sumL (xs.take d)) ∧ w = wr)
  case atStart => exact ⟨0, by omega, rfl, rfl, rfl⟩
  case round =>
    obtain ⟨d, hd, rfl, rfl, rfl⟩ := hrel
    have HD := hid hd
    by_cases hlt : d < m
    · have HLT1 := hid hlt
      have hdx : d < xs.length := by have := HLX.out.1; omega
      obtain ⟨b, o, rfl, lb, _, c1⟩ := HS.out.num hlt
      obtain ⟨s, hse⟩ := Int.eq_ofNat_of_zero_le (HR.out d hlt).1
      have hs64 : s < 64 := by have := (HR.out d hlt).2; omega
      have HC := hid (HCT.out s hs64)
      have hsz := sz_le6 s
      have hv := sumL_bd (xs.take d)
      rw [List.length_take] at hv
      have hv2 : -64 ≤ sumL (xs.take d) ∧ sumL (xs.take d) ≤ 64 := by have := HLX.out; omega
      have HN := hid (show sumL (xs.take (d + 1)) = sumL (xs.take d) + (1 - 2 * ((sz s : Int) % 2)) from by
        rw [take_at hdx, hse, sumL_snoc, Int.toNat_natCast]; unfold sg; omega)
      rw [hse] at c1
      generalize sumL (xs.take d) = v at *
      generalize hz2 : sz s = z at *
      have ht2 : ((z : Int)).tmod 2 = (z : Int) % 2 := Int.tmod_eq_emod_of_nonneg (by omega)
      clear hse hdx hv hz2
      go_wp2_with fail
      refine (HC.out _).mono ?_; rintro e w2 ⟨rfl, rfl⟩
      go_wp2
      go_roundg (gk - 1)
      case measure => have := HD.out; have := HLT1.out; omega
      case rel => exact ⟨d + 1, by have := HD.out; have := HLT1.out; omega, by go_num, by rw [HN.out], rfl⟩
    · obtain rfl : d = m := by have := HD.out; omega
      have e : xs.take d = xs := List.take_of_length_le (by have := HLX.out; omega)
      rw [e]
      clear e
      go_wp2
      go_ret
      exact ⟨rfl, rfl⟩
end Go.Proofs.YtjddbglbodkihaaDoor
