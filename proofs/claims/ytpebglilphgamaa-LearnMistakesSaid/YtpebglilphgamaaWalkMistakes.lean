/- Walk of LearnMistakes. No condition. -/
import Derived.Test.YtpebglilphgamaaCheck2
import Derived.Test.YtpebglilphgamaaWorst2
namespace Go.Proofs.Ytpebglilphgamaa
open Go.RowKit Go.Maps

attribute [local go_sem ↓] shl_p2

set_option maxRecDepth 100000 in
set_option maxHeartbeats 1000000 in
theorem learnMistakes_bad (w : World) (p : Int) (A : Option Addr) (n c : Nat) (xs : List Int) (hs : Sl w A n c (xs.map (Value.int .i64))) (h : ¬ Cls p xs) :
    Calls Try.prog 11 #[.int .i64 p, .slice A n c] w fun e w' => e = .returned (.bool true) ∧ Below w.heap.size w w' := by
  have hn := hs.numlen
  have HL := hid fun W (hb : Below w.heap.size w W) => lawList A n c xs W (hs.below hb)
  have hB : ¬ Cls p (xs.take (min n 20)) := fun H => h ((cls_take hn).1 H)
  have HG := hid fun A' c' W (s1 : Sl W A' (min n 20) c' ((xs.take (min n 20)).map (Value.int .i64))) => dimBad p A' (min n 20) c' _ W s1 hB
  clear hs hB h hn
  go_enter Try.func11, Try.ntmps11
  go_wp2_with fail
  refine (HL.out _ (Below.refl _ _)).mono ?_; rintro e w1 ⟨A1, c1, rfl, o1, b1⟩
  have s1 := Sl.of_own o1
  go_wp2_with fail
  refine (HG.out _ _ _ s1).mono ?_; rintro e w2 ⟨rfl, b2⟩
  have b12 : Below w.heap.size w w2 := below_call b1 b2 b1.size
  clear s1 o1 b1 b2
  go_wp2_with (go_at_call 21; refine (awake _).mono ?_; rintro e w6 ⟨rfl, b6⟩)
  go_ret
  exact ⟨rfl, below_call b12 b6 b12.size⟩

set_option maxRecDepth 100000 in
set_option maxHeartbeats 4000000 in
theorem learnMistakes_good (w : World) (p : Nat) (A : Option Addr) (n c : Nat) (xs : List Int) (hs : Sl w A n c (xs.map (Value.int .i64))) (h : Cls p xs) :
    Calls Try.prog 11 #[.int .i64 p, .slice A n c] w fun e w' => e = .returned (.bool true) ∧ Below w.heap.size w w' := by
  have hn := hs.numlen
  have hne : xs ≠ [] := by rintro rfl; have := h.n1; simp at this
  have h1 := take_min20 hn (by have := h.n16; omega)
  have h3 : min n 20 = n := Nat.min_eq_left (by have := h.n16; omega)
  have hn16 : n ≤ 16 := by have := h.n16; omega
  have HL := hid fun W (hb : Below w.heap.size w W) => lawList A n c xs W (hs.below hb)
  rw [h1, h3] at HL
  have hd0 := dimL_nonneg (p := p) hne
  have HT := hid fun A' c' W (s1 : Sl W A' n c' (xs.map (Value.int .i64))) => treePub p A' n c' xs W s1 h
  have HG := hid fun A' c' W (s1 : Sl W A' n c' (xs.map (Value.int .i64))) => dimPub p A' n c' xs W s1 h
  have HC := hid fun W (hb : Below w.heap.size w W) => refClassOk p A n c xs W (hs.below hb) h
  have HW := hid fun A' c' W (s1 : Sl W A' n c' (xs.map (Value.int .i64))) => worstCPub p A' n c' xs W s1 h
  have HH := hid fun A' c' W (s1 : Sl W A' n c' (xs.map (Value.int .i64))) => worstHPub p A' n c' xs W s1 h
  have hbl := bigTree_len p xs
  have hd1 := two_pow_dim p _ xs rfl hne
  have hm1000 : 2 ^ (dimL p xs).toNat - 1 ≤ 1000 := by omega
  have HK := hid fun A' c' T k W (s1 : Sl W A' n c' (xs.map (Value.int .i64))) (s3 : Sl3 W T (2 ^ (dimL p xs).toNat - 1) k (bigTree p xs)) => checkPub p A' n c' xs T _ k (bigTree p xs) hm1000 W s1 s3 h
  rw [check_big hne (by omega)] at HK
  simp only [Option.getD_some, Option.isSome_some] at HK
  have hwc := careful_dim (p := p) hne
  rw [hwc] at HW
  have hb0 := dim_le_worst halving p _ xs rfl
  have hb1 := halving_pow p _ xs rfl hne
  have hb2 := worstL_nonneg halving p xs
  obtain ⟨b, hb⟩ := Int.eq_ofNat_of_zero_le hb2
  obtain ⟨d, hd⟩ := Int.eq_ofNat_of_zero_le hd0
  have hdn : (dimL p xs).toNat = d := by omega
  have hb4 : b ≤ 4 := by
    rcases Nat.lt_or_ge 4 b with g | g
    · have e : (worstL halving p xs).toNat = b := by omega
      rw [e] at hb1
      have := Nat.pow_le_pow_right (show 0 < 2 by decide) (show 5 ≤ b by omega)
      omega
    · exact g
  rw [hdn] at HT HK
  rw [hd] at HG HW
  have e1 : (worstL halving p xs).toNat = b := by omega
  rw [e1] at hb1
  rw [hb] at HH
  have FB : Fits (b : Int) := ⟨by omega, by omega⟩
  have dq : decide ((0 : Int) ≤ (d : Int)) = true := decide_eq_true (by omega)
  have dq2 : decide ((d : Int) ≤ (b : Int)) = true := decide_eq_true (by omega)
  have dq3 : decide ((b : Int) < 5) = true := decide_eq_true (by omega)
  have dq2n : decide (d ≤ b) = true := decide_eq_true (by omega)
  have dq3n : decide (b < 5) = true := decide_eq_true (by omega)
  have dq4 : decide (p2 (b : Int) ≤ (n : Int)) = true := decide_eq_true (by rw [p2_nat]; omega)
  clear hs h h1 h3 hne hd hdn hd0 hd1 hbl hn hb hb0 hb1 hb2 hwc e1 hm1000 hb4
  go_enter Try.func11, Try.ntmps11
  go_wp2_with fail
  refine (HL.out _ (Below.refl _ _)).mono ?_; rintro e w1 ⟨A1, c1, rfl, o1, b1⟩
  have s1 := Sl.of_own o1
  go_wp2_with fail
  refine (HG.out _ _ _ s1).mono ?_; rintro e w2 ⟨rfl, b2⟩
  have b12 : Below w.heap.size w w2 := below_call b1 b2 b1.size
  clear s1 o1 b1 b2
  go_wp2_with fail
  refine (HC.out _ b12).mono ?_; rintro e w5 ⟨rfl, rfl⟩
  go_wp2_with fail
  refine (HL.out _ b12).mono ?_; rintro e w3 ⟨A3, c3, rfl, o3, b3⟩
  have s3 := Sl.of_own o3
  have b13 : Below w.heap.size w w3 := below_call b12 b3 b12.size
  go_wp2_with fail
  refine (HW.out _ _ _ s3).mono ?_; rintro e w4 ⟨rfl, b4⟩
  have b14 : Below w.heap.size w w4 := below_call b13 b4 b13.size
  clear s3 o3 b12 b13 b3 b4
  go_wp2_with fail
  refine (HL.out _ b14).mono ?_; rintro e w5 ⟨A5, c5, rfl, o5, b5⟩
  have s5 := Sl.of_own o5
  have b15 : Below w.heap.size w w5 := below_call b14 b5 b14.size
  go_wp2_with fail
  refine (HH.out _ _ _ s5).mono ?_; rintro e w6 ⟨rfl, b6⟩
  have b16 : Below w.heap.size w w6 := below_call b15 b6 b15.size
  clear s5 o5 b15 b14 b5 b6
  go_wp2_with fail
  refine (HL.out _ b16).mono ?_; rintro e w7 ⟨A7, c7, rfl, o7, b7⟩
  have s7 := Sl.of_own o7
  have b17 : Below w.heap.size w w7 := below_call b16 b7 b16.size
  go_wp2_with fail
  refine (HT.out _ _ _ s7).mono ?_; rintro e w8 ⟨T, ct, rfl, ot, b8⟩
  have b18 : Below w.heap.size w w8 := below_call b17 b8 b17.size
  have st8 := Sl3.of_own ot
  clear s7 o7 b17 b16 b7 b8 ot
  go_wp2_with fail
  refine (HL.out _ b18).mono ?_; rintro e w9 ⟨A9, c9, rfl, o9, b9⟩
  have s9 := Sl.of_own o9
  have b19 : Below w.heap.size w w9 := below_call b18 b9 b18.size
  have st9 := st8.below b9
  go_wp2_with fail
  refine (HK.out _ _ _ _ _ s9 st9).mono ?_; rintro e w10 ⟨rfl, b10⟩
  have b20 : Below w.heap.size w w10 := below_call b19 b10 b19.size
  clear s9 o9 b19 b18 b9 b10 st8 st9
  go_wp2_with (go_at_call 21; refine (awake _).mono ?_; rintro e w11 ⟨rfl, b11⟩)
  go_ret
  exact ⟨rfl, below_call b20 b11 b20.size⟩

theorem learnMistakes_walk (w : World) (p : Int) (_ : (Lit.int .i64 p).wf = true) (A : Option Addr) (n c : Nat) (xs : List Int) (hs : Sl w A n c (xs.map (Value.int .i64))) (_ : ∀ x ∈ xs, -9223372036854775808 ≤ x ∧ x ≤ 9223372036854775807) :
    Calls Try.prog 11 #[.int .i64 p, .slice A n c] w fun e w' => e = .returned (.bool true) ∧ Below w.heap.size w w' := by
  by_cases h : Cls p xs
  · obtain ⟨q, rfl⟩ := Int.eq_ofNat_of_zero_le (show 0 ≤ p by have := h.p1; omega)
    exact learnMistakes_good w q A n c xs hs h
  · exact learnMistakes_bad w p A n c xs hs h
end Go.Proofs.Ytpebglilphgamaa
