/- Walk of LearnDims. Condition: the nodes fit in memory. -/
import Derived.Test.YtpebglilphgamaaCheck2
import Derived.Test.YtpebglilphgamaaDepth
import Derived.Test.YtpebglilphgamaaNodes
import Derived.Test.YtpebglilphgamaaRefDim
import Derived.Test.YtpebglilphgamaaExam
namespace Go.Proofs.Ytpebglilphgamaa
open Go.RowKit Go.Maps

theorem check_take {p : Nat} {xs : List Int} {ts : List Nd} (hd : dimL p xs ≤ 4) (hL : ts.length < 18446744073709551616) : checkL p xs (ts.take (min ts.length 70)) = checkL p xs ts := by
  by_cases h : ts.length ≤ 70
  · rw [List.take_of_length_le (by omega)]
  · have h1 : checkL p xs (ts.take (min ts.length 70)) = none := by
      unfold checkL
      rw [if_neg]
      rintro ⟨h2, _⟩
      have e : (ts.take (min ts.length 70)).length = 70 := by simp; omega
      rw [e] at h2
      rcases Nat.lt_or_ge (Lib.bitLen 70) 7 with g | g
      · have := Nat.pow_le_pow_right (show 0 < 2 by decide) (show Lib.bitLen 70 ≤ 6 by omega)
        omega
      · have := Nat.pow_le_pow_right (show 0 < 2 by decide) g
        omega
    rw [h1]
    unfold checkL
    rw [if_neg]
    rintro ⟨h2, h3⟩
    obtain ⟨m, hm⟩ := Option.isSome_iff_exists.1 h3
    have h4 := fits_dim _ _ _ _ _ hm
    have := Nat.pow_le_pow_right (show 0 < 2 by decide) (show Lib.bitLen ts.length ≤ 4 by omega)
    omega

set_option maxRecDepth 100000 in
set_option maxHeartbeats 1000000 in
theorem learnDims_bad (w : World) (p : Int) (A : Option Addr) (n c : Nat) (xs : List Int) (hs : Sl w A n c (xs.map (Value.int .i64))) (T : Option Addr) (L k : Nat) (ts : List Nd) (h3 : Sl3 w T L k ts) (h : ¬ Cls p xs) :
    Calls Try.prog 5 #[.int .i64 p, .slice A n c, .slice T L k] w fun e w' => e = .returned (.bool true) ∧ Below w.heap.size w w' := by
  have hn := hs.numlen
  have HL := hid fun W (hb : Below w.heap.size w W) => lawList A n c xs W (hs.below hb)
  have hB : ¬ Cls p (xs.take (min n 20)) := fun H => h ((cls_take hn).1 H)
  have HG := hid fun A' c' W (s1 : Sl W A' (min n 20) c' ((xs.take (min n 20)).map (Value.int .i64))) => dimBad p A' (min n 20) c' _ W s1 hB
  have HF := hid fun A' c' W (s1 : Sl W A' (min n 20) c' ((xs.take (min n 20)).map (Value.int .i64))) => treeBad p A' (min n 20) c' _ W s1 hB
  have HK := hid fun A' c' T' m k W (s1 : Sl W A' (min n 20) c' ((xs.take (min n 20)).map (Value.int .i64))) => checkBad p A' (min n 20) c' _ T' m k W s1 hB
  have HC := hid fun W (hb : Below w.heap.size w W) => refClassBad p A n c xs W (hs.below hb) h
  have HT := hid fun W (hb : Below w.heap.size w W) => lawTree T L k ts W (h3.below hb)
  clear hs hB h hn h3
  go_enter Try.func5, Try.ntmps5
  go_wp2_with fail
  refine (HL.out _ (Below.refl _ _)).mono ?_; rintro e w1 ⟨A1, c1, rfl, o1, b1⟩
  have s1 := Sl.of_own o1
  go_wp2_with fail
  refine (HG.out _ _ _ s1).mono ?_; rintro e w2 ⟨rfl, b2⟩
  have b12 : Below w.heap.size w w2 := below_call b1 b2 b1.size
  clear s1 o1 b1 b2
  go_wp2_with fail
  refine (HL.out _ b12).mono ?_; rintro e w3 ⟨A3, c3, rfl, o3, b3⟩
  have s3 := Sl.of_own o3
  have b13 : Below w.heap.size w w3 := below_call b12 b3 b12.size
  go_wp2_with fail
  refine (HF.out _ _ _ s3).mono ?_; rintro e w4 ⟨rfl, b4⟩
  have b14 : Below w.heap.size w w4 := below_call b13 b4 b13.size
  clear s3 o3 b12 b13 b3 b4
  go_wp2_with fail
  refine (HL.out _ b14).mono ?_; rintro e w5 ⟨A5, c5, rfl, o5, b5⟩
  have s5 := Sl.of_own o5
  have b15 : Below w.heap.size w w5 := below_call b14 b5 b14.size
  go_wp2_with fail
  refine (HT.out _ b15).mono ?_; rintro e w6 ⟨A6, c6, rfl, o6, b6⟩
  have b16 : Below w.heap.size w w6 := below_call b15 b6 b15.size
  have s56 := s5.below b6
  go_wp2_with fail
  refine (HK.out _ _ _ _ _ _ s56).mono ?_; rintro e w7 ⟨rfl, b7⟩
  have b17 : Below w.heap.size w w7 := below_call b16 b7 b16.size
  clear s5 o5 b15 b14 b5 b6 s56 o6 b16 b7
  go_wp2_with fail
  refine (HC.out _ b17).mono ?_; rintro e w8 ⟨rfl, rfl⟩
  go_wp2_with (go_at_call 21; refine (awake _).mono ?_; rintro e w6 ⟨rfl, b6⟩)
  go_ret
  exact ⟨rfl, below_call b17 b6 b17.size⟩

set_option maxRecDepth 100000 in
set_option maxHeartbeats 4000000 in
theorem learnDims_good (w : World) (p : Nat) (A : Option Addr) (n c : Nat) (xs : List Int) (hs : Sl w A n c (xs.map (Value.int .i64))) (T : Option Addr) (L k : Nat) (ts : List Nd) (h3 : Sl3 w T L k ts) (hL : L ≤ 140737488355327) (h : Cls p xs) :
    Calls Try.prog 5 #[.int .i64 p, .slice A n c, .slice T L k] w fun e w' => e = .returned (.bool true) ∧ Below w.heap.size w w' := by
  have hn := hs.numlen
  have hne : xs ≠ [] := by rintro rfl; have := h.n1; simp at this
  have h1 := take_min20 hn (by have := h.n16; omega)
  have h20 : min n 20 = n := Nat.min_eq_left (by have := h.n16; omega)
  have hn16 : n ≤ 16 := by have := h.n16; omega
  have hp : p ≤ 60 := by have := h.p5; omega
  have HL := hid fun W (hb : Below w.heap.size w W) => lawList A n c xs W (hs.below hb)
  rw [h1, h20] at HL
  have hd0 := dimL_nonneg (p := p) hne
  have hd1 := two_pow_dim p _ xs rfl hne
  have hd4 : (dimL p xs).toNat ≤ 4 := by
    rcases Nat.lt_or_ge 4 (dimL p xs).toNat with g | g
    · have := Nat.pow_le_pow_right (show 0 < 2 by decide) (show 5 ≤ (dimL p xs).toNat by omega)
      omega
    · exact g
  have hlt := h3.len
  have HT := hid fun A' c' W (s1 : Sl W A' n c' (xs.map (Value.int .i64))) => treePub p A' n c' xs W s1 h
  have HG := hid fun A' c' W (s1 : Sl W A' n c' (xs.map (Value.int .i64))) => dimPub p A' n c' xs W s1 h
  have HC := hid fun W (hb : Below w.heap.size w W) => refClassOk p A n c xs W (hs.below hb) h
  have HRD := hid fun W (hb : Below w.heap.size w W) => refDim p hp xs.length A n c xs (Nat.le_refl _) (by omega) W (hs.below hb)
  have HLT := hid fun W (hb : Below w.heap.size w W) => lawTree T L k ts W (h3.below hb)
  have HK := hid fun A' c' T' k' W (s1 : Sl W A' n c' (xs.map (Value.int .i64))) (s3 : Sl3 W T' (min L 70) k' (ts.take (min L 70))) => checkPub p A' n c' xs T' _ k' _ (by omega) W s1 s3 h
  have ht := check_take (p := p) (xs := xs) (ts := ts) (by omega) (by omega)
  rw [hlt] at ht
  rw [ht] at HK
  have HDT := hid fun W (hb : Below w.heap.size w W) => depthS p A n c xs T L k ts hL (by omega) hp W (hs.below hb) (h3.below hb)
  have hbl := bigTree_len p xs
  have HDB := hid fun T' k' W (hb : Below w.heap.size w W) (s3 : Sl3 W T' (2 ^ (dimL p xs).toNat - 1) k' (bigTree p xs)) => depthS p A n c xs T' _ k' (bigTree p xs) (by omega) (by omega) hp W (hs.below hb) s3
  have HOW := hid fun T' k' W (s3 : Sl3 W T' (2 ^ (dimL p xs).toNat - 1) k' (bigTree p xs)) => lawOwn T' _ k' (bigTree p xs) (by omega) W s3
  rw [check_big hne (by omega)] at HDB
  simp only [Option.getD_some, Option.isSome_some] at HDB
  have hdd : (((dimL p xs).toNat : Nat) : Int) = dimL p xs := by omega
  rw [hdd] at HDB
  generalize (((checkL p xs ts).getD 0 : Nat) : Int) = v at HK HDT
  generalize (checkL p xs ts).isSome = s at HK HDT
  generalize bigTree p xs = bt at *
  generalize 2 ^ (dimL p xs).toNat - 1 = N at *
  generalize dimL p xs = D at HG HRD HDB
  clear hs h3 hne h1 h20 hn hd0 hd1 hd4 hlt ht hbl hdd h
  go_enter Try.func5, Try.ntmps5
  go_wp2_with fail
  refine (HL.out _ (Below.refl _ _)).mono ?_; rintro e w1 ⟨A1, c1, rfl, o1, b1⟩
  have s1 := Sl.of_own o1
  go_wp2_with fail
  refine (HG.out _ _ _ s1).mono ?_; rintro e w2 ⟨rfl, b2⟩
  have b12 : Below w.heap.size w w2 := below_call b1 b2 b1.size
  clear s1 o1 b1 b2
  go_wp2_with fail
  refine (HL.out _ b12).mono ?_; rintro e w3 ⟨A3, c3, rfl, o3, b3⟩
  have s3 := Sl.of_own o3
  have b13 : Below w.heap.size w w3 := below_call b12 b3 b12.size
  go_wp2_with fail
  refine (HT.out _ _ _ s3).mono ?_; rintro e w4 ⟨T4, k4, rfl, o4, b4⟩
  have b14 : Below w.heap.size w w4 := below_call b13 b4 b13.size
  have t4 := Sl3.of_own o4
  clear s3 o3 b12 b13 b3 b4 o4
  go_wp2_with fail
  refine (HL.out _ b14).mono ?_; rintro e w5 ⟨A5, c5, rfl, o5, b5⟩
  have s5 := Sl.of_own o5
  have b15 : Below w.heap.size w w5 := below_call b14 b5 b14.size
  have t5 := t4.below b5
  go_wp2_with fail
  refine (HLT.out _ b15).mono ?_; rintro e w6 ⟨A6, c6, rfl, o6, b6⟩
  have b16 : Below w.heap.size w w6 := below_call b15 b6 b15.size
  have s56 := s5.below b6
  have t6 := Sl3.of_own o6
  have t56 := t5.below b6
  clear s5 o5 b15 b14 b5 b6 t4 t5 o6
  go_wp2_with fail
  refine (HK.out _ _ _ _ _ s56 t6).mono ?_; rintro e w7 ⟨rfl, b7⟩
  have b17 : Below w.heap.size w w7 := below_call b16 b7 b16.size
  have t7 := t56.below b7
  clear s56 t6 t56 b7 b16
  go_wp2_with fail
  refine (HC.out _ b17).mono ?_; rintro e w8 ⟨rfl, rfl⟩
  go_wp2_with fail
  refine (HRD.out _ b17).mono ?_; rintro e w8 ⟨rfl, b8⟩
  have b18 : Below w.heap.size w w8 := below_call b17 b8 b17.size
  have t8 := t7.below b8
  clear b8 t7 b17
  go_wp2_with (go_at_call 21; refine (awake _).mono ?_; rintro e w9 ⟨rfl, b9⟩)
  have b19 : Below w.heap.size w w9 := below_call b18 b9 b18.size
  have t9 := t8.below b9
  clear b9 t8 b18
  go_wp2_with fail
  refine (HOW.out _ _ _ t9).mono ?_; rintro e w10 ⟨T10, k10, rfl, o10, b10⟩
  have b110 : Below w.heap.size w w10 := below_call b19 b10 b19.size
  have t10 := Sl3.of_own o10
  clear o10 b10 t9 b19
  go_wp2_with fail
  refine (HDB.out _ _ _ b110 t10).mono ?_; rintro e w11 ⟨rfl, b11⟩
  have b111 : Below w.heap.size w w11 := below_call b110 b11 b110.size
  clear b11 t10 b110
  go_wp2_with fail
  refine (HDT.out _ b111).mono ?_; rintro e w12 ⟨rfl, b12⟩
  have b112 : Below w.heap.size w w12 := below_call b111 b12 b111.size
  go_wp2
  go_ret
  exact ⟨rfl, b112⟩

theorem learnDims_walk (w : World) (p : Int) (_ : (Lit.int .i64 p).wf = true) (A : Option Addr) (n c : Nat) (xs : List Int) (hs : Sl w A n c (xs.map (Value.int .i64))) (_ : ∀ x ∈ xs, -9223372036854775808 ≤ x ∧ x ≤ 9223372036854775807) (T : Option Addr) (L k : Nat) (ts : List Nd) (h3 : Sl3 w T L k ts) (hL : L ≤ 140737488355327) :
    Calls Try.prog 5 #[.int .i64 p, .slice A n c, .slice T L k] w fun e w' => e = .returned (.bool true) ∧ Below w.heap.size w w' := by
  by_cases h : Cls p xs
  · obtain ⟨q, rfl⟩ := Int.eq_ofNat_of_zero_le (show 0 ≤ p by have := h.p1; omega)
    exact learnDims_good w q A n c xs hs T L k ts h3 hL h
  · exact learnDims_bad w p A n c xs hs T L k ts h3 h
end Go.Proofs.Ytpebglilphgamaa
