/- Walk of LearnAsks. No condition. -/
import Derived.Test.YtpebglilphgamaaAsk
import Derived.Test.YtpebglilphgamaaRefPeel
namespace Go.Proofs.Ytpebglilphgamaa
open Go.RowKit

set_option maxRecDepth 100000 in
set_option maxHeartbeats 1000000 in
theorem learnAsks_bad (w : World) (p : Int) (A : Option Addr) (n c : Nat) (xs : List Int) (hs : Sl w A n c (xs.map (Value.int .i64))) (h : ¬ Cls p xs) :
    Calls Try.prog 9 #[.int .i64 p, .slice A n c] w fun e w' => e = .returned (.bool true) ∧ Below w.heap.size w w' := by
  have hn := hs.numlen
  have HL := hid fun W (hb : Below w.heap.size w W) => lawList A n c xs W (hs.below hb)
  have hB : ¬ Cls p (xs.take (min n 20)) := fun H => h ((cls_take hn).1 H)
  have HF := hid fun A' c' W (s1 : Sl W A' (min n 20) c' ((xs.take (min n 20)).map (Value.int .i64))) => askBad p A' (min n 20) c' _ W s1 hB
  have HG := hid fun A' c' W (s1 : Sl W A' (min n 20) c' ((xs.take (min n 20)).map (Value.int .i64))) => peelBad p A' (min n 20) c' _ W s1 hB
  have HC := hid fun W (hb : Below w.heap.size w W) => refClassBad p A n c xs W (hs.below hb) h
  clear hs hB h hn
  go_enter Try.func9, Try.ntmps9
  go_wp2_with fail
  refine (HL.out _ (Below.refl _ _)).mono ?_; rintro e w1 ⟨A1, c1, rfl, o1, b1⟩
  have s1 := Sl.of_own o1
  go_wp2_with fail
  refine (HF.out _ _ _ s1).mono ?_; rintro e w2 ⟨rfl, b2⟩
  have b12 : Below w.heap.size w w2 := below_call b1 b2 b1.size
  clear s1 o1 b1 b2
  go_wp2_with fail
  refine (HL.out _ b12).mono ?_; rintro e w3 ⟨A3, c3, rfl, o3, b3⟩
  have s3 := Sl.of_own o3
  have b13 : Below w.heap.size w w3 := below_call b12 b3 b12.size
  go_wp2_with fail
  refine (HG.out _ _ _ s3).mono ?_; rintro e w4 ⟨rfl, b4⟩
  have b14 : Below w.heap.size w w4 := below_call b13 b4 b13.size
  clear s3 o3 b12 b13 b3 b4
  go_wp2_with fail
  refine (HC.out _ b14).mono ?_; rintro e w5 ⟨rfl, rfl⟩
  go_wp2_with (go_at_call 21; refine (awake _).mono ?_; rintro e w6 ⟨rfl, b6⟩)
  go_ret
  exact ⟨rfl, below_call b14 b6 b14.size⟩

set_option maxRecDepth 100000 in
set_option maxHeartbeats 1000000 in
theorem learnAsks_good (w : World) (p : Nat) (A : Option Addr) (n c : Nat) (xs : List Int) (hs : Sl w A n c (xs.map (Value.int .i64))) (h : Cls p xs) :
    Calls Try.prog 9 #[.int .i64 p, .slice A n c] w fun e w' => e = .returned (.bool true) ∧ Below w.heap.size w w' := by
  have hn := hs.numlen
  have h1 := take_min20 hn (by have := h.n16; omega)
  have h3 : min n 20 = n := Nat.min_eq_left (by have := h.n16; omega)
  have hp : p ≤ 60 := by have := h.p5; omega
  have hxl : xs.length ≤ 1000 := by have := h.n16; omega
  have HL := hid fun W (hb : Below w.heap.size w W) => lawList A n c xs W (hs.below hb)
  rw [h1, h3] at HL
  have HF := hid fun A' c' W (s1 : Sl W A' n c' (xs.map (Value.int .i64))) => askPub p A' n c' xs W s1 h
  have HG := hid fun A' c' W (s1 : Sl W A' n c' (xs.map (Value.int .i64))) => peelPub p A' n c' xs W s1 h
  have HC := hid fun W (hb : Below w.heap.size w W) => refClassOk p A n c xs W (hs.below hb) h
  have RC := hid fun W (hb : Below w.heap.size w W) => refAsk p hp xs.length A n c xs (Nat.le_refl _) hxl W (hs.below hb)
  have RH := hid fun W (hb : Below w.heap.size w W) => refPeel p A n c xs h.p6 h.inP (by omega) W (hs.below hb)
  clear hs h hn h1 h3 hp hxl
  go_enter Try.func9, Try.ntmps9
  go_wp2_with fail
  refine (HL.out _ (Below.refl _ _)).mono ?_; rintro e w1 ⟨A1, c1, rfl, o1, b1⟩
  have s1 := Sl.of_own o1
  go_wp2_with fail
  refine (HF.out _ _ _ s1).mono ?_; rintro e w2 ⟨rfl, b2⟩
  have b12 : Below w.heap.size w w2 := below_call b1 b2 b1.size
  clear s1 o1 b1 b2
  go_wp2_with fail
  refine (HL.out _ b12).mono ?_; rintro e w3 ⟨A3, c3, rfl, o3, b3⟩
  have s3 := Sl.of_own o3
  have b13 : Below w.heap.size w w3 := below_call b12 b3 b12.size
  go_wp2_with fail
  refine (HG.out _ _ _ s3).mono ?_; rintro e w4 ⟨rfl, b4⟩
  have b14 : Below w.heap.size w w4 := below_call b13 b4 b13.size
  clear s3 o3 b12 b13 b3 b4
  go_wp2_with fail
  refine (HC.out _ b14).mono ?_; rintro e w5 ⟨rfl, rfl⟩
  go_wp2_with fail
  refine (RC.out _ b14).mono ?_; rintro e w6 ⟨rfl, b6⟩
  have b16 : Below w.heap.size w w6 := below_call b14 b6 b14.size
  go_wp2_with fail
  refine (RH.out _ b16).mono ?_; rintro e w7 ⟨rfl, b7⟩
  have b17 : Below w.heap.size w w7 := below_call b16 b7 b16.size
  go_wp2_with (go_at_call 21; refine (awake _).mono ?_; rintro e w8 ⟨rfl, b8⟩)
  go_ret
  exact ⟨rfl, below_call b17 b8 b17.size⟩

theorem learnAsks_walk (w : World) (p : Int) (_ : (Lit.int .i64 p).wf = true) (A : Option Addr) (n c : Nat) (xs : List Int) (hs : Sl w A n c (xs.map (Value.int .i64))) (_ : ∀ x ∈ xs, -9223372036854775808 ≤ x ∧ x ≤ 9223372036854775807) :
    Calls Try.prog 9 #[.int .i64 p, .slice A n c] w fun e w' => e = .returned (.bool true) ∧ Below w.heap.size w w' := by
  by_cases h : Cls p xs
  · obtain ⟨q, rfl⟩ := Int.eq_ofNat_of_zero_le (show 0 ≤ p by have := h.p1; omega)
    exact learnAsks_good w q A n c xs hs h
  · exact learnAsks_bad w p A n c xs hs h
end Go.Proofs.Ytpebglilphgamaa
