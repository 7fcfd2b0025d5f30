/- Walk of LearnKeys. No condition. -/
import Derived.Test.YtpebglilphgamaaTeach
namespace Go.Proofs.Ytpebglilphgamaa
open Go.RowKit

set_option maxRecDepth 100000 in
set_option maxHeartbeats 1000000 in
theorem learnKeys_bad (w : World) (p : Int) (A : Option Addr) (n c : Nat) (xs : List Int) (hs : Sl w A n c (xs.map (Value.int .i64))) (x : Int) (h : ¬ Cls p xs) :
    Calls Try.prog 8 #[.int .i64 p, .slice A n c, .int .i64 x] w fun e w' => e = .returned (.bool true) ∧ Below w.heap.size w w' := by
  have hn := hs.numlen
  have HL := hid fun W (hb : Below w.heap.size w W) => lawList A n c xs W (hs.below hb)
  have hB : ¬ Cls p (xs.take (min n 20)) := fun H => h ((cls_take hn).1 H)
  have HF := hid fun A' c' W (s1 : Sl W A' (min n 20) c' ((xs.take (min n 20)).map (Value.int .i64))) => keyBad p A' (min n 20) c' _ x (by omega) W s1 hB
  have HG := hid fun A' c' W (s1 : Sl W A' (min n 20) c' ((xs.take (min n 20)).map (Value.int .i64))) => teachBad p A' (min n 20) c' _ W s1 hB
  have HC := hid fun W (hb : Below w.heap.size w W) => refClassBad p A n c xs W (hs.below hb) h
  clear hs hB h hn
  go_enter Try.func8, Try.ntmps8
  go_wp2_with fail
  refine (HL.out _ (Below.refl _ _)).mono ?_; rintro e w1 ⟨A1, c1, rfl, o1, b1⟩
  have s1 := Sl.of_own o1
  go_wp2_with fail
  refine (HF.out _ _ _ s1).mono ?_; rintro e w2 ⟨rfl, b2⟩
  have b12 : Below w.heap.size w w2 := below_call b1 b2 b1.size
  clear s1 o1 b1 b2
  go_wp2_with fail
  refine (HL.out _ b12).mono ?_; rintro e w3 ⟨A3, c3, rfl, o3, b3⟩
  have s3 := Sl.of_own o3
  have b13 : Below w.heap.size w w3 := below_call b12 b3 b12.size
  go_wp2_with fail
  refine (HG.out _ _ _ s3).mono ?_; rintro e w4 ⟨rfl, b4⟩
  have b14 : Below w.heap.size w w4 := below_call b13 b4 b13.size
  clear s3 o3 b12 b13 b3 b4
  go_wp2_with fail
  refine (HC.out _ b14).mono ?_; rintro e w5 ⟨rfl, rfl⟩
  go_wp2_with (go_at_call 21; refine (awake _).mono ?_; rintro e w6 ⟨rfl, b6⟩)
  go_ret
  exact ⟨rfl, below_call b14 b6 b14.size⟩

set_option maxRecDepth 100000 in
set_option maxHeartbeats 1000000 in
theorem learnKeys_in (w : World) (p : Nat) (A : Option Addr) (n c : Nat) (xs : List Int) (hs : Sl w A n c (xs.map (Value.int .i64))) (x : Int) (h : Cls p xs) (hx : x ∈ xs) :
    Calls Try.prog 8 #[.int .i64 p, .slice A n c, .int .i64 x] w fun e w' => e = .returned (.bool true) ∧ Below w.heap.size w w' := by
  have hn := hs.numlen
  have h1 := take_min20 hn (by have := h.n16; omega)
  have h3 : min n 20 = n := Nat.min_eq_left (by have := h.n16; omega)
  have hn1000 : n ≤ 1000 := by have := h.n16; omega
  have HL := hid fun W (hb : Below w.heap.size w W) => lawList A n c xs W (hs.below hb)
  rw [h1, h3] at HL
  have HF := hid fun A' c' W (s1 : Sl W A' n c' (xs.map (Value.int .i64))) => keyPub p A' n c' xs x hx W s1 h
  have HG := hid fun A' c' W (s1 : Sl W A' n c' (xs.map (Value.int .i64))) => teachPub p A' n c' xs W s1 h
  have HC := hid fun W (hb : Below w.heap.size w W) => refClassOk p A n c xs W (hs.below hb) h
  have HRT := hid fun W (hb : Below w.heap.size w W) => refTeach p A n c xs h.p6 h.inP hn1000 W (hs.below hb)
  have HRH := hid fun W (hb : Below w.heap.size w W) => refHas A n c xs x W (hs.below hb)
  have hd : decide (x ∈ xs) = true := decide_eq_true hx
  rw [hd] at HRH
  have HRK := hid fun W (hb : Below w.heap.size w W) => refKey p A n c xs h.p6 h.inP hn1000 x (h.inP x hx) W (hs.below hb)
  clear hd
  clear hs h hn h1 h3 hx hn1000
  go_enter Try.func8, Try.ntmps8
  go_wp2_with fail
  refine (HL.out _ (Below.refl _ _)).mono ?_; rintro e w1 ⟨A1, c1, rfl, o1, b1⟩
  have s1 := Sl.of_own o1
  go_wp2_with fail
  refine (HF.out _ _ _ s1).mono ?_; rintro e w2 ⟨rfl, b2⟩
  have b12 : Below w.heap.size w w2 := below_call b1 b2 b1.size
  clear s1 o1 b1 b2
  go_wp2_with fail
  refine (HL.out _ b12).mono ?_; rintro e w3 ⟨A3, c3, rfl, o3, b3⟩
  have s3 := Sl.of_own o3
  have b13 : Below w.heap.size w w3 := below_call b12 b3 b12.size
  go_wp2_with fail
  refine (HG.out _ _ _ s3).mono ?_; rintro e w4 ⟨rfl, b4⟩
  have b14 : Below w.heap.size w w4 := below_call b13 b4 b13.size
  clear s3 o3 b12 b13 b3 b4
  go_wp2_with fail
  refine (HC.out _ b14).mono ?_; rintro e w5 ⟨rfl, rfl⟩
  go_wp2_with fail
  refine (HRT.out _ b14).mono ?_; rintro e w6 ⟨rfl, rfl⟩
  go_wp2_with fail
  refine (awake _).mono ?_; rintro e w7 ⟨rfl, b7⟩
  have b17 := below_call b14 b7 b14.size
  go_wp2_with fail
  refine (HRH.out _ b17).mono ?_; rintro e w8 ⟨rfl, rfl⟩
  go_wp2_with fail
  refine (HRK.out _ b17).mono ?_; rintro e w9 ⟨rfl, rfl⟩
  go_wp2
  go_ret
  exact ⟨rfl, b17⟩

set_option maxRecDepth 100000 in
set_option maxHeartbeats 1000000 in
theorem learnKeys_out (w : World) (p : Nat) (A : Option Addr) (n c : Nat) (xs : List Int) (hs : Sl w A n c (xs.map (Value.int .i64))) (x : Int) (h : Cls p xs) (hx : x ∉ xs) :
    Calls Try.prog 8 #[.int .i64 p, .slice A n c, .int .i64 x] w fun e w' => e = .returned (.bool true) ∧ Below w.heap.size w w' := by
  have hn := hs.numlen
  have h1 := take_min20 hn (by have := h.n16; omega)
  have h3 : min n 20 = n := Nat.min_eq_left (by have := h.n16; omega)
  have hn1000 : n ≤ 1000 := by have := h.n16; omega
  have HL := hid fun W (hb : Below w.heap.size w W) => lawList A n c xs W (hs.below hb)
  rw [h1, h3] at HL
  have HF := hid fun A' c' W (s1 : Sl W A' n c' (xs.map (Value.int .i64))) => keyNone p A' n c' xs x hx W s1 h
  have HG := hid fun A' c' W (s1 : Sl W A' n c' (xs.map (Value.int .i64))) => teachPub p A' n c' xs W s1 h
  have HC := hid fun W (hb : Below w.heap.size w W) => refClassOk p A n c xs W (hs.below hb) h
  have HRT := hid fun W (hb : Below w.heap.size w W) => refTeach p A n c xs h.p6 h.inP hn1000 W (hs.below hb)
  have HRH := hid fun W (hb : Below w.heap.size w W) => refHas A n c xs x W (hs.below hb)
  have hd : decide (x ∈ xs) = false := decide_eq_false hx
  rw [hd] at HRH
  clear hd
  clear hs h hn h1 h3 hx hn1000
  go_enter Try.func8, Try.ntmps8
  go_wp2_with fail
  refine (HL.out _ (Below.refl _ _)).mono ?_; rintro e w1 ⟨A1, c1, rfl, o1, b1⟩
  have s1 := Sl.of_own o1
  go_wp2_with fail
  refine (HF.out _ _ _ s1).mono ?_; rintro e w2 ⟨rfl, b2⟩
  have b12 : Below w.heap.size w w2 := below_call b1 b2 b1.size
  clear s1 o1 b1 b2
  go_wp2_with fail
  refine (HL.out _ b12).mono ?_; rintro e w3 ⟨A3, c3, rfl, o3, b3⟩
  have s3 := Sl.of_own o3
  have b13 : Below w.heap.size w w3 := below_call b12 b3 b12.size
  go_wp2_with fail
  refine (HG.out _ _ _ s3).mono ?_; rintro e w4 ⟨rfl, b4⟩
  have b14 : Below w.heap.size w w4 := below_call b13 b4 b13.size
  clear s3 o3 b12 b13 b3 b4
  go_wp2_with fail
  refine (HC.out _ b14).mono ?_; rintro e w5 ⟨rfl, rfl⟩
  go_wp2_with fail
  refine (HRT.out _ b14).mono ?_; rintro e w6 ⟨rfl, rfl⟩
  go_wp2_with fail
  refine (awake _).mono ?_; rintro e w7 ⟨rfl, b7⟩
  have b17 := below_call b14 b7 b14.size
  go_wp2_with fail
  refine (HRH.out _ b17).mono ?_; rintro e w8 ⟨rfl, rfl⟩
  go_wp2
  go_ret
  exact ⟨rfl, b17⟩

theorem learnKeys_walk (w : World) (p : Int) (_ : (Lit.int .i64 p).wf = true) (A : Option Addr) (n c : Nat) (xs : List Int) (hs : Sl w A n c (xs.map (Value.int .i64))) (_ : ∀ x ∈ xs, -9223372036854775808 ≤ x ∧ x ≤ 9223372036854775807) (x : Int) (_ : (Lit.int .i64 x).wf = true) :
    Calls Try.prog 8 #[.int .i64 p, .slice A n c, .int .i64 x] w fun e w' => e = .returned (.bool true) ∧ Below w.heap.size w w' := by
  by_cases h : Cls p xs
  · obtain ⟨q, rfl⟩ := Int.eq_ofNat_of_zero_le (show 0 ≤ p by have := h.p1; omega)
    by_cases hx : x ∈ xs
    · exact learnKeys_in w q A n c xs hs x h hx
    · exact learnKeys_out w q A n c xs hs x h hx
  · exact learnKeys_bad w p A n c xs hs x h
end Go.Proofs.Ytpebglilphgamaa
