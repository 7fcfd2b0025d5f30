/- Walk of LearnLeft. No condition. -/
import Derived.Test.YtpebglilphgamaaLeft
namespace Go.Proofs.Ytpebglilphgamaa
open Go.RowKit

theorem exs_take {p : Int} {l : List (Int × Int)} {m : Nat} (hm : l.length = m) : Exs p (l.take (min m 25)) ↔ Exs p l := by
  by_cases h : m ≤ 25
  · rw [Nat.min_eq_left h, List.take_of_length_le (by omega)]
  · refine ⟨fun H => ?_, fun H => ?_⟩
    · have := H.len; rw [List.length_take] at this; omega
    · have := H.len; omega
theorem exs_len {p : Int} {l : List (Int × Int)} {m : Nat} (hm : l.length = m) (H : Exs p l) : l.take (min m 25) = l := by
  have := H.len
  rw [List.take_of_length_le (by omega)]

theorem equalSame (A B : Option Addr) (n c m d : Nat) (xs : List Int) (w : World) (hs : Sl w A n c (xs.map (Value.int .i64))) (ht : Sl w B m d (xs.map (Value.int .i64))) :
    Calls Try.prog 22 #[.slice A n c, .slice B m d] w fun e w' => e = .returned (.bool true) ∧ Below w.heap.size w w' :=
  (equalInts A B n c m d xs xs w hs ht).mono fun _ _ h => ⟨h.1.trans (ret_b (decide_eq_true rfl).symm), h.2⟩

set_option maxRecDepth 100000 in
set_option maxHeartbeats 1000000 in
theorem leftBad (p : Int) (A : Option Addr) (n c : Nat) (xs : List Int) (E : Option Addr) (m d : Nat) (ls : List (Int × Int)) (H : ¬ (Cls p xs ∧ Exs p ls)) (w : World) (hs : Sl w A n c (xs.map (Value.int .i64))) (he : Sl2 w E m d ls) :
    Calls Try.prog 16 #[.int .i64 p, .slice A n c, .slice E m d] w fun e w' => e = .returned (.tuple #[.slice none 0 0, .int .i64 2]) ∧ Below w.heap.size w w' := by
  by_cases hc : Cls p xs
  · have hno : ¬ Exs p ls := fun h => H ⟨hc, h⟩
    have hl := hs.numlen
    have hn : n ≤ 16 := by have := hc.n16; omega
    have hp : p ≤ 60 := by have := hc.p5; omega
    have HR := hid (readOk p A n c xs w (fun _ _ => True) hs hc)
    have HF := hid fun s B W (hW : Sch W s p A n c xs B) (hW2 : Sl2 W E m d ls) => afterBad s p A n c xs B hp hn E m d ls hno W hW hW2
    have HE := hid he
    clear hl hs he H hc hno
    go_enter Try.func16, Try.ntmps16
    go_wp2_with fail
    refine (HR.out).mono ?_; rintro e w1 ⟨s, B, rfl, _, _, _, hsch, _, hb⟩
    go_wp2_with fail
    refine (HF.out s B _ hsch (HE.out.below hb)).mono ?_; rintro e w2 ⟨rfl, hb2⟩
    have hbb : Below w.heap.size w w2 := below_call hb hb2 hb.size
    go_wp2
    go_ret2
    exact ⟨rfl, hbb⟩
  · have HR := hid (readBad p A n c xs w hs hc)
    clear hs he H hc
    go_enter Try.func16, Try.ntmps16
    go_wp2_with fail
    refine (HR.out).mono ?_; rintro e w1 ⟨rfl, hb⟩
    go_wp2
    go_ret2
    exact ⟨rfl, hb⟩

set_option maxRecDepth 100000 in
set_option maxHeartbeats 1000000 in
theorem learnLeft_walk (w : World) (p : Int) (_ : (Lit.int .i64 p).wf = true) (A : Option Addr) (n c : Nat) (xs : List Int) (hs : Sl w A n c (xs.map (Value.int .i64))) (_ : ∀ x ∈ xs, -9223372036854775808 ≤ x ∧ x ≤ 9223372036854775807)
    (E : Option Addr) (m d : Nat) (ls : List (Int × Int)) (he : Sl2 w E m d ls) :
    Calls Try.prog 3 #[.int .i64 p, .slice A n c, .slice E m d] w fun e w' => e = .returned (.bool true) ∧ Below w.heap.size w w' := by
  have hn := hs.numlen
  have hm := he.len
  have HL := hid fun W (hb : Below w.heap.size w W) => lawList A n c xs W (hs.below hb)
  have HP := hid fun W (hb : Below w.heap.size w W) => lawPairs E m d ls W (he.below hb)
  have HS := hid hs; have HE := hid he
  by_cases h : Cls p xs ∧ Exs p ls
  · have h1 := take_min20 hn (by have := h.1.n16; omega)
    have h2 := exs_len hm h.2
    have h3 : min n 20 = n := Nat.min_eq_left (by have := h.1.n16; omega)
    have h4 : min m 25 = m := Nat.min_eq_left (by have := h.2.len; omega)
    have h60 : p ≤ 60 := by have := h.1.p5; omega
    have hn16 : n ≤ 16 := by have := h.1.n16; omega
    rw [h1, h3] at HL
    rw [h2, h4] at HP
    have HF := hid fun A' c' E' d' W (s1 : Sl W A' n c' (xs.map (Value.int .i64))) (s2 : Sl2 W E' m d' ls) => leftOk p A' n c' xs h.1 E' m d' ls h.2 W s1 s2
    have HC := hid fun W (hb : Below w.heap.size w W) => refClassOk p A n c xs W (HS.out.below hb) h.1
    have HX := hid fun W (hb : Below w.heap.size w W) => refExamplesOk p E m d ls h.2 W (HE.out.below hb)
    have HR := hid fun W (hb : Below w.heap.size w W) => refLeft A n c xs (by omega) p h60 E m d ls h.2 W (HS.out.below hb) (HE.out.below hb)
    clear h h1 h2 h3 h4 hs he hn hm hn16
    go_enter Try.func3, Try.ntmps3
    go_wp2_with fail
    refine (HL.out _ (Below.refl _ _)).mono ?_; rintro e w1 ⟨A1, c1, rfl, o1, b1⟩
    have s1 := Sl.of_own o1
    go_wp2_with fail
    refine (HP.out _ b1).mono ?_; rintro e w2 ⟨E1, d1, rfl, s2, b2⟩
    have b12 : Below w.heap.size w w2 := below_call b1 b2 b1.size
    have s1' := s1.below b2
    go_wp2_with fail
    refine (HF.out _ _ _ _ _ s1' s2).mono ?_; rintro e w3 ⟨A3, k3, c3, rfl, s3, b3⟩
    have b13 : Below w.heap.size w w3 := below_call b12 b3 b12.size
    go_wp2_with fail
    refine (HC.out _ b13).mono ?_; rintro e w4 ⟨rfl, rfl⟩
    go_wp2_with fail
    refine (HX.out _ b13).mono ?_; rintro e w5 ⟨rfl, b5⟩
    have b15 : Below w.heap.size w w5 := below_call b13 b5 b13.size
    have s5 := s3.below b5
    go_wp2_with fail
    refine (HR.out _ b15).mono ?_; rintro e w6 ⟨A6, k6, c6, rfl, s6, b6⟩
    have b16 : Below w.heap.size w w6 := below_call b15 b6 b15.size
    have s56 := s5.below b6
    have HQ := hid (equalSame A3 A6 k3 c3 k6 c6 _ _ s56 s6)
    go_wp2_with fail
    refine (HQ.out).mono ?_; rintro e w7 ⟨rfl, b7⟩
    have b17 : Below w.heap.size w w7 := below_call b16 b7 b16.size
    go_wp2_with (go_at_call 21; refine (awake _).mono ?_; rintro e w8 ⟨rfl, b8⟩)
    go_ret
    exact ⟨rfl, below_call b17 b8 b17.size⟩
  · have HF := hid fun A' c' E' d' W (s1 : Sl W A' (min n 20) c' ((xs.take (min n 20)).map (Value.int .i64))) (s2 : Sl2 W E' (min m 25) d' (ls.take (min m 25))) => leftBad p A' (min n 20) c' _ E' (min m 25) d' _ (fun H => h ⟨(cls_take hn).1 H.1, (exs_take hm).1 H.2⟩) W s1 s2
    by_cases hc : Cls p xs
    · have HC := hid fun W (hb : Below w.heap.size w W) => refClassOk p A n c xs W (HS.out.below hb) hc
      have HX := hid fun W (hb : Below w.heap.size w W) => refExamplesBad p E m d ls (fun he => h ⟨hc, he⟩) W (HE.out.below hb)
      clear h hs he hn hm hc
      go_enter Try.func3, Try.ntmps3
      go_wp2_with fail
      refine (HL.out _ (Below.refl _ _)).mono ?_; rintro e w1 ⟨A1, c1, rfl, o1, b1⟩
      have s1 := Sl.of_own o1
      go_wp2_with fail
      refine (HP.out _ b1).mono ?_; rintro e w2 ⟨E1, d1, rfl, s2, b2⟩
      have b12 : Below w.heap.size w w2 := below_call b1 b2 b1.size
      have s1' := s1.below b2
      go_wp2_with fail
      refine (HF.out _ _ _ _ _ s1' s2).mono ?_; rintro e w3 ⟨rfl, b3⟩
      have b13 : Below w.heap.size w w3 := below_call b12 b3 b12.size
      go_wp2_with fail
      refine (HC.out _ b13).mono ?_; rintro e w4 ⟨rfl, rfl⟩
      go_wp2_with fail
      refine (HX.out _ b13).mono ?_; rintro e w5 ⟨rfl, b5⟩
      have b15 : Below w.heap.size w w5 := below_call b13 b5 b13.size
      go_wp2_with (go_at_call 21; refine (awake _).mono ?_; rintro e w8 ⟨rfl, b8⟩)
      go_ret
      exact ⟨rfl, below_call b15 b8 b15.size⟩
    · have HC := hid fun W (hb : Below w.heap.size w W) => refClassBad p A n c xs W (HS.out.below hb) hc
      clear h hs he hn hm hc
      go_enter Try.func3, Try.ntmps3
      go_wp2_with fail
      refine (HL.out _ (Below.refl _ _)).mono ?_; rintro e w1 ⟨A1, c1, rfl, o1, b1⟩
      have s1 := Sl.of_own o1
      go_wp2_with fail
      refine (HP.out _ b1).mono ?_; rintro e w2 ⟨E1, d1, rfl, s2, b2⟩
      have b12 : Below w.heap.size w w2 := below_call b1 b2 b1.size
      have s1' := s1.below b2
      go_wp2_with fail
      refine (HF.out _ _ _ _ _ s1' s2).mono ?_; rintro e w3 ⟨rfl, b3⟩
      have b13 : Below w.heap.size w w3 := below_call b12 b3 b12.size
      go_wp2_with fail
      refine (HC.out _ b13).mono ?_; rintro e w4 ⟨rfl, rfl⟩
      go_wp2_with (go_at_call 21; refine (awake _).mono ?_; rintro e w8 ⟨rfl, b8⟩)
      go_ret
      exact ⟨rfl, below_call b13 b8 b13.size⟩
end Go.Proofs.Ytpebglilphgamaa
