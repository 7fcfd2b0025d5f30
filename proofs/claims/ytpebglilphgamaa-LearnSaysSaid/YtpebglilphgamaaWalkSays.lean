/- Walk of LearnSays. No condition. -/
import Derived.Test.YtpebglilphgamaaRefSay
namespace Go.Proofs.Ytpebglilphgamaa
open Go.RowKit

set_option maxRecDepth 100000 in
set_option maxHeartbeats 2000000 in
theorem learnSays_bad (w : World) (p : Int) (A : Option Addr) (n c : Nat) (xs : List Int) (hs : Sl w A n c (xs.map (Value.int .i64)))
    (E : Option Addr) (m d : Nat) (ls : List (Int × Int)) (he : Sl2 w E m d ls) (x : Int) (h : ¬ (Cls p xs ∧ Exs p ls ∧ 0 ≤ x ∧ x < p)) :
    Calls Try.prog 7 #[.int .i64 p, .slice A n c, .slice E m d, .int .i64 x] w fun e w' => e = .returned (.bool true) ∧ Below w.heap.size w w' := by
  have hn := hs.numlen
  have hm := he.len
  have HL := hid fun W (hb : Below w.heap.size w W) => lawList A n c xs W (hs.below hb)
  have HP := hid fun W (hb : Below w.heap.size w W) => lawPairs E m d ls W (he.below hb)
  have HS := hid hs; have HE := hid he
  have hB : ¬ (Cls p (xs.take (min n 20)) ∧ Exs p (ls.take (min m 25)) ∧ 0 ≤ x ∧ x < p) := fun H => h ⟨(cls_take hn).1 H.1, (exs_take hm).1 H.2.1, H.2.2⟩
  have HF := hid fun A' c' E' d' W (s1 : Sl W A' (min n 20) c' ((xs.take (min n 20)).map (Value.int .i64))) (s2 : Sl2 W E' (min m 25) d' (ls.take (min m 25))) => sayBad p A' (min n 20) c' _ E' (min m 25) d' _ x hB W s1 s2
  have HG := hid fun A' c' E' d' W (s1 : Sl W A' (min n 20) c' ((xs.take (min n 20)).map (Value.int .i64))) (s2 : Sl2 W E' (min m 25) d' (ls.take (min m 25))) => halveBad p A' (min n 20) c' _ E' (min m 25) d' _ x hB W s1 s2
  clear hs he hm hB
  by_cases hc : Cls p xs
  · have HC := hid fun W (hb : Below w.heap.size w W) => refClassOk p A n c xs W (HS.out.below hb) hc
    by_cases hx : Exs p ls
    · have HX := hid fun W (hb : Below w.heap.size w W) => refExamplesOk p E m d ls hx W (HE.out.below hb)
      by_cases h0 : x < 0
      · have h0' : decide (x < 0) = true := decide_eq_true h0
        clear h hn hc hx h0
        go_enter Try.func7, Try.ntmps7
        go_wp2_with fail
        refine (HL.out _ (Below.refl _ _)).mono ?_; rintro e w1 ⟨A1, c1, rfl, o1, b1⟩
        have s1 := Sl.of_own o1
        go_wp2_with fail
        refine (HP.out _ b1).mono ?_; rintro e w2 ⟨E1, d1, rfl, s2, b2⟩
        have b12 : Below w.heap.size w w2 := below_call b1 b2 b1.size
        have s1' := s1.below b2
        go_wp2_with fail
        refine (HF.out _ _ _ _ _ s1' s2).mono ?_; rintro e w3 ⟨rfl, b3⟩
        have b13 : Below w.heap.size w w3 := below_call b12 b3 b12.size
        clear s1 s1' s2 o1
        go_wp2_with fail
        refine (HL.out _ b13).mono ?_; rintro e w4 ⟨A4, c4, rfl, o4, b4⟩
        have b14 : Below w.heap.size w w4 := below_call b13 b4 b13.size
        have s4 := Sl.of_own o4
        go_wp2_with fail
        refine (HP.out _ b14).mono ?_; rintro e w5 ⟨E5, d5, rfl, s5, b5⟩
        have b15 : Below w.heap.size w w5 := below_call b14 b5 b14.size
        have s4' := s4.below b5
        go_wp2_with fail
        refine (HG.out _ _ _ _ _ s4' s5).mono ?_; rintro e w6 ⟨rfl, b6⟩
        have b16 : Below w.heap.size w w6 := below_call b15 b6 b15.size
        clear s4 s4' s5 o4 b1 b2 b12 b3 b13 b4 b14 b5 b15 b6
        go_wp2_with fail
        refine (HC.out _ b16).mono ?_; rintro e w7 ⟨rfl, rfl⟩
        go_wp2_with fail
        refine (HX.out _ b16).mono ?_; rintro e w8 ⟨rfl, b8⟩
        have b18 : Below w.heap.size w w8 := below_call b16 b8 b16.size
        go_wp2_with (go_at_call 21; refine (awake _).mono ?_; rintro e w9 ⟨rfl, b9⟩)
        go_ret
        exact ⟨rfl, below_call b18 b9 b18.size⟩
      have h0' : decide (x < 0) = false := decide_eq_false h0
      have h1' : decide (p ≤ x) = true := decide_eq_true (by
        rcases Int.lt_or_le x p with g | g
        · exact absurd ⟨hc, hx, by omega, g⟩ h
        · exact g)
      clear h hn hc hx h0
      go_enter Try.func7, Try.ntmps7
      go_wp2_with fail
      refine (HL.out _ (Below.refl _ _)).mono ?_; rintro e w1 ⟨A1, c1, rfl, o1, b1⟩
      have s1 := Sl.of_own o1
      go_wp2_with fail
      refine (HP.out _ b1).mono ?_; rintro e w2 ⟨E1, d1, rfl, s2, b2⟩
      have b12 : Below w.heap.size w w2 := below_call b1 b2 b1.size
      have s1' := s1.below b2
      go_wp2_with fail
      refine (HF.out _ _ _ _ _ s1' s2).mono ?_; rintro e w3 ⟨rfl, b3⟩
      have b13 : Below w.heap.size w w3 := below_call b12 b3 b12.size
      clear s1 s1' s2 o1
      go_wp2_with fail
      refine (HL.out _ b13).mono ?_; rintro e w4 ⟨A4, c4, rfl, o4, b4⟩
      have b14 : Below w.heap.size w w4 := below_call b13 b4 b13.size
      have s4 := Sl.of_own o4
      go_wp2_with fail
      refine (HP.out _ b14).mono ?_; rintro e w5 ⟨E5, d5, rfl, s5, b5⟩
      have b15 : Below w.heap.size w w5 := below_call b14 b5 b14.size
      have s4' := s4.below b5
      go_wp2_with fail
      refine (HG.out _ _ _ _ _ s4' s5).mono ?_; rintro e w6 ⟨rfl, b6⟩
      have b16 : Below w.heap.size w w6 := below_call b15 b6 b15.size
      clear s4 s4' s5 o4 b1 b2 b12 b3 b13 b4 b14 b5 b15 b6
      go_wp2_with fail
      refine (HC.out _ b16).mono ?_; rintro e w7 ⟨rfl, rfl⟩
      go_wp2_with fail
      refine (HX.out _ b16).mono ?_; rintro e w8 ⟨rfl, b8⟩
      have b18 : Below w.heap.size w w8 := below_call b16 b8 b16.size
      go_wp2_with (go_at_call 21; refine (awake _).mono ?_; rintro e w9 ⟨rfl, b9⟩)
      go_ret
      exact ⟨rfl, below_call b18 b9 b18.size⟩
    · have HX := hid fun W (hb : Below w.heap.size w W) => refExamplesBad p E m d ls hx W (HE.out.below hb)
      clear h hn hc hx
      go_enter Try.func7, Try.ntmps7
      go_wp2_with fail
      refine (HL.out _ (Below.refl _ _)).mono ?_; rintro e w1 ⟨A1, c1, rfl, o1, b1⟩
      have s1 := Sl.of_own o1
      go_wp2_with fail
      refine (HP.out _ b1).mono ?_; rintro e w2 ⟨E1, d1, rfl, s2, b2⟩
      have b12 : Below w.heap.size w w2 := below_call b1 b2 b1.size
      have s1' := s1.below b2
      go_wp2_with fail
      refine (HF.out _ _ _ _ _ s1' s2).mono ?_; rintro e w3 ⟨rfl, b3⟩
      have b13 : Below w.heap.size w w3 := below_call b12 b3 b12.size
      clear s1 s1' s2 o1
      go_wp2_with fail
      refine (HL.out _ b13).mono ?_; rintro e w4 ⟨A4, c4, rfl, o4, b4⟩
      have b14 : Below w.heap.size w w4 := below_call b13 b4 b13.size
      have s4 := Sl.of_own o4
      go_wp2_with fail
      refine (HP.out _ b14).mono ?_; rintro e w5 ⟨E5, d5, rfl, s5, b5⟩
      have b15 : Below w.heap.size w w5 := below_call b14 b5 b14.size
      have s4' := s4.below b5
      go_wp2_with fail
      refine (HG.out _ _ _ _ _ s4' s5).mono ?_; rintro e w6 ⟨rfl, b6⟩
      have b16 : Below w.heap.size w w6 := below_call b15 b6 b15.size
      clear s4 s4' s5 o4 b1 b2 b12 b3 b13 b4 b14 b5 b15 b6
      go_wp2_with fail
      refine (HC.out _ b16).mono ?_; rintro e w7 ⟨rfl, rfl⟩
      go_wp2_with fail
      refine (HX.out _ b16).mono ?_; rintro e w8 ⟨rfl, b8⟩
      have b18 : Below w.heap.size w w8 := below_call b16 b8 b16.size
      go_wp2_with (go_at_call 21; refine (awake _).mono ?_; rintro e w9 ⟨rfl, b9⟩)
      go_ret
      exact ⟨rfl, below_call b18 b9 b18.size⟩
  · have HC := hid fun W (hb : Below w.heap.size w W) => refClassBad p A n c xs W (HS.out.below hb) hc
    clear h hn hc
    go_enter Try.func7, Try.ntmps7
    go_wp2_with fail
    refine (HL.out _ (Below.refl _ _)).mono ?_; rintro e w1 ⟨A1, c1, rfl, o1, b1⟩
    have s1 := Sl.of_own o1
    go_wp2_with fail
    refine (HP.out _ b1).mono ?_; rintro e w2 ⟨E1, d1, rfl, s2, b2⟩
    have b12 : Below w.heap.size w w2 := below_call b1 b2 b1.size
    have s1' := s1.below b2
    go_wp2_with fail
    refine (HF.out _ _ _ _ _ s1' s2).mono ?_; rintro e w3 ⟨rfl, b3⟩
    have b13 : Below w.heap.size w w3 := below_call b12 b3 b12.size
    clear s1 s1' s2 o1
    go_wp2_with fail
    refine (HL.out _ b13).mono ?_; rintro e w4 ⟨A4, c4, rfl, o4, b4⟩
    have b14 : Below w.heap.size w w4 := below_call b13 b4 b13.size
    have s4 := Sl.of_own o4
    go_wp2_with fail
    refine (HP.out _ b14).mono ?_; rintro e w5 ⟨E5, d5, rfl, s5, b5⟩
    have b15 : Below w.heap.size w w5 := below_call b14 b5 b14.size
    have s4' := s4.below b5
    go_wp2_with fail
    refine (HG.out _ _ _ _ _ s4' s5).mono ?_; rintro e w6 ⟨rfl, b6⟩
    have b16 : Below w.heap.size w w6 := below_call b15 b6 b15.size
    clear s4 s4' s5 o4 b1 b2 b12 b3 b13 b4 b14 b5 b15 b6
    go_wp2_with fail
    refine (HC.out _ b16).mono ?_; rintro e w7 ⟨rfl, rfl⟩
    go_wp2_with (go_at_call 21; refine (awake _).mono ?_; rintro e w9 ⟨rfl, b9⟩)
    go_ret
    exact ⟨rfl, below_call b16 b9 b16.size⟩

set_option maxRecDepth 100000 in
set_option maxHeartbeats 2000000 in
theorem learnSays_good (w : World) (p : Nat) (A : Option Addr) (n c : Nat) (xs : List Int) (hs : Sl w A n c (xs.map (Value.int .i64)))
    (E : Option Addr) (m d : Nat) (ls : List (Int × Int)) (he : Sl2 w E m d ls) (x : Nat) (hc : Cls p xs) (hx : Exs p ls) (hxp : x < p) :
    Calls Try.prog 7 #[.int .i64 p, .slice A n c, .slice E m d, .int .i64 x] w fun e w' => e = .returned (.bool true) ∧ Below w.heap.size w w' := by
  have hn := hs.numlen
  have hm := he.len
  have h1 := take_min20 hn (by have := hc.n16; omega)
  have h2 := exs_len hm hx
  have h3 : min n 20 = n := Nat.min_eq_left (by have := hc.n16; omega)
  have h4 : min m 25 = m := Nat.min_eq_left (by have := hx.len; omega)
  have h60 : (p : Int) ≤ 60 := by have := hc.p5; omega
  have hn16 : n ≤ 16 := by have := hc.n16; omega
  have hx0 : decide ((x : Int) < 0) = false := decide_eq_false (by omega)
  have hx1 : decide ((p : Int) ≤ x) = false := decide_eq_false (by omega)
  have hx2 : decide (p ≤ x) = false := decide_eq_false (by omega)
  have HL := hid fun W (hb : Below w.heap.size w W) => lawList A n c xs W (hs.below hb)
  have HP := hid fun W (hb : Below w.heap.size w W) => lawPairs E m d ls W (he.below hb)
  rw [h1, h3] at HL
  rw [h2, h4] at HP
  have HS := hid hs; have HE := hid he
  have HC := hid fun W (hb : Below w.heap.size w W) => refClassOk p A n c xs W (HS.out.below hb) hc
  have HX := hid fun W (hb : Below w.heap.size w W) => refExamplesOk p E m d ls hx W (HE.out.below hb)
  have HR := hid fun W (hb : Below w.heap.size w W) => refLeft A n c xs (by omega) p h60 E m d ls hx W (HS.out.below hb) (HE.out.below hb)
  have HLL := hid (leftL_le xs ls)
  have HN := hid (show xs.length ≤ 16 from hc.n16)
  by_cases h0 : leftL xs ls = []
  · have HF := hid fun A' c' E' d' W (s1 : Sl W A' n c' (xs.map (Value.int .i64))) (s2 : Sl2 W E' m d' ls) => sayNone p A' n c' xs hc E' m d' ls hx x hxp h0 W s1 s2
    have HG := hid fun A' c' E' d' W (s1 : Sl W A' n c' (xs.map (Value.int .i64))) (s2 : Sl2 W E' m d' ls) => halveNone p A' n c' xs hc E' m d' ls hx x hxp h0 W s1 s2
    have H0 := hid h0
    clear h0 h1 h2 h3 h4 hs he hn hm hn16 hc hx hxp
    go_enter Try.func7, Try.ntmps7
    go_wp2_with fail
    refine (HL.out _ (Below.refl _ _)).mono ?_; rintro e w1 ⟨A1, c1, rfl, o1, b1⟩
    have s1 := Sl.of_own o1
    go_wp2_with fail
    refine (HP.out _ b1).mono ?_; rintro e w2 ⟨E1, d1, rfl, s2, b2⟩
    have b12 : Below w.heap.size w w2 := below_call b1 b2 b1.size
    have s1' := s1.below b2
    go_wp2_with fail
    refine (HF.out _ _ _ _ _ s1' s2).mono ?_; rintro e w3 ⟨rfl, b3⟩
    have b13 : Below w.heap.size w w3 := below_call b12 b3 b12.size
    clear s1 s1' s2 o1
    go_wp2_with fail
    refine (HL.out _ b13).mono ?_; rintro e w4 ⟨A4, c4, rfl, o4, b4⟩
    have b14 : Below w.heap.size w w4 := below_call b13 b4 b13.size
    have s4 := Sl.of_own o4
    go_wp2_with fail
    refine (HP.out _ b14).mono ?_; rintro e w5 ⟨E5, d5, rfl, s5, b5⟩
    have b15 : Below w.heap.size w w5 := below_call b14 b5 b14.size
    have s4' := s4.below b5
    go_wp2_with fail
    refine (HG.out _ _ _ _ _ s4' s5).mono ?_; rintro e w6 ⟨rfl, b6⟩
    have b16 : Below w.heap.size w w6 := below_call b15 b6 b15.size
    clear s4 s4' s5 o4 b1 b2 b12 b3 b13 b4 b14 b5 b15 b6
    go_wp2_with fail
    refine (HC.out _ b16).mono ?_; rintro e w7 ⟨rfl, rfl⟩
    go_wp2_with fail
    refine (HX.out _ b16).mono ?_; rintro e w8 ⟨rfl, b8⟩
    have b18 : Below w.heap.size w w8 := below_call b16 b8 b16.size
    go_wp2_with fail
    refine (HR.out _ b18).mono ?_; rintro e w9 ⟨A9, n9, c9, rfl, s9, b9⟩
    have b19 : Below w.heap.size w w9 := below_call b18 b9 b18.size
    obtain rfl : n9 = 0 := by have := s9.numlen; rw [H0.out] at this; simpa using this.symm
    clear s9
    go_wp2_with fail
    refine (refState A9 0 c9 _).mono ?_; rintro e w10 ⟨rfl, rfl⟩
    have hE : stErr 0 = 5 := rfl
    rw [hE]
    go_wp2_with (go_at_call 21; refine (awake _).mono ?_; rintro e w11 ⟨rfl, b11⟩)
    go_ret
    exact ⟨rfl, below_call b19 b11 b19.size⟩
  · have HF := hid fun A' c' E' d' W (s1 : Sl W A' n c' (xs.map (Value.int .i64))) (s2 : Sl2 W E' m d' ls) => sayOk p A' n c' xs hc E' m d' ls hx x hxp h0 W s1 s2
    have HG := hid fun A' c' E' d' W (s1 : Sl W A' n c' (xs.map (Value.int .i64))) (s2 : Sl2 W E' m d' ls) => halveOk p A' n c' xs hc E' m d' ls hx x hxp h0 W s1 s2
    have hp60 : p ≤ 60 := by omega
    have HS1 := hid fun A9 n9 c9 W (h : n9 ≤ 1000) (s : Sl W A9 n9 c9 ((leftL xs ls).map (Value.int .i64))) => refSay p hp60 A9 n9 c9 _ h0 x (by omega) h W s
    have HS2 := hid fun A9 n9 c9 W (h : n9 ≤ 1000) (s : Sl W A9 n9 c9 ((leftL xs ls).map (Value.int .i64))) => refHalve A9 n9 c9 _ x (by omega) h W s
    have H0 := hid h0
    clear h0 h1 h2 h3 h4 hs he hn hm hn16 hc hx hxp hp60
    go_enter Try.func7, Try.ntmps7
    go_wp2_with fail
    refine (HL.out _ (Below.refl _ _)).mono ?_; rintro e w1 ⟨A1, c1, rfl, o1, b1⟩
    have s1 := Sl.of_own o1
    go_wp2_with fail
    refine (HP.out _ b1).mono ?_; rintro e w2 ⟨E1, d1, rfl, s2, b2⟩
    have b12 : Below w.heap.size w w2 := below_call b1 b2 b1.size
    have s1' := s1.below b2
    go_wp2_with fail
    refine (HF.out _ _ _ _ _ s1' s2).mono ?_; rintro e w3 ⟨rfl, b3⟩
    have b13 : Below w.heap.size w w3 := below_call b12 b3 b12.size
    clear s1 s1' s2 o1
    go_wp2_with fail
    refine (HL.out _ b13).mono ?_; rintro e w4 ⟨A4, c4, rfl, o4, b4⟩
    have b14 : Below w.heap.size w w4 := below_call b13 b4 b13.size
    have s4 := Sl.of_own o4
    go_wp2_with fail
    refine (HP.out _ b14).mono ?_; rintro e w5 ⟨E5, d5, rfl, s5, b5⟩
    have b15 : Below w.heap.size w w5 := below_call b14 b5 b14.size
    have s4' := s4.below b5
    go_wp2_with fail
    refine (HG.out _ _ _ _ _ s4' s5).mono ?_; rintro e w6 ⟨rfl, b6⟩
    have b16 : Below w.heap.size w w6 := below_call b15 b6 b15.size
    clear s4 s4' s5 o4 b1 b2 b12 b3 b13 b4 b14 b5 b15 b6
    go_wp2_with fail
    refine (HC.out _ b16).mono ?_; rintro e w7 ⟨rfl, rfl⟩
    go_wp2_with fail
    refine (HX.out _ b16).mono ?_; rintro e w8 ⟨rfl, b8⟩
    have b18 : Below w.heap.size w w8 := below_call b16 b8 b16.size
    go_wp2_with fail
    refine (HR.out _ b18).mono ?_; rintro e w9 ⟨A9, n9, c9, rfl, s9, b9⟩
    have b19 : Below w.heap.size w w9 := below_call b18 b9 b18.size
    have hE : stErr n9 = 0 := if_neg (by
      intro e
      have := s9.numlen
      exact H0.out (List.eq_nil_of_length_eq_zero (by omega)))
    have h9 : n9 ≤ 1000 := by have := s9.numlen; have := HLL.out; have := HN.out; omega
    have K9 := hid s9
    have H9 := hid h9
    clear s9 h9
    go_wp2_with fail
    refine (refState A9 n9 c9 _).mono ?_; rintro e w10 ⟨rfl, rfl⟩
    rw [hE]
    go_wp2_with fail
    refine (HS1.out _ _ _ _ H9.out K9.out).mono ?_; rintro e w11 ⟨rfl, b11⟩
    have b111 : Below w.heap.size w w11 := below_call b19 b11 b19.size
    have K11 := hid (K9.out.below b11)
    go_wp2_with fail
    refine (HS2.out _ _ _ _ H9.out K11.out).mono ?_; rintro e w12 ⟨rfl, b12⟩
    have b112 : Below w.heap.size w w12 := below_call b111 b12 b111.size
    go_wp2_with (go_at_call 21; refine (awake _).mono ?_; rintro e w13 ⟨rfl, b13⟩)
    go_ret
    exact ⟨rfl, below_call b112 b13 b112.size⟩

theorem learnSays_walk (w : World) (p : Int) (_ : (Lit.int .i64 p).wf = true) (A : Option Addr) (n c : Nat) (xs : List Int) (hs : Sl w A n c (xs.map (Value.int .i64))) (_ : ∀ x ∈ xs, -9223372036854775808 ≤ x ∧ x ≤ 9223372036854775807)
    (E : Option Addr) (m d : Nat) (ls : List (Int × Int)) (he : Sl2 w E m d ls) (x : Int) (_ : (Lit.int .i64 x).wf = true) :
    Calls Try.prog 7 #[.int .i64 p, .slice A n c, .slice E m d, .int .i64 x] w fun e w' => e = .returned (.bool true) ∧ Below w.heap.size w w' := by
  by_cases h : Cls p xs ∧ Exs p ls ∧ 0 ≤ x ∧ x < p
  · obtain ⟨q, rfl⟩ := Int.eq_ofNat_of_zero_le (show 0 ≤ p by have := h.1.p1; omega)
    obtain ⟨y, rfl⟩ := Int.eq_ofNat_of_zero_le h.2.2.1
    exact learnSays_good w q A n c xs hs E m d ls he y h.1 h.2.1 (by have := h.2.2.2; omega)
  · exact learnSays_bad w p A n c xs hs E m d ls he x h
end Go.Proofs.Ytpebglilphgamaa
