/- Walk of GuessAsked. No condition. -/
import Derived.Test.YtdclmhmdkhpekaaCmp
import Derived.Test.YtdclmhmdkhpekaaMoreM
import Derived.Test.YtdclmhmdkhpekaaWalkAfter
namespace Go.Proofs.Ytdclmhmdkhpekaa
open Go.RowKit

set_option maxRecDepth 100000 in
set_option maxHeartbeats 1000000 in
theorem guessAsked_bad (w : World) (A : Option Addr) (n c : Nat) (xs : List Int) (q : Int) (B : Option Addr) (n' d : Nat) (hs : Sl w A n c (xs.map (Value.int .i64))) (h : ¬ (stateOk 24 xs = true ∧ 0 ≤ q ∧ q ≤ 12)) :
    Calls Try.prog 16 #[.slice A n c, .int .i64 q, .slice B n' d] w fun e w' => e = .returned (.bool true) ∧ Below w.heap.size w w' := by
  have hn := hs.numlen
  have HL := hid (lawList A n c xs w hs)
  have HB := hid fun A' c' W (s1 : Sl W A' (min n 7) c' ((xs.take (min n 7)).map (Value.int .i64))) => askBad A' (min n 7) c' _ q W s1 (by rw [stateOk_take hn]; exact h)
  have HST := hid fun W (hb : Below w.heap.size w W) => refState A n c xs 24 (by omega) W (hs.below hb)
  clear hs hn
  cases h1 : stateOk 24 xs
  · rw [h1] at HST
    clear h h1
    go_enter Try.func16, Try.ntmps16
    go_wp2_with fail
    refine HL.out.mono ?_; rintro e w1 ⟨A1, c1, rfl, o1, b1⟩
    have s1 := Sl.of_own o1
    go_wp2_with fail
    refine (HB.out _ _ _ s1).mono ?_; rintro e w2 ⟨rfl, rfl⟩
    clear s1 o1
    go_wp2_with (first | (go_at_call 29; refine (HST.out _ b1).mono ?_; rintro e w3 ⟨rfl, rfl⟩) | (go_at_call 20; refine (awake _).mono ?_; rintro e w6 ⟨rfl, b6⟩))
    go_ret
    exact ⟨rfl, below_call b1 b6 b1.size⟩
  · rw [h1] at HST
    by_cases h2 : q < 0
    · have d1 : decide (q < 0) = true := decide_eq_true h2
      clear h h1 h2
      go_enter Try.func16, Try.ntmps16
      go_wp2_with fail
      refine HL.out.mono ?_; rintro e w1 ⟨A1, c1, rfl, o1, b1⟩
      have s1 := Sl.of_own o1
      go_wp2_with fail
      refine (HB.out _ _ _ s1).mono ?_; rintro e w2 ⟨rfl, rfl⟩
      clear s1 o1
      go_wp2_with (first | (go_at_call 29; refine (HST.out _ b1).mono ?_; rintro e w3 ⟨rfl, rfl⟩) | (go_at_call 20; refine (awake _).mono ?_; rintro e w6 ⟨rfl, b6⟩))
      go_ret
      exact ⟨rfl, below_call b1 b6 b1.size⟩
    · have d1 : decide (q < 0) = false := decide_eq_false h2
      have d2 : decide (12 < q) = true := decide_eq_true (by simp only [h1, true_and] at h; omega)
      clear h h1 h2
      go_enter Try.func16, Try.ntmps16
      go_wp2_with fail
      refine HL.out.mono ?_; rintro e w1 ⟨A1, c1, rfl, o1, b1⟩
      have s1 := Sl.of_own o1
      go_wp2_with fail
      refine (HB.out _ _ _ s1).mono ?_; rintro e w2 ⟨rfl, rfl⟩
      clear s1 o1
      go_wp2_with (first | (go_at_call 29; refine (HST.out _ b1).mono ?_; rintro e w3 ⟨rfl, rfl⟩) | (go_at_call 20; refine (awake _).mono ?_; rintro e w6 ⟨rfl, b6⟩))
      go_ret
      exact ⟨rfl, below_call b1 b6 b1.size⟩

set_option maxRecDepth 100000 in
set_option maxHeartbeats 2000000 in
theorem guessAsked_no (w : World) (A : Option Addr) (n c : Nat) (xs : List Int) (q : Nat) (B : Option Addr) (n' d : Nat) (hq : q ≤ 12) (hs : Sl w A n c (xs.map (Value.int .i64))) (h : stateOk 24 xs = true) (hw : ¬ (winS q xs = true ∧ 1 < total xs)) :
    Calls Try.prog 16 #[.slice A n c, .int .i64 q, .slice B n' d] w fun e w' => e = .returned (.bool true) ∧ Below w.heap.size w w' := by
  have hn := hs.numlen
  have e1 := take_min7 hn (by have := stateOk_len h; omega)
  have e2 : min n 7 = n := Nat.min_eq_left (by have := stateOk_len h; omega)
  have HL := hid fun W (hb : Below w.heap.size w W) => lawList A n c xs W (hs.below hb)
  rw [e1, e2] at HL
  have HP := plays24 h
  have HSM := hid fun W (hb : Below w.heap.size w W) => lawSum A n c xs 1000 (by omega) (by have := HP.nn.hi; omega) HP.bd W (hs.below hb)
  have HA := hid fun A' c' W (s1 : Sl W A' n c' (xs.map (Value.int .i64))) => askPub A' n c' xs q hq W s1 h
  have HW := hid fun A' c' W (s1 : Sl W A' n c' (xs.map (Value.int .i64))) => winsPub A' n c' xs q hq W s1 h
  have HST := hid fun W (hb : Below w.heap.size w W) => refState A n c xs 24 (by omega) W (hs.below hb)
  rw [h] at HST
  have g1 : decide ((q : Int) < 0) = false := decide_eq_false (by omega)
  have g2 : decide (12 < (q : Int)) = false := decide_eq_false (by omega)
  have g3 : decide (12 < q) = false := decide_eq_false (by omega)
  clear hs h hn e1 e2 HP
  by_cases ht : total xs ≤ 1
  · have k1 : decide (total xs ≤ 1) = true := decide_eq_true ht
    have ea : askE q xs = 5 := if_pos ht
    rw [ea] at HA
    rw [winS_small ht q] at HW
    clear hw ht ea
    go_enter Try.func16, Try.ntmps16
    go_wp2_with fail
    refine (HL.out _ (Below.refl _ _)).mono ?_; rintro e w1 ⟨A1, c1, rfl, o1, b1⟩
    have s1 := Sl.of_own o1
    go_wp2_with fail
    refine (HA.out _ _ _ s1).mono ?_; rintro e w2 ⟨A2, m2, c2, rfl, s2, b2⟩
    have b12 : Below w.heap.size w w2 := below_call b1 b2 b1.size
    clear s1 o1 b1 b2 s2
    go_wp2_with fail
    refine (HST.out _ b12).mono ?_; rintro e w3 ⟨rfl, rfl⟩
    go_wp2_with fail
    refine (HL.out _ b12).mono ?_; rintro e w4 ⟨A4, c4, rfl, o4, b4⟩
    have s4 := Sl.of_own o4
    have b14 : Below w.heap.size w w4 := below_call b12 b4 b12.size
    go_wp2_with fail
    refine (HW.out _ _ _ s4).mono ?_; rintro e w5 ⟨rfl, b5⟩
    have b15 : Below w.heap.size w w5 := below_call b14 b5 b14.size
    clear s4 o4 b12 b4 b14 b5
    go_wp2_with (first | (go_at_call 33; refine (HSM.out _ b15).mono ?_; rintro e w' ⟨rfl, rfl⟩) | (go_at_call 20; refine (awake _).mono ?_; rintro e w6 ⟨rfl, b6⟩))
    go_ret
    exact ⟨rfl, below_call b15 b6 b15.size⟩
  · have k1 : decide (total xs ≤ 1) = false := decide_eq_false ht
    have k2 : decide (1 < total xs) = true := decide_eq_true (by omega)
    have hf : winS q xs = false := by
      cases e : winS q xs with
      | false => rfl
      | true => exact absurd ⟨e, by omega⟩ hw
    have ea : askE q xs = 4 := by unfold askE; rw [if_neg ht, if_neg (by rw [hf]; simp)]
    rw [ea] at HA
    rw [hf] at HW
    clear hw ht ea hf
    go_enter Try.func16, Try.ntmps16
    go_wp2_with fail
    refine (HL.out _ (Below.refl _ _)).mono ?_; rintro e w1 ⟨A1, c1, rfl, o1, b1⟩
    have s1 := Sl.of_own o1
    go_wp2_with fail
    refine (HA.out _ _ _ s1).mono ?_; rintro e w2 ⟨A2, m2, c2, rfl, s2, b2⟩
    have b12 : Below w.heap.size w w2 := below_call b1 b2 b1.size
    clear s1 o1 b1 b2 s2
    go_wp2_with fail
    refine (HST.out _ b12).mono ?_; rintro e w3 ⟨rfl, rfl⟩
    go_wp2_with fail
    refine (HL.out _ b12).mono ?_; rintro e w4 ⟨A4, c4, rfl, o4, b4⟩
    have s4 := Sl.of_own o4
    have b14 : Below w.heap.size w w4 := below_call b12 b4 b12.size
    go_wp2_with fail
    refine (HW.out _ _ _ s4).mono ?_; rintro e w5 ⟨rfl, b5⟩
    have b15 : Below w.heap.size w w5 := below_call b14 b5 b14.size
    clear s4 o4 b12 b4 b14 b5
    go_wp2_with (first | (go_at_call 33; refine (HSM.out _ b15).mono ?_; rintro e w' ⟨rfl, rfl⟩) | (go_at_call 20; refine (awake _).mono ?_; rintro e w6 ⟨rfl, b6⟩))
    go_ret
    exact ⟨rfl, below_call b15 b6 b15.size⟩

theorem asked_found {q : Nat} {xs : List Int} (h : Nn xs) (hq : winS q xs = true) (ht : 1 < total xs) :
    ∃ r, 1 ≤ q ∧ askR q xs = r ∧ askOk xs r = true ∧ winS (q - 1) (after true xs r) = true ∧ winS (q - 1) (after false xs r) = true ∧
      ∀ o, askOk xs o = true → cmpL o r < 0 → ¬ (winS (q - 1) (after true xs o) = true ∧ winS (q - 1) (after false xs o) = true) := by
  cases q with
  | zero => simp only [winS, decide_eq_true_eq] at hq; omega
  | succ k =>
    have hw := (winS_succ h).1 hq
    have h1 : ¬ total xs ≤ 1 := by omega
    rcases hw with hw | ⟨hwt, _⟩
    · exact absurd hw h1
    have hs := hq
    rw [winS_ask h1 hwt] at hs
    obtain ⟨r, hr⟩ := Option.isSome_iff_exists.1 hs
    obtain ⟨hg, s, hrs, hl, hb⟩ := firstQ_good _ _ _ hr
    have : r = s := by simpa using hrs
    subst this
    unfold goodQ at hg
    simp only [Bool.and_eq_true, decide_eq_true_eq] at hg
    have hok : askOk xs r = true := askOk_iff.2 ⟨hl, fun j hj => by have h2 := hb j (by omega); have h3 := h.nn j (by omega); omega⟩
    refine ⟨r, by omega, by simp [askR, if_neg h1, if_pos hq, hr], hok, hg.1.2, hg.2, fun o ho hc hh => ?_⟩
    have hbef := firstQ_before _ _ _ hr o r (by simp) hl (askOk_iff.1 ho).1 (fun j hj => (askOk_iff.1 ho).2 j (by rw [(askOk_iff.1 ho).1]; exact hj)) hc
    have w1 := winS_weight (h.after ho true) hh.1
    have w2 := winS_weight (h.after ho false) hh.2
    simp only [List.nil_append, goodQ] at hbef
    simp only [Nat.add_sub_cancel] at hh w1 w2
    rw [decide_eq_true w1, decide_eq_true w2, hh.1, hh.2] at hbef
    simp at hbef

set_option maxRecDepth 100000 in
set_option maxHeartbeats 4000000 in
theorem guessAsked_yes (w : World) (A : Option Addr) (n c : Nat) (xs : List Int) (q : Nat) (B : Option Addr) (n' d : Nat) (os : List Int) (hq : q ≤ 12) (hs : Sl w A n c (xs.map (Value.int .i64))) (ho : Sl w B n' d (os.map (Value.int .i64))) (h : stateOk 24 xs = true) (hw : winS q xs = true) (ht : 1 < total xs) :
    Calls Try.prog 16 #[.slice A n c, .int .i64 q, .slice B n' d] w fun e w' => e = .returned (.bool true) ∧ Below w.heap.size w w' := by
  have hn := hs.numlen
  have hon := ho.numlen
  have e1 := take_min7 hn (by have := stateOk_len h; omega)
  have e2 : min n 7 = n := Nat.min_eq_left (by have := stateOk_len h; omega)
  have HL := hid fun W (hb : Below w.heap.size w W) => lawList A n c xs W (hs.below hb)
  rw [e1, e2] at HL
  have HP := plays24 h
  have h200 : stateOk 200 xs = true := state_of HP.nn (by have := (stateOk_iff.1 h).2.2.2; omega)
  obtain ⟨r, hq1, hr, hrok, hw1, hw2, hno⟩ := asked_found HP.nn hw ht
  have HA := hid fun A' c' W (s1 : Sl W A' n c' (xs.map (Value.int .i64))) => askPub A' n c' xs q hq W s1 h
  rw [hr, show askE q xs = 0 from by unfold askE; rw [if_neg (by omega), if_pos hw]] at HA
  have HW := hid fun A' c' W (s1 : Sl W A' n c' (xs.map (Value.int .i64))) => winsPub A' n c' xs q hq W s1 h
  rw [hw] at HW
  have hq0 : ((q - 1 : Nat) : Int) = (q : Int) - 1 := by omega
  have HV := hid fun (ys : List Int) (hy : askOk xs ys = true) (yes : Bool) A' m' c' W (s1 : Sl W A' m' c' ((after yes xs ys).map (Value.int .i64))) => (show Calls Try.prog 39 #[.slice A' m' c', .int .i64 ((q : Int) - 1)] W fun e w' => e = .returned (.tuple #[.bool (winS (q - 1) (after yes xs ys)), .int .i64 0]) ∧ Below W.heap.size W w' by
    have := winsPub A' m' c' (after yes xs ys) (q - 1) (by omega) W s1 (after_ok h hy)
    rwa [hq0] at this)
  have HST := hid fun W (hb : Below w.heap.size w W) => refState A n c xs 24 (by omega) W (hs.below hb)
  rw [h] at HST
  have hn4 : n ≤ 4 := by have := HP.nn.hi; omega
  have HN4 := hid hn4
  have hrl : r.length = n := by have := (askOk_iff.1 hrok).1; omega
  have HRL := hid hrl
  have HQ := hid fun A' m' c' W (hb : Below w.heap.size w W) (s1 : Sl W A' m' c' (r.map (Value.int .i64))) => (show Calls Try.prog 30 #[.slice A n c, .slice A' m' c'] W fun e w' => e = .returned (.bool true) ∧ W = w' by
    have := refQuestion A A' n c m' c' xs r W (hs.below hb) s1
    rwa [hrok] at this)
  have HAF := hid fun (ys : List Int) (hy : askOk xs ys = true) (yes : Bool) A' c' B' m' d' W (s1 : Sl W A' n c' (xs.map (Value.int .i64))) (s2 : Sl W B' m' d' (ys.map (Value.int .i64))) => afterPub_yes A' B' n c' m' d' xs ys yes W s1 s2 h200 hy
  have HR := hid fun yes => (show winS (q - 1) (after yes xs r) = true by cases yes; exact hw2; exact hw1)
  have HNO := hid hno
  have HOQ := hid fun W (hb : Below w.heap.size w W) => refQuestion A B n c n' d xs os W (hs.below hb) (ho.below hb)
  have HOL := hid fun W (hb : Below w.heap.size w W) => lawList B n' d os W (ho.below hb)
  have HOS := hid fun W (hb : Below w.heap.size w W) => ho.below hb
  have HRK := hid hrok
  have HON := hid hon
  have HTK := hid fun (h : n' = n) => take_min7 (n := n') hon (by omega)
  have HXN := hid hn
  have g1 : decide ((q : Int) < 0) = false := decide_eq_false (by omega)
  have g2 : decide (12 < (q : Int)) = false := decide_eq_false (by omega)
  have g3 : decide (12 < q) = false := decide_eq_false (by omega)
  have q0 : ((q : Int) == 0) = false := by rw [beq_eq_false_iff_ne]; omega
  have q0n : (q == 0) = false := by rw [beq_eq_false_iff_ne]; omega
  have qb1 : (1 : Int) ≤ (q : Int) := by omega
  have qb2 : (q : Int) ≤ 12 := by omega
  clear hs ho h e1 e2 HP hw ht hn hon hno hrok h200 hw1 hw2 hr hrl
  go_enter Try.func16, Try.ntmps16
  go_wp2_with fail
  refine (HL.out _ (Below.refl _ _)).mono ?_; rintro e w1 ⟨A1, c1, rfl, o1, b1⟩
  have s1 := Sl.of_own o1
  go_wp2_with fail
  refine (HA.out _ _ _ s1).mono ?_; rintro e w2 ⟨A2, m2, c2, rfl, s2, b2⟩
  have b12 : Below w.heap.size w w2 := below_call b1 b2 b1.size
  obtain rfl : m2 = n := by have := s2.numlen; have := HRL.out; omega
  have S2 := hid s2
  clear s1 o1 b1 b2 s2
  go_wp2_with fail
  refine (HST.out _ b12).mono ?_; rintro e w3 ⟨rfl, rfl⟩
  go_wp2_with fail
  refine (HL.out _ b12).mono ?_; rintro e w4 ⟨A4, c4, rfl, o4, b4⟩
  have s4 := Sl.of_own o4
  have b14 : Below w.heap.size w w4 := below_call b12 b4 b12.size
  have S4 := hid (S2.out.below b4)
  go_wp2_with fail
  refine (HW.out _ _ _ s4).mono ?_; rintro e w5 ⟨rfl, b5⟩
  have B5 := hid (below_call b14 b5 b14.size)
  have S5 := hid (S4.out.below b5)
  clear s4 o4 b12 b4 b14 b5 S2 S4
  go_wp2_with (go_at_call 30; refine (HQ.out _ _ _ _ B5.out S5.out).mono ?_; rintro e w' ⟨rfl, rfl⟩)
  refine at_world fun L hL => ?_
  have BL := hid (show Below w.heap.size w L by rw [hL]; exact B5.out.alloc B5.out.size _)
  have SL := hid (show Sl L A2 m2 c2 (r.map (Value.int .i64)) by rw [hL]; exact S5.out.below ((Below.refl _ _).alloc (Nat.le_refl _) _))
  have z0 : L.cell? ⟨w5.heap.size, 0, none⟩ = some (.bool true) := by rw [hL]; exact World.cell?_alloc_new _ _ _ _
  have z1 : L.cell? ⟨w5.heap.size, 1, none⟩ = some (.bool false) := by rw [hL]; exact World.cell?_alloc_new _ _ _ _
  have Z := hid (show ∀ k, k < 2 → ∃ yes, L.cell? ⟨w5.heap.size, k, none⟩ = some (.bool yes) by
    intro k hk
    obtain rfl | rfl : k = 0 ∨ k = 1 := by omega
    · exact ⟨_, z0⟩
    · exact ⟨_, z1⟩)
  clear hL z0 z1
  go_loopg [96] 2 (fun gk i wr => ∃ k : Nat, gk + k = 2 ∧ i = .int .i64 k ∧ Below L.heap.size L wr)
  case atStart => exact ⟨0, by omega, rfl, Below.refl _ _⟩
  case round =>
    obtain ⟨k, hk, rfl, hb⟩ := hrel
    have HK := hid hk
    by_cases hlt : k < 2
    · obtain ⟨yes, z⟩ := Z.out k hlt
      have zr := cell_keep hb z
      have bw := below_call BL.out hb BL.out.size
      have BR := hid bw
      have HB := hid hb
      have SR := hid (SL.out.below hb)
      have hkI : (k : Int) < 2 := by omega
      clear z hk hb bw
      go_wp2_with fail
      refine (HL.out _ BR.out).mono ?_; rintro e w6 ⟨A6, c6, rfl, o6, b6⟩
      have S6 := hid (Sl.of_own o6)
      have SR6 := hid (SR.out.below b6)
      have B6 := hid (below_call HB.out b6 HB.out.size)
      clear o6 b6
      go_wp2_with fail
      refine (cloneInts _ m2 c2 r (by have := HN4.out; omega) _ SR6.out).mono ?_; rintro e w7 ⟨A7, c7, rfl, o7, b7⟩
      have S7 := hid (Sl.of_own o7)
      have S67 := hid (S6.out.below b7)
      have B7 := hid (below_call B6.out b7 B6.out.size)
      clear o7 b7
      go_wp2_with fail
      refine (HAF.out r HRK.out yes _ _ _ _ _ _ S67.out S7.out).mono ?_; rintro e w8 ⟨A8, c8, rfl, s8, b8⟩
      have S8 := hid s8
      have B8 := hid (below_call B7.out b8 B7.out.size)
      clear s8 b8
      go_wp2_with fail
      have hv := HV.out r HRK.out yes _ _ _ _ S8.out
      rw [HR.out yes] at hv
      refine hv.mono ?_; rintro e w9 ⟨rfl, b9⟩
      have B9 := hid (below_call B8.out b9 B8.out.size)
      clear b9 hv
      go_wp2_with fail
      go_roundg (gk - 1)
      case measure => have := HK.out; omega
      case rel => exact ⟨k + 1, by have := HK.out; omega, by go_num, B9.out⟩
    · have hk2 : k = 2 := by omega
      subst hk2
      have bw := hid (below_call BL.out hb BL.out.size)
      have SO := hid (HOS.out _ bw.out)
      have SR := hid (SL.out.below hb)
      have BW := hid hb
      clear hk hb hlt Z HK
      cases ho : askOk xs os
      · have HOQ2 := hid fun W (hb : Below w.heap.size w W) => (show Calls Try.prog 30 #[.slice A m2 c, .slice B n' d] W fun e w' => e = .returned (.bool false) ∧ W = w' by have := HOQ.out W hb; rwa [ho] at this)
        go_wp2_with (first | (go_at_call 30; refine (HOQ2.out _ bw.out).mono ?_; rintro e w' ⟨rfl, rfl⟩) | (go_at_call 20; refine (awake _).mono ?_; rintro e w6 ⟨rfl, b6⟩))
        go_ret
        exact ⟨rfl, below_call bw.out b6 bw.out.size⟩
      · have HOQ2 := hid fun W (hb : Below w.heap.size w W) => (show Calls Try.prog 30 #[.slice A m2 c, .slice B n' d] W fun e w' => e = .returned (.bool true) ∧ W = w' by have := HOQ.out W hb; rwa [ho] at this)
        obtain rfl : n' = m2 := by have h1 := (askOk_iff.1 ho).1; have h2 := HON.out; have h3 := HXN.out; omega
        have HOL2 := hid fun W (hb : Below w.heap.size w W) => (show Calls Try.prog 28 #[.slice B n' d] W fun e w' => ∃ A' c', e = .returned (.slice A' n' c') ∧ w'.ownsRow W.heap.size 3 1 (.slice A' n' c') n' (os.map (Value.int .i64)) ∧ Below W.heap.size W w' by
          have := HOL.out W hb
          have hm : min n' 7 = n' := Nat.min_eq_left (by have := HN4.out; omega)
          rwa [HTK.out rfl, hm] at this)
        have OK := hid ho
        have hcm := compareInts B A2 n' d c2 os r wr SO.out SR.out
        clear HOL HOQ HTK ho
        by_cases hc : 0 ≤ cmpL os r
        · have k1 : decide (0 ≤ cmpL os r) = true := decide_eq_true hc
          go_wp2_with (first | (go_at_call 30; refine (HOQ2.out _ bw.out).mono ?_; rintro e w' ⟨rfl, rfl⟩) | (go_at_call 51; refine hcm.mono ?_; rintro e w7 ⟨rfl, b7⟩; have B7 := hid (below_call bw.out b7 bw.out.size); clear b7) | (go_at_call 20; refine (awake _).mono ?_; rintro e w6 ⟨rfl, b6⟩))
          go_ret
          exact ⟨rfl, below_call B7.out b6 B7.out.size⟩
        · have k1 : decide (0 ≤ cmpL os r) = false := decide_eq_false hc
          have NO := hid (HNO.out os OK.out (by omega))
          go_wp2_with (first | (go_at_call 30; refine (HOQ2.out _ bw.out).mono ?_; rintro e w' ⟨rfl, rfl⟩) | (go_at_call 51; refine hcm.mono ?_; rintro e w7 ⟨rfl, b7⟩; have B7 := hid (below_call BW.out b7 BW.out.size); clear b7))
          refine (HL.out _ (below_call BL.out B7.out BL.out.size)).mono ?_; rintro e wa1 ⟨Aa1, ca1, rfl, oa, ba⟩
          have SA1 := hid (Sl.of_own oa)
          have BA1 := hid (below_call B7.out ba B7.out.size)
          clear oa ba
          go_wp2_with fail
          refine (HOL2.out _ (below_call BL.out BA1.out BL.out.size)).mono ?_; rintro e wb1 ⟨Ab1, cb1, rfl, ob, bb⟩
          have SB1 := hid (Sl.of_own ob)
          have SAB1 := hid (SA1.out.below bb)
          have BB1 := hid (below_call BA1.out bb BA1.out.size)
          clear ob bb
          go_wp2_with fail
          refine (HAF.out os OK.out true _ _ _ _ _ _ SAB1.out SB1.out).mono ?_; rintro e wc1 ⟨Ac1, cc1, rfl, sc, bc⟩
          have SC1 := hid sc
          have BC1 := hid (below_call BB1.out bc BB1.out.size)
          clear sc bc
          go_wp2_with fail
          refine (HL.out _ (below_call BL.out BC1.out BL.out.size)).mono ?_; rintro e wa2 ⟨Aa2, ca2, rfl, oa, ba⟩
          have SA2 := hid (Sl.of_own oa)
          have BA2 := hid (below_call BC1.out ba BC1.out.size)
          have bA2 := ba
          clear oa ba
          go_wp2_with fail
          refine (HOL2.out _ (below_call BL.out BA2.out BL.out.size)).mono ?_; rintro e wb2 ⟨Ab2, cb2, rfl, ob, bb⟩
          have SB2 := hid (Sl.of_own ob)
          have SAB2 := hid (SA2.out.below bb)
          have BB2 := hid (below_call BA2.out bb BA2.out.size)
          have bB2 := bb
          clear ob bb
          go_wp2_with fail
          refine (HAF.out os OK.out false _ _ _ _ _ _ SAB2.out SB2.out).mono ?_; rintro e wc2 ⟨Ac2, cc2, rfl, sc, bc⟩
          have SC2 := hid sc
          have BC2 := hid (below_call BB2.out bc BB2.out.size)
          have bQ2 := bc
          clear sc
          go_wp2_with fail
          have SX2 := hid (SC1.out.below (below_call (below_call bA2 bB2 bA2.size) bQ2 (by have h1 := bA2.size; have h2 := bB2.size; omega)))
          have hv1 := HV.out os OK.out true _ _ _ _ SX2.out
          have NOO := NO.out
          generalize winS (q - 1) (after true xs os) = u at hv1 NOO
          refine hv1.mono ?_; rintro e w13 ⟨rfl, b13⟩
          have SC3 := hid (SC2.out.below b13)
          have B13 := hid (below_call BC2.out b13 BC2.out.size)
          clear hv1 b13
          have hv2 := HV.out os OK.out false _ _ _ _ SC3.out
          generalize winS (q - 1) (after false xs os) = v at hv2 NOO
          go_wp2_with fail
          refine hv2.mono ?_; rintro e w14 ⟨rfl, b14⟩
          have B14 := hid (below_call BL.out (below_call B13.out b14 B13.out.size) BL.out.size)
          clear hv2 b14
          cases u <;> cases v
          case true.true => exact absurd ⟨rfl, rfl⟩ NOO
          all_goals
            clear NOO
            go_wp2_with (go_at_call 20; refine (awake _).mono ?_; rintro e w15 ⟨rfl, b15⟩)
            go_ret
            exact ⟨rfl, below_call B14.out b15 B14.out.size⟩

theorem guessAsked_walk (w : World) (A : Option Addr) (n c : Nat) (xs : List Int) (hs : Sl w A n c (xs.map (Value.int .i64))) (_ : ∀ x ∈ xs, -9223372036854775808 ≤ x ∧ x ≤ 9223372036854775807) (q : Int) (_ : (Lit.int .i64 q).wf = true) (B : Option Addr) (n' d : Nat) (os : List Int) (ho : Sl w B n' d (os.map (Value.int .i64))) (_ : ∀ x ∈ os, -9223372036854775808 ≤ x ∧ x ≤ 9223372036854775807) :
    Calls Try.prog 16 #[.slice A n c, .int .i64 q, .slice B n' d] w fun e w' => e = .returned (.bool true) ∧ Below w.heap.size w w' := by
  by_cases h : stateOk 24 xs = true ∧ 0 ≤ q ∧ q ≤ 12
  · obtain ⟨k, rfl⟩ := Int.eq_ofNat_of_zero_le h.2.1
    by_cases hw : winS k xs = true ∧ 1 < total xs
    · exact guessAsked_yes w A n c xs k B n' d os (by omega) hs ho h.1 hw.1 hw.2
    · exact guessAsked_no w A n c xs k B n' d (by omega) hs h.1 hw
  · exact guessAsked_bad w A n c xs q B n' d hs h
end Go.Proofs.Ytdclmhmdkhpekaa
