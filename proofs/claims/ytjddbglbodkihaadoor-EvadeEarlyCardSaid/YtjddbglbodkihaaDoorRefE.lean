/- Walks of the reference's early and Early. Conditions: the slice reads as what is left of a family at a view. -/
import Derived.Test.YtjddbglbodkihaaDoorRefA
import Derived.Test.YtjddbglbodkihaaDoorJoinF
import Derived.Test.YtjddbglbodkihaaDoorEarlyW
namespace Go.Proofs.YtjddbglbodkihaaDoor
open Go.RowKit
attribute [local go_sem ↓] shl_p2 shl_u or_u shr_u and_shrF shr_v and_shr andNot_v and_nn or_i

/-- Settled, or early. -/
def eB (n F a i : Nat) : Bool := settl (2 ^ n) F.testBit a i || decide (askN n F.testBit a i < un n a)
theorem eB_ask {n F a i : Nat} (h0 : 0 < un n a) : eB n F a i = true ↔ askN n F.testBit a i < un n a := by
  unfold eB
  rw [Bool.or_eq_true, decide_eq_true_iff]
  constructor
  · rintro (h | h)
    · rw [ask_zero.2 h]; exact h0
    · exact h
  · exact .inr
theorem eB_few {n F a i : Nat} (hs : settl (2 ^ n) F.testBit a i = false) (h : un n a < 2) : eB n F a i = false := by
  unfold eB
  rw [hs, Bool.false_or, decide_eq_false_iff_not]
  have := ask_pos hs
  omega
theorem eB_yes {n F a i x : Nat} (h2 : 2 ≤ un n a) (hx : x < n) (ha : a.testBit x = false) (h0 : eB n F (ad a x) i = true) (h1 : eB n F (ad a x) (ad i x) = true) : eB n F a i = true := by
  have hu := un_ad hx ha
  rw [eB_ask (by omega)] at h0 h1 ⊢
  have := ask_step (q := F.testBit) (i := i) hx ha
  unfold valN at this
  omega
theorem eB_no {n F a i : Nat} (hs : settl (2 ^ n) F.testBit a i = false) (h2 : 2 ≤ un n a) (h : ∀ x, x < n → a.testBit x = false → ¬ (eB n F (ad a x) (ad i x) = true ∧ eB n F (ad a x) i = true)) : eB n F a i = false := by
  cases e : eB n F a i
  · rfl
  · rw [eB_ask (by omega)] at e
    obtain ⟨h1, h3, h4, _⟩ := best_is hs
    have hu := un_ad h1 h3
    refine absurd ?_ (h _ h1 h3)
    unfold valN at h4
    rw [eB_ask (by omega), eB_ask (by omega)]
    omega
/-- What early tells of the views with k elements left. -/
def REar (n F k : Nat) : Prop := ∀ a i A m c W, un n a = k → View n a i → Sl W A m c ((fv n F a i).map (Value.int .i64)) →
  Calls Tryd.prog 78 #[.slice A m c, .int .i64 (lf n a : Nat)] W fun e w' => e = .returned (.bool (eB n F a i)) ∧ Below W.heap.size W w'
set_option maxRecDepth 100000 in
set_option maxHeartbeats 8000000 in
theorem rEarStep (n F k : Nat) (h6 : n ≤ 6) (IH : ∀ j, j + 1 = k → REar n F j) : REar n F k := by
  intro a i A m c w hk hv hs
  have ha := hv.lt
  have h64 := two6 h6
  have hlt := lf_lt n a
  have HST := hid fun W (hb : Below w.heap.size w W) => settledR n F a i A m c W h6 hv (hs.below hb)
  have HB0 := hid (Below.refl w.heap.size w)
  cases hst : settl (2 ^ n) F.testBit a i
  · rw [hst] at HST
    have hm : m ≤ 64 := by have := fv_len (n := n) (F := F) (a := a) (i := i) h6; have := hs.numlen; omega
    have HSZ := hid fun W => refSize (lf n a) (by omega) W
    rw [lf_sz h6 (by omega)] at HSZ
    by_cases h2 : un n a < 2
    · rw [eB_few hst h2]
      have g : decide ((un n a : Int) < 2) = true := decide_eq_true (by omega)
      have gn : decide (un n a < 2) = true := decide_eq_true h2
      generalize un n a = u at *
      clear hst hs hv IH ha h64 hlt hm hk h2
      go_enter Tryd.func78, Tryd.ntmps78
      go_wp2_with fail
      refine (HST.out _ HB0.out).mono ?_; rintro e w1 ⟨rfl, rfl⟩
      go_wp2_with fail
      refine (HSZ.out _).mono ?_; rintro e w1 ⟨rfl, rfl⟩
      go_wp2
      go_ret
      exact ⟨rfl, HB0.out⟩
    · have h2 : 2 ≤ un n a := by omega
      have g : decide ((un n a : Int) < 2) = false := decide_eq_false (by omega)
      have gn : decide (un n a < 2) = false := decide_eq_false (by omega)
      have HYES := hid fun x (hx : x < n) (h0 : a.testBit x = false) => eB_yes (F := F) (i := i) h2 hx h0
      have HNO := hid (eB_no hst h2)
      have HO := hid fun x (hx : x ≤ 5) W (hb : Below w.heap.size w W) => refOut A m c (fv n F a i) x W (hs.below hb) (fv_bd h6) hx hm
      have HK := hid fun x (hx : x ≤ 5) W (hb : Below w.heap.size w W) => refLink A m c (fv n F a i) x W (hs.below hb) (fv_bd h6) hx hm
      have HI0 := hid fun x (hx : x < n) (h0 : a.testBit x = false) A' m' c' W s1 => IH (un n (ad a x)) (by have := un_ad hx h0; omega) (ad a x) i A' m' c' W rfl (hv.out hx) s1
      have HI1 := hid fun x (hx : x < n) (h0 : a.testBit x = false) A' m' c' W s1 => IH (un n (ad a x)) (by have := un_ad hx h0; omega) (ad a x) (ad i x) A' m' c' W rfl (hv.inn hx) s1
      have HFO := hid fun x => fv_out n F a i x
      have HFK := hid fun x (hx : x < n) (h0 : a.testBit x = false) => fv_link (F := F) (i := i) h6 hx h0
      have hL64 : lf n a < 64 := by omega
      have hun := un_le n a
      clear hst hs hv IH ha h64 hlt hm hk h2
      go_enter Tryd.func78, Tryd.ntmps78
      go_wp2_with fail
      refine (HST.out _ HB0.out).mono ?_; rintro e w1 ⟨rfl, rfl⟩
      go_wp2_with fail
      refine (HSZ.out _).mono ?_; rintro e w1 ⟨rfl, rfl⟩
      go_wp2
      go_loopg [12] 6 (fun gk x wr => ∃ y : Nat, gk + y = 6 ∧ x = .int .i64 y ∧ Hid (∀ x, x < y → x < n → a.testBit x = false → ¬ (eB n F (ad a x) (ad i x) = true ∧ eB n F (ad a x) i = true)) ∧ Hid (Below w.heap.size w wr))
      case atStart => exact ⟨0, rfl, rfl, hid fun x hx => absurd hx (by omega), HB0⟩
      case round =>
        obtain ⟨y, hy, rfl, HA, HW⟩ := hrel
        have HY := hid hy
        have hz := HW.out.size
        by_cases hlt : y < 6
        · have HLT := hid hlt
          have FY : Fits (y : Int) := ⟨by omega, by omega⟩
          have hlb := lf_bit n a y
          cases hbit : (lf n a).testBit y
          · have g := bitV_no hbit
            have HA2 : Hid (∀ x, x < y + 1 → x < n → a.testBit x = false → ¬ (eB n F (ad a x) (ad i x) = true ∧ eB n F (ad a x) i = true)) := hid fun x hx hxn h0 => by
              by_cases e : x = y
              · subst e
                rw [hbit, h0, decide_eq_true hxn] at hlb; cases hlb
              · exact HA.out x (by omega) hxn h0
            clear hbit hlb
            go_wp2_with fail
            have HWD := hid HW.out.drew
            refine wp_region_held_drew (S := (fun _ => True)) (by kernel_rfl) (by (try dsimp only); (all_goals trivial)) (fun hHeld => ?_)
            refine takeD (i := 0) (v := ?_) (some 15) rfl rfl (by kernel_rfl) (by kernel_rfl) (by kernel_rfl) (fun _ _ _ h => h) (Or.inl ⟨by rfl, ?_⟩) (by assumption) ?_
            rotate_left
            · intro w hSw
              (try dsimp only at hSw)
              first
                | (go_simp; done)
                | (go_simp; with_reducible rfl)
            try simp only [Act.put, List.setIfInBounds_toArray, List.set_cons_zero, List.set_cons_succ]
            refine takeD (i := 1) (v := ?_) (some 16) rfl rfl (by kernel_rfl) (by kernel_rfl) (by kernel_rfl) (fun _ _ _ h => h) (Or.inl ⟨by rfl, ?_⟩) (by assumption) ?_
            rotate_left
            · intro w hSw
              (try dsimp only at hSw)
              first
                | (go_simp; done)
                | (go_simp; with_reducible rfl)
            try simp only [Act.put, List.setIfInBounds_toArray, List.set_cons_zero, List.set_cons_succ]
            refine takeD (i := 2) (v := ?_) (some 17) rfl rfl (by kernel_rfl) (by kernel_rfl) (by kernel_rfl) (fun _ _ _ h => h) (Or.inl ⟨by rfl, ?_⟩) (by assumption) ?_
            rotate_left
            · intro w hSw
              (try dsimp only at hSw)
              first
                | (go_simp; done)
                | (go_simp; with_reducible rfl)
            try simp only [Act.put, List.setIfInBounds_toArray, List.set_cons_zero, List.set_cons_succ]
            refine takeD (i := 3) (v := ?_) (some 18) rfl rfl (by kernel_rfl) (by kernel_rfl) (by kernel_rfl) (fun _ _ _ h => h) (Or.inl ⟨by rfl, ?_⟩) (by assumption) ?_
            rotate_left
            · intro w hSw
              (try dsimp only at hSw)
              first
                | (go_simp; done)
                | (go_simp; with_reducible rfl)
            try simp only [Act.put, List.setIfInBounds_toArray, List.set_cons_zero, List.set_cons_succ]
            refine takeD (i := 4) (v := ?_) (some 19) rfl rfl (by kernel_rfl) (by kernel_rfl) (by kernel_rfl) (fun _ _ _ h => h) (Or.inl ⟨by rfl, ?_⟩) (by assumption) ?_
            rotate_left
            · intro w hSw
              (try dsimp only at hSw)
              first
                | (go_simp; done)
                | (go_simp; with_reducible rfl)
            try simp only [Act.put, List.setIfInBounds_toArray, List.set_cons_zero, List.set_cons_succ]
            refine takeD (i := 5) (v := ?_) (some 20) rfl rfl (by kernel_rfl) (by kernel_rfl) (by kernel_rfl) (fun _ _ _ h => h) (Or.inl ⟨by rfl, ?_⟩) (by assumption) ?_
            rotate_left
            · intro w hSw
              (try dsimp only at hSw)
              first
                | (go_simp; done)
                | (go_simp; with_reducible rfl)
            try simp only [Act.put, List.setIfInBounds_toArray, List.set_cons_zero, List.set_cons_succ]
            refine takeD (i := 6) (v := undef) (some 21) rfl rfl (by kernel_rfl) (by kernel_rfl) (by kernel_rfl) (fun _ _ _ h => h) (Or.inr ⟨by rfl, rfl⟩) (by assumption) ?_
            try simp only [Act.put, List.setIfInBounds_toArray, List.set_cons_zero, List.set_cons_succ]
            refine takeD (i := 7) (v := undef) (some 22) rfl rfl (by kernel_rfl) (by kernel_rfl) (by kernel_rfl) (fun _ _ _ h => h) (Or.inr ⟨by rfl, rfl⟩) (by assumption) ?_
            try simp only [Act.put, List.setIfInBounds_toArray, List.set_cons_zero, List.set_cons_succ]
            refine takeD (i := 8) (v := undef) (some 23) rfl rfl (by kernel_rfl) (by kernel_rfl) (by kernel_rfl) (fun _ _ _ h => h) (Or.inr ⟨by rfl, rfl⟩) (by assumption) ?_
            try simp only [Act.put, List.setIfInBounds_toArray, List.set_cons_zero, List.set_cons_succ]
            refine takeD (i := 9) (v := undef) (some 24) rfl rfl (by kernel_rfl) (by kernel_rfl) (by kernel_rfl) (fun _ _ _ h => h) (Or.inr ⟨by rfl, rfl⟩) (by assumption) ?_
            try simp only [Act.put, List.setIfInBounds_toArray, List.set_cons_zero, List.set_cons_succ]
            refine takeD (i := 10) (v := undef) (some 25) rfl rfl (by kernel_rfl) (by kernel_rfl) (by kernel_rfl) (fun _ _ _ h => h) (Or.inr ⟨by rfl, rfl⟩) (by assumption) ?_
            try simp only [Act.put, List.setIfInBounds_toArray, List.set_cons_zero, List.set_cons_succ]
            refine takeD (i := 11) (v := undef) (some 26) rfl rfl (by kernel_rfl) (by kernel_rfl) (by kernel_rfl) (fun _ _ _ h => h) (Or.inr ⟨by rfl, rfl⟩) (by assumption) ?_
            try simp only [Act.put, List.setIfInBounds_toArray, List.set_cons_zero, List.set_cons_succ]
            refine takeD (i := 12) (v := undef) (some 27) rfl rfl (by kernel_rfl) (by kernel_rfl) (by kernel_rfl) (fun _ _ _ h => h) (Or.inr ⟨by rfl, rfl⟩) (by assumption) ?_
            try simp only [Act.put, List.setIfInBounds_toArray, List.set_cons_zero, List.set_cons_succ]
            refine takeD (i := 13) (v := undef) (some 28) rfl rfl (by kernel_rfl) (by kernel_rfl) (by kernel_rfl) (fun _ _ _ h => h) (Or.inr ⟨by rfl, rfl⟩) (by assumption) ?_
            try simp only [Act.put, List.setIfInBounds_toArray, List.set_cons_zero, List.set_cons_succ]
            refine takeD (i := 14) (v := ?_) (some 29) rfl rfl (by kernel_rfl) (by kernel_rfl) (by kernel_rfl) (fun _ _ _ h => h) (Or.inl ⟨by rfl, ?_⟩) (by assumption) ?_
            rotate_left
            · intro w hSw
              (try dsimp only at hSw)
              first
                | (go_simp; done)
                | (go_simp; with_reducible rfl)
            try simp only [Act.put, List.setIfInBounds_toArray, List.set_cons_zero, List.set_cons_succ]
            refine takeD (i := 15) (v := ?_) (some 30) rfl rfl (by kernel_rfl) (by kernel_rfl) (by kernel_rfl) (fun _ _ _ h => h) (Or.inl ⟨by rfl, ?_⟩) (by assumption) ?_
            rotate_left
            · intro w hSw
              (try dsimp only at hSw)
              first
                | (go_simp; done)
                | (go_simp; with_reducible rfl)
            try simp only [Act.put, List.setIfInBounds_toArray, List.set_cons_zero, List.set_cons_succ]
            refine takeD (i := 16) (v := undef) (some 31) rfl rfl (by kernel_rfl) (by kernel_rfl) (by kernel_rfl) (fun _ _ _ h => h) (Or.inr ⟨by rfl, rfl⟩) (by assumption) ?_
            try simp only [Act.put, List.setIfInBounds_toArray, List.set_cons_zero, List.set_cons_succ]
            refine takeD (i := 17) (v := undef) (some 32) rfl rfl (by kernel_rfl) (by kernel_rfl) (by kernel_rfl) (fun _ _ _ h => h) (Or.inr ⟨by rfl, rfl⟩) (by assumption) ?_
            try simp only [Act.put, List.setIfInBounds_toArray, List.set_cons_zero, List.set_cons_succ]
            refine takeD (i := 18) (v := undef) (some 33) rfl rfl (by kernel_rfl) (by kernel_rfl) (by kernel_rfl) (fun _ _ _ h => h) (Or.inr ⟨by rfl, rfl⟩) (by assumption) ?_
            try simp only [Act.put, List.setIfInBounds_toArray, List.set_cons_zero, List.set_cons_succ]
            refine takeD (i := 19) (v := undef) (some 34) rfl rfl (by kernel_rfl) (by kernel_rfl) (by kernel_rfl) (fun _ _ _ h => h) (Or.inr ⟨by rfl, rfl⟩) (by assumption) ?_
            try simp only [Act.put, List.setIfInBounds_toArray, List.set_cons_zero, List.set_cons_succ]
            refine takeD (i := 20) (v := undef) (some 35) rfl rfl (by kernel_rfl) (by kernel_rfl) (by kernel_rfl) (fun _ _ _ h => h) (Or.inr ⟨by rfl, rfl⟩) (by assumption) ?_
            try simp only [Act.put, List.setIfInBounds_toArray, List.set_cons_zero, List.set_cons_succ]
            refine takeD (i := 21) (v := undef) (some 36) rfl rfl (by kernel_rfl) (by kernel_rfl) (by kernel_rfl) (fun _ _ _ h => h) (Or.inr ⟨by rfl, rfl⟩) (by assumption) ?_
            try simp only [Act.put, List.setIfInBounds_toArray, List.set_cons_zero, List.set_cons_succ]
            refine takeD (i := 22) (v := undef) (some 37) rfl rfl (by kernel_rfl) (by kernel_rfl) (by kernel_rfl) (fun _ _ _ h => h) (Or.inr ⟨by rfl, rfl⟩) (by assumption) ?_
            try simp only [Act.put, List.setIfInBounds_toArray, List.set_cons_zero, List.set_cons_succ]
            refine takeD (i := 23) (v := undef) (some 38) rfl rfl (by kernel_rfl) (by kernel_rfl) (by kernel_rfl) (fun _ _ _ h => h) (Or.inr ⟨by rfl, rfl⟩) (by assumption) ?_
            try simp only [Act.put, List.setIfInBounds_toArray, List.set_cons_zero, List.set_cons_succ]
            refine takeD (i := 24) (v := ?_) (some 39) rfl rfl (by kernel_rfl) (by kernel_rfl) (by kernel_rfl) (fun _ _ _ h => h) (Or.inl ⟨by rfl, ?_⟩) (by assumption) ?_
            rotate_left
            · intro w hSw
              (try dsimp only at hSw)
              first
                | (go_simp; done)
                | (go_simp; with_reducible rfl)
            try simp only [Act.put, List.setIfInBounds_toArray, List.set_cons_zero, List.set_cons_succ]
            refine wpAnyH_done (by kernel_rfl) ?_ _
            go_wp2
            go_roundg (gk - 1)
            case measure => have := HY.out; have := HLT.out; omega
            case rel => exact ⟨y + 1, by have := HY.out; have := HLT.out; omega, by go_num, HA2, HWD⟩
          · have g := bitV_yes hbit
            rw [hbit] at hlb
            obtain ⟨h1, h2⟩ := andE hlb.symm
            have h1 : y < n := of_decide_eq_true h1
            have h2 : a.testBit y = false := by simpa using h2
            have AN : AnF (lf n a) (y : Int) := ⟨by omega, by omega, by omega⟩
            have e5 : ((y : Int)).toNat = y := Int.toNat_natCast y
            have HRM := hid (lf_rm n a y)
            have HOY := HO.out y (by omega)
            rw [HFO.out] at HOY
            have HKY := HK.out y (by omega)
            rw [HFK.out y h1 h2] at HKY
            have HOYH := hid HOY; have HKYH := hid HKY
            have HI0Y := HI0.out y h1 h2
            have HI1Y := HI1.out y h1 h2
            have HYY := HYES.out y h1 h2
            clear hbit hlb HOY HKY
            cases he1 : eB n F (ad a y) (ad i y)
            · have HA2 : Hid (∀ x, x < y + 1 → x < n → a.testBit x = false → ¬ (eB n F (ad a x) (ad i x) = true ∧ eB n F (ad a x) i = true)) := hid fun x hx hxn h0 => by
                by_cases e : x = y
                · subst e
                  rw [he1]; rintro ⟨h, _⟩; cases h
                · exact HA.out x (by omega) hxn h0
              rw [he1] at HI1Y
              have HI1Y := hid HI1Y
              clear he1 HI0Y HYY h1 h2
              go_wp2_with fail
              have HWD := hid HW.out.drew
              refine wp_region_held_drew (S := (fun _ => True)) (by kernel_rfl) (by (try dsimp only); (all_goals trivial)) (fun hHeld => ?_)
              refine takeD (i := 0) (v := ?_) (some 15) rfl rfl (by kernel_rfl) (by kernel_rfl) (by kernel_rfl) (fun _ _ _ h => h) (Or.inl ⟨by rfl, ?_⟩) (by assumption) ?_
              rotate_left
              · intro w hSw
                (try dsimp only at hSw)
                first
                  | (go_simp; done)
                  | (go_simp; with_reducible rfl)
              try simp only [Act.put, List.setIfInBounds_toArray, List.set_cons_zero, List.set_cons_succ]
              refine takeD (i := 1) (v := ?_) (some 16) rfl rfl (by kernel_rfl) (by kernel_rfl) (by kernel_rfl) (fun _ _ _ h => h) (Or.inl ⟨by rfl, ?_⟩) (by assumption) ?_
              rotate_left
              · intro w hSw
                (try dsimp only at hSw)
                first
                  | (go_simp; done)
                  | (go_simp; with_reducible rfl)
              try simp only [Act.put, List.setIfInBounds_toArray, List.set_cons_zero, List.set_cons_succ]
              refine takeD (i := 2) (v := ?_) (some 17) rfl rfl (by kernel_rfl) (by kernel_rfl) (by kernel_rfl) (fun _ _ _ h => h) (Or.inl ⟨by rfl, ?_⟩) (by assumption) ?_
              rotate_left
              · intro w hSw
                (try dsimp only at hSw)
                first
                  | (go_simp; done)
                  | (go_simp; with_reducible rfl)
              try simp only [Act.put, List.setIfInBounds_toArray, List.set_cons_zero, List.set_cons_succ]
              refine takeD (i := 3) (v := ?_) (some 18) rfl rfl (by kernel_rfl) (by kernel_rfl) (by kernel_rfl) (fun _ _ _ h => h) (Or.inl ⟨by rfl, ?_⟩) (by assumption) ?_
              rotate_left
              · intro w hSw
                (try dsimp only at hSw)
                first
                  | (go_simp; done)
                  | (go_simp; with_reducible rfl)
              try simp only [Act.put, List.setIfInBounds_toArray, List.set_cons_zero, List.set_cons_succ]
              refine takeD (i := 4) (v := ?_) (some 19) rfl rfl (by kernel_rfl) (by kernel_rfl) (by kernel_rfl) (fun _ _ _ h => h) (Or.inl ⟨by rfl, ?_⟩) (by assumption) ?_
              rotate_left
              · intro w hSw
                (try dsimp only at hSw)
                first
                  | (go_simp; done)
                  | (go_simp; with_reducible rfl)
              try simp only [Act.put, List.setIfInBounds_toArray, List.set_cons_zero, List.set_cons_succ]
              refine takeD (i := 5) (v := ?_) (some 20) rfl rfl (by kernel_rfl) (by kernel_rfl) (by kernel_rfl) (fun _ _ _ h => h) (Or.inl ⟨by rfl, ?_⟩) (by assumption) ?_
              rotate_left
              · intro w hSw
                (try dsimp only at hSw)
                first
                  | (go_simp; done)
                  | (go_simp; with_reducible rfl)
              try simp only [Act.put, List.setIfInBounds_toArray, List.set_cons_zero, List.set_cons_succ]
              refine takeD (i := 6) (v := ?_) (some 21) rfl rfl (by kernel_rfl) (by kernel_rfl) (by kernel_rfl) (fun _ _ _ h => h) (Or.inl ⟨by rfl, ?_⟩) (by assumption) ?_
              rotate_left
              · intro w hSw
                (try dsimp only at hSw)
                first
                  | (go_simp; done)
                  | (go_simp; with_reducible rfl)
              try simp only [Act.put, List.setIfInBounds_toArray, List.set_cons_zero, List.set_cons_succ]
              refine takeD (i := 7) (v := ?_) (some 22) rfl rfl (by kernel_rfl) (by kernel_rfl) (by kernel_rfl) (fun _ _ _ h => h) (Or.inl ⟨by rfl, ?_⟩) (by assumption) ?_
              rotate_left
              · intro w hSw
                (try dsimp only at hSw)
                first
                  | (go_simp; done)
                  | (go_simp; with_reducible rfl)
              try simp only [Act.put, List.setIfInBounds_toArray, List.set_cons_zero, List.set_cons_succ]
              refine takeD (i := 9) (v := ?_) (some 24) rfl rfl (by kernel_rfl) (by kernel_rfl) (by kernel_rfl) (fun _ _ _ h => h) (Or.inl ⟨by rfl, ?_⟩) (by assumption) ?_
              rotate_left
              · intro w hSw
                (try dsimp only at hSw)
                first
                  | (go_simp; done)
                  | (go_simp; with_reducible rfl)
              try simp only [Act.put, List.setIfInBounds_toArray, List.set_cons_zero, List.set_cons_succ]
              refine takeD (i := 10) (v := ?_) (some 25) rfl rfl (by kernel_rfl) (by kernel_rfl) (by kernel_rfl) (fun _ _ _ h => h) (Or.inl ⟨by rfl, ?_⟩) (by assumption) ?_
              rotate_left
              · intro w hSw
                (try dsimp only at hSw)
                first
                  | (go_simp; done)
                  | (go_simp; with_reducible rfl)
              try simp only [Act.put, List.setIfInBounds_toArray, List.set_cons_zero, List.set_cons_succ]
              refine takeD (i := 11) (v := ?_) (some 26) rfl rfl (by kernel_rfl) (by kernel_rfl) (by kernel_rfl) (fun _ _ _ h => h) (Or.inl ⟨by rfl, ?_⟩) (by assumption) ?_
              rotate_left
              · intro w hSw
                (try dsimp only at hSw)
                first
                  | (go_simp; done)
                  | (go_simp; with_reducible rfl)
              try simp only [Act.put, List.setIfInBounds_toArray, List.set_cons_zero, List.set_cons_succ]
              refine takeD (i := 12) (v := ?_) (some 27) rfl rfl (by kernel_rfl) (by kernel_rfl) (by kernel_rfl) (fun _ _ _ h => h) (Or.inl ⟨by rfl, ?_⟩) (by assumption) ?_
              rotate_left
              · intro w hSw
                (try dsimp only at hSw)
                first
                  | (go_simp; done)
                  | (go_simp; with_reducible rfl)
              try simp only [Act.put, List.setIfInBounds_toArray, List.set_cons_zero, List.set_cons_succ]
              refine wpAnyH_ready (rs := [8]) (by kernel_rfl) (by simp) ?_
              refine AllReadyH.cons rfl (fun K hK => ?_) AllReadyH.nil
              go_simp
              refine (HKYH.out _ HWD.out).mono ?_; rintro e w2 ⟨A2, c2, l2, rfl, ho, b2⟩
              have SK := hid (Sl.of_own ho)
              have HB2 := hid (below_call HWD.out b2 HWD.out.size)
              clear ho b2
              refine hK.out _ _ ?_ (fun hHeld => ?_)
              · (try dsimp only)
                (all_goals trivial)
              clear hK K
              try simp only [Act.put, List.setIfInBounds_toArray, List.set_cons_zero, List.set_cons_succ]
              refine wpAnyH_ready (rs := [13]) (by kernel_rfl) (by simp) ?_
              refine AllReadyH.cons rfl (fun K hK => ?_) AllReadyH.nil
              go_simp
              try rw [HRM.out]
              refine (HI1Y.out _ _ _ _ SK.out).mono ?_; rintro e w3 ⟨rfl, b3⟩
              have HB3 := hid (below_call HB2.out b3 HB2.out.size)
              clear b3
              refine hK.out _ _ ?_ (fun hHeld => ?_)
              · (try dsimp only)
                (all_goals trivial)
              clear hK K
              try simp only [Act.put, List.setIfInBounds_toArray, List.set_cons_zero, List.set_cons_succ]
              refine takeD (i := 14) (v := ?_) (some 29) rfl rfl (by kernel_rfl) (by kernel_rfl) (by kernel_rfl) (fun _ _ _ h => h) (Or.inl ⟨by rfl, ?_⟩) (by assumption) ?_
              rotate_left
              · intro w hSw
                (try dsimp only at hSw)
                first
                  | (go_simp; done)
                  | (go_simp; with_reducible rfl)
              try simp only [Act.put, List.setIfInBounds_toArray, List.set_cons_zero, List.set_cons_succ]
              refine takeD (i := 15) (v := ?_) (some 30) rfl rfl (by kernel_rfl) (by kernel_rfl) (by kernel_rfl) (fun _ _ _ h => h) (Or.inl ⟨by rfl, ?_⟩) (by assumption) ?_
              rotate_left
              · intro w hSw
                (try dsimp only at hSw)
                first
                  | (go_simp; done)
                  | (go_simp; with_reducible rfl)
              try simp only [Act.put, List.setIfInBounds_toArray, List.set_cons_zero, List.set_cons_succ]
              refine takeD (i := 16) (v := undef) (some 31) rfl rfl (by kernel_rfl) (by kernel_rfl) (by kernel_rfl) (fun _ _ _ h => h) (Or.inr ⟨by rfl, rfl⟩) (by assumption) ?_
              try simp only [Act.put, List.setIfInBounds_toArray, List.set_cons_zero, List.set_cons_succ]
              refine takeD (i := 17) (v := undef) (some 32) rfl rfl (by kernel_rfl) (by kernel_rfl) (by kernel_rfl) (fun _ _ _ h => h) (Or.inr ⟨by rfl, rfl⟩) (by assumption) ?_
              try simp only [Act.put, List.setIfInBounds_toArray, List.set_cons_zero, List.set_cons_succ]
              refine takeD (i := 18) (v := undef) (some 33) rfl rfl (by kernel_rfl) (by kernel_rfl) (by kernel_rfl) (fun _ _ _ h => h) (Or.inr ⟨by rfl, rfl⟩) (by assumption) ?_
              try simp only [Act.put, List.setIfInBounds_toArray, List.set_cons_zero, List.set_cons_succ]
              refine takeD (i := 19) (v := undef) (some 34) rfl rfl (by kernel_rfl) (by kernel_rfl) (by kernel_rfl) (fun _ _ _ h => h) (Or.inr ⟨by rfl, rfl⟩) (by assumption) ?_
              try simp only [Act.put, List.setIfInBounds_toArray, List.set_cons_zero, List.set_cons_succ]
              refine takeD (i := 20) (v := undef) (some 35) rfl rfl (by kernel_rfl) (by kernel_rfl) (by kernel_rfl) (fun _ _ _ h => h) (Or.inr ⟨by rfl, rfl⟩) (by assumption) ?_
              try simp only [Act.put, List.setIfInBounds_toArray, List.set_cons_zero, List.set_cons_succ]
              refine takeD (i := 21) (v := undef) (some 36) rfl rfl (by kernel_rfl) (by kernel_rfl) (by kernel_rfl) (fun _ _ _ h => h) (Or.inr ⟨by rfl, rfl⟩) (by assumption) ?_
              try simp only [Act.put, List.setIfInBounds_toArray, List.set_cons_zero, List.set_cons_succ]
              refine takeD (i := 22) (v := undef) (some 37) rfl rfl (by kernel_rfl) (by kernel_rfl) (by kernel_rfl) (fun _ _ _ h => h) (Or.inr ⟨by rfl, rfl⟩) (by assumption) ?_
              try simp only [Act.put, List.setIfInBounds_toArray, List.set_cons_zero, List.set_cons_succ]
              refine takeD (i := 23) (v := undef) (some 38) rfl rfl (by kernel_rfl) (by kernel_rfl) (by kernel_rfl) (fun _ _ _ h => h) (Or.inr ⟨by rfl, rfl⟩) (by assumption) ?_
              try simp only [Act.put, List.setIfInBounds_toArray, List.set_cons_zero, List.set_cons_succ]
              refine takeD (i := 24) (v := ?_) (some 39) rfl rfl (by kernel_rfl) (by kernel_rfl) (by kernel_rfl) (fun _ _ _ h => h) (Or.inl ⟨by rfl, ?_⟩) (by assumption) ?_
              rotate_left
              · intro w hSw
                (try dsimp only at hSw)
                first
                  | (go_simp; done)
                  | (go_simp; with_reducible rfl)
              try simp only [Act.put, List.setIfInBounds_toArray, List.set_cons_zero, List.set_cons_succ]
              refine wpAnyH_done (by kernel_rfl) ?_ _
              go_wp2
              go_roundg (gk - 1)
              case measure => have := HY.out; have := HLT.out; omega
              case rel => exact ⟨y + 1, by have := HY.out; have := HLT.out; omega, by go_num, HA2, HB3⟩
            · rw [he1] at HI1Y
              have HI1Y := hid HI1Y
              cases he0 : eB n F (ad a y) i
              · have HA2 : Hid (∀ x, x < y + 1 → x < n → a.testBit x = false → ¬ (eB n F (ad a x) (ad i x) = true ∧ eB n F (ad a x) i = true)) := hid fun x hx hxn h0 => by
                  by_cases e : x = y
                  · subst e
                    rw [he0]; rintro ⟨_, h⟩; cases h
                  · exact HA.out x (by omega) hxn h0
                rw [he0] at HI0Y
                have HI0Y := hid HI0Y
                clear he1 he0 HYY h1 h2
                go_wp2_with fail
                have HWD := hid HW.out.drew
                refine wp_region_held_drew (S := (fun _ => True)) (by kernel_rfl) (by (try dsimp only); (all_goals trivial)) (fun hHeld => ?_)
                refine takeD (i := 0) (v := ?_) (some 15) rfl rfl (by kernel_rfl) (by kernel_rfl) (by kernel_rfl) (fun _ _ _ h => h) (Or.inl ⟨by rfl, ?_⟩) (by assumption) ?_
                rotate_left
                · intro w hSw
                  (try dsimp only at hSw)
                  first
                    | (go_simp; done)
                    | (go_simp; with_reducible rfl)
                try simp only [Act.put, List.setIfInBounds_toArray, List.set_cons_zero, List.set_cons_succ]
                refine takeD (i := 1) (v := ?_) (some 16) rfl rfl (by kernel_rfl) (by kernel_rfl) (by kernel_rfl) (fun _ _ _ h => h) (Or.inl ⟨by rfl, ?_⟩) (by assumption) ?_
                rotate_left
                · intro w hSw
                  (try dsimp only at hSw)
                  first
                    | (go_simp; done)
                    | (go_simp; with_reducible rfl)
                try simp only [Act.put, List.setIfInBounds_toArray, List.set_cons_zero, List.set_cons_succ]
                refine takeD (i := 2) (v := ?_) (some 17) rfl rfl (by kernel_rfl) (by kernel_rfl) (by kernel_rfl) (fun _ _ _ h => h) (Or.inl ⟨by rfl, ?_⟩) (by assumption) ?_
                rotate_left
                · intro w hSw
                  (try dsimp only at hSw)
                  first
                    | (go_simp; done)
                    | (go_simp; with_reducible rfl)
                try simp only [Act.put, List.setIfInBounds_toArray, List.set_cons_zero, List.set_cons_succ]
                refine takeD (i := 3) (v := ?_) (some 18) rfl rfl (by kernel_rfl) (by kernel_rfl) (by kernel_rfl) (fun _ _ _ h => h) (Or.inl ⟨by rfl, ?_⟩) (by assumption) ?_
                rotate_left
                · intro w hSw
                  (try dsimp only at hSw)
                  first
                    | (go_simp; done)
                    | (go_simp; with_reducible rfl)
                try simp only [Act.put, List.setIfInBounds_toArray, List.set_cons_zero, List.set_cons_succ]
                refine takeD (i := 4) (v := ?_) (some 19) rfl rfl (by kernel_rfl) (by kernel_rfl) (by kernel_rfl) (fun _ _ _ h => h) (Or.inl ⟨by rfl, ?_⟩) (by assumption) ?_
                rotate_left
                · intro w hSw
                  (try dsimp only at hSw)
                  first
                    | (go_simp; done)
                    | (go_simp; with_reducible rfl)
                try simp only [Act.put, List.setIfInBounds_toArray, List.set_cons_zero, List.set_cons_succ]
                refine takeD (i := 5) (v := ?_) (some 20) rfl rfl (by kernel_rfl) (by kernel_rfl) (by kernel_rfl) (fun _ _ _ h => h) (Or.inl ⟨by rfl, ?_⟩) (by assumption) ?_
                rotate_left
                · intro w hSw
                  (try dsimp only at hSw)
                  first
                    | (go_simp; done)
                    | (go_simp; with_reducible rfl)
                try simp only [Act.put, List.setIfInBounds_toArray, List.set_cons_zero, List.set_cons_succ]
                refine takeD (i := 6) (v := ?_) (some 21) rfl rfl (by kernel_rfl) (by kernel_rfl) (by kernel_rfl) (fun _ _ _ h => h) (Or.inl ⟨by rfl, ?_⟩) (by assumption) ?_
                rotate_left
                · intro w hSw
                  (try dsimp only at hSw)
                  first
                    | (go_simp; done)
                    | (go_simp; with_reducible rfl)
                try simp only [Act.put, List.setIfInBounds_toArray, List.set_cons_zero, List.set_cons_succ]
                refine takeD (i := 7) (v := ?_) (some 22) rfl rfl (by kernel_rfl) (by kernel_rfl) (by kernel_rfl) (fun _ _ _ h => h) (Or.inl ⟨by rfl, ?_⟩) (by assumption) ?_
                rotate_left
                · intro w hSw
                  (try dsimp only at hSw)
                  first
                    | (go_simp; done)
                    | (go_simp; with_reducible rfl)
                try simp only [Act.put, List.setIfInBounds_toArray, List.set_cons_zero, List.set_cons_succ]
                refine takeD (i := 9) (v := ?_) (some 24) rfl rfl (by kernel_rfl) (by kernel_rfl) (by kernel_rfl) (fun _ _ _ h => h) (Or.inl ⟨by rfl, ?_⟩) (by assumption) ?_
                rotate_left
                · intro w hSw
                  (try dsimp only at hSw)
                  first
                    | (go_simp; done)
                    | (go_simp; with_reducible rfl)
                try simp only [Act.put, List.setIfInBounds_toArray, List.set_cons_zero, List.set_cons_succ]
                refine takeD (i := 10) (v := ?_) (some 25) rfl rfl (by kernel_rfl) (by kernel_rfl) (by kernel_rfl) (fun _ _ _ h => h) (Or.inl ⟨by rfl, ?_⟩) (by assumption) ?_
                rotate_left
                · intro w hSw
                  (try dsimp only at hSw)
                  first
                    | (go_simp; done)
                    | (go_simp; with_reducible rfl)
                try simp only [Act.put, List.setIfInBounds_toArray, List.set_cons_zero, List.set_cons_succ]
                refine takeD (i := 11) (v := ?_) (some 26) rfl rfl (by kernel_rfl) (by kernel_rfl) (by kernel_rfl) (fun _ _ _ h => h) (Or.inl ⟨by rfl, ?_⟩) (by assumption) ?_
                rotate_left
                · intro w hSw
                  (try dsimp only at hSw)
                  first
                    | (go_simp; done)
                    | (go_simp; with_reducible rfl)
                try simp only [Act.put, List.setIfInBounds_toArray, List.set_cons_zero, List.set_cons_succ]
                refine takeD (i := 12) (v := ?_) (some 27) rfl rfl (by kernel_rfl) (by kernel_rfl) (by kernel_rfl) (fun _ _ _ h => h) (Or.inl ⟨by rfl, ?_⟩) (by assumption) ?_
                rotate_left
                · intro w hSw
                  (try dsimp only at hSw)
                  first
                    | (go_simp; done)
                    | (go_simp; with_reducible rfl)
                try simp only [Act.put, List.setIfInBounds_toArray, List.set_cons_zero, List.set_cons_succ]
                refine wpAnyH_ready (rs := [8]) (by kernel_rfl) (by simp) ?_
                refine AllReadyH.cons rfl (fun K hK => ?_) AllReadyH.nil
                go_simp
                refine (HKYH.out _ HWD.out).mono ?_; rintro e w2 ⟨A2, c2, l2, rfl, ho, b2⟩
                have SK := hid (Sl.of_own ho)
                have HB2 := hid (below_call HWD.out b2 HWD.out.size)
                clear ho b2
                refine hK.out _ _ ?_ (fun hHeld => ?_)
                · (try dsimp only)
                  (all_goals trivial)
                clear hK K
                try simp only [Act.put, List.setIfInBounds_toArray, List.set_cons_zero, List.set_cons_succ]
                refine wpAnyH_ready (rs := [13]) (by kernel_rfl) (by simp) ?_
                refine AllReadyH.cons rfl (fun K hK => ?_) AllReadyH.nil
                go_simp
                try rw [HRM.out]
                refine (HI1Y.out _ _ _ _ SK.out).mono ?_; rintro e w3 ⟨rfl, b3⟩
                have HB3 := hid (below_call HB2.out b3 HB2.out.size)
                clear b3
                refine hK.out _ _ ?_ (fun hHeld => ?_)
                · (try dsimp only)
                  (all_goals trivial)
                clear hK K
                try simp only [Act.put, List.setIfInBounds_toArray, List.set_cons_zero, List.set_cons_succ]
                refine takeD (i := 14) (v := ?_) (some 29) rfl rfl (by kernel_rfl) (by kernel_rfl) (by kernel_rfl) (fun _ _ _ h => h) (Or.inl ⟨by rfl, ?_⟩) (by assumption) ?_
                rotate_left
                · intro w hSw
                  (try dsimp only at hSw)
                  first
                    | (go_simp; done)
                    | (go_simp; with_reducible rfl)
                try simp only [Act.put, List.setIfInBounds_toArray, List.set_cons_zero, List.set_cons_succ]
                refine takeD (i := 15) (v := ?_) (some 30) rfl rfl (by kernel_rfl) (by kernel_rfl) (by kernel_rfl) (fun _ _ _ h => h) (Or.inl ⟨by rfl, ?_⟩) (by assumption) ?_
                rotate_left
                · intro w hSw
                  (try dsimp only at hSw)
                  first
                    | (go_simp; done)
                    | (go_simp; with_reducible rfl)
                try simp only [Act.put, List.setIfInBounds_toArray, List.set_cons_zero, List.set_cons_succ]
                refine takeD (i := 16) (v := ?_) (some 31) rfl rfl (by kernel_rfl) (by kernel_rfl) (by kernel_rfl) (fun _ _ _ h => h) (Or.inl ⟨by rfl, ?_⟩) (by assumption) ?_
                rotate_left
                · intro w hSw
                  (try dsimp only at hSw)
                  first
                    | (go_simp; done)
                    | (go_simp; with_reducible rfl)
                try simp only [Act.put, List.setIfInBounds_toArray, List.set_cons_zero, List.set_cons_succ]
                refine takeD (i := 17) (v := ?_) (some 32) rfl rfl (by kernel_rfl) (by kernel_rfl) (by kernel_rfl) (fun _ _ _ h => h) (Or.inl ⟨by rfl, ?_⟩) (by assumption) ?_
                rotate_left
                · intro w hSw
                  (try dsimp only at hSw)
                  first
                    | (go_simp; done)
                    | (go_simp; with_reducible rfl)
                try simp only [Act.put, List.setIfInBounds_toArray, List.set_cons_zero, List.set_cons_succ]
                refine takeD (i := 19) (v := ?_) (some 34) rfl rfl (by kernel_rfl) (by kernel_rfl) (by kernel_rfl) (fun _ _ _ h => h) (Or.inl ⟨by rfl, ?_⟩) (by assumption) ?_
                rotate_left
                · intro w hSw
                  (try dsimp only at hSw)
                  first
                    | (go_simp; done)
                    | (go_simp; with_reducible rfl)
                try simp only [Act.put, List.setIfInBounds_toArray, List.set_cons_zero, List.set_cons_succ]
                refine takeD (i := 20) (v := ?_) (some 35) rfl rfl (by kernel_rfl) (by kernel_rfl) (by kernel_rfl) (fun _ _ _ h => h) (Or.inl ⟨by rfl, ?_⟩) (by assumption) ?_
                rotate_left
                · intro w hSw
                  (try dsimp only at hSw)
                  first
                    | (go_simp; done)
                    | (go_simp; with_reducible rfl)
                try simp only [Act.put, List.setIfInBounds_toArray, List.set_cons_zero, List.set_cons_succ]
                refine takeD (i := 21) (v := ?_) (some 36) rfl rfl (by kernel_rfl) (by kernel_rfl) (by kernel_rfl) (fun _ _ _ h => h) (Or.inl ⟨by rfl, ?_⟩) (by assumption) ?_
                rotate_left
                · intro w hSw
                  (try dsimp only at hSw)
                  first
                    | (go_simp; done)
                    | (go_simp; with_reducible rfl)
                try simp only [Act.put, List.setIfInBounds_toArray, List.set_cons_zero, List.set_cons_succ]
                refine takeD (i := 22) (v := ?_) (some 37) rfl rfl (by kernel_rfl) (by kernel_rfl) (by kernel_rfl) (fun _ _ _ h => h) (Or.inl ⟨by rfl, ?_⟩) (by assumption) ?_
                rotate_left
                · intro w hSw
                  (try dsimp only at hSw)
                  first
                    | (go_simp; done)
                    | (go_simp; with_reducible rfl)
                try simp only [Act.put, List.setIfInBounds_toArray, List.set_cons_zero, List.set_cons_succ]
                refine wpAnyH_ready (rs := [18]) (by kernel_rfl) (by simp) ?_
                refine AllReadyH.cons rfl (fun K hK => ?_) AllReadyH.nil
                go_simp
                refine (HOYH.out _ HB3.out).mono ?_; rintro e w4 ⟨A4, c4, l4, rfl, ho, b4⟩
                have SO := hid (Sl.of_own ho)
                have HB4 := hid (below_call HB3.out b4 HB3.out.size)
                clear ho b4
                refine hK.out _ _ ?_ (fun hHeld => ?_)
                · (try dsimp only)
                  (all_goals trivial)
                clear hK K
                try simp only [Act.put, List.setIfInBounds_toArray, List.set_cons_zero, List.set_cons_succ]
                refine wpAnyH_ready (rs := [23]) (by kernel_rfl) (by simp) ?_
                refine AllReadyH.cons rfl (fun K hK => ?_) AllReadyH.nil
                go_simp
                try rw [HRM.out]
                refine (HI0Y.out _ _ _ _ SO.out).mono ?_; rintro e w5 ⟨rfl, b5⟩
                have HB5 := hid (below_call HB4.out b5 HB4.out.size)
                clear b5
                refine hK.out _ _ ?_ (fun hHeld => ?_)
                · (try dsimp only)
                  (all_goals trivial)
                clear hK K
                try simp only [Act.put, List.setIfInBounds_toArray, List.set_cons_zero, List.set_cons_succ]
                refine takeD (i := 24) (v := ?_) (some 39) rfl rfl (by kernel_rfl) (by kernel_rfl) (by kernel_rfl) (fun _ _ _ h => h) (Or.inl ⟨by rfl, ?_⟩) (by assumption) ?_
                rotate_left
                · intro w hSw
                  (try dsimp only at hSw)
                  first
                    | (go_simp; done)
                    | (go_simp; with_reducible rfl)
                try simp only [Act.put, List.setIfInBounds_toArray, List.set_cons_zero, List.set_cons_succ]
                refine wpAnyH_done (by kernel_rfl) ?_ _
                go_wp2
                go_roundg (gk - 1)
                case measure => have := HY.out; have := HLT.out; omega
                case rel => exact ⟨y + 1, by have := HY.out; have := HLT.out; omega, by go_num, HA2, HB5⟩
              · have HE := hid (HYY he0 he1)
                rw [he0] at HI0Y
                have HI0Y := hid HI0Y
                clear he1 he0 HYY h1 h2
                go_wp2_with fail
                have HWD := hid HW.out.drew
                refine wp_region_held_drew (S := (fun _ => True)) (by kernel_rfl) (by (try dsimp only); (all_goals trivial)) (fun hHeld => ?_)
                refine takeD (i := 0) (v := ?_) (some 15) rfl rfl (by kernel_rfl) (by kernel_rfl) (by kernel_rfl) (fun _ _ _ h => h) (Or.inl ⟨by rfl, ?_⟩) (by assumption) ?_
                rotate_left
                · intro w hSw
                  (try dsimp only at hSw)
                  first
                    | (go_simp; done)
                    | (go_simp; with_reducible rfl)
                try simp only [Act.put, List.setIfInBounds_toArray, List.set_cons_zero, List.set_cons_succ]
                refine takeD (i := 1) (v := ?_) (some 16) rfl rfl (by kernel_rfl) (by kernel_rfl) (by kernel_rfl) (fun _ _ _ h => h) (Or.inl ⟨by rfl, ?_⟩) (by assumption) ?_
                rotate_left
                · intro w hSw
                  (try dsimp only at hSw)
                  first
                    | (go_simp; done)
                    | (go_simp; with_reducible rfl)
                try simp only [Act.put, List.setIfInBounds_toArray, List.set_cons_zero, List.set_cons_succ]
                refine takeD (i := 2) (v := ?_) (some 17) rfl rfl (by kernel_rfl) (by kernel_rfl) (by kernel_rfl) (fun _ _ _ h => h) (Or.inl ⟨by rfl, ?_⟩) (by assumption) ?_
                rotate_left
                · intro w hSw
                  (try dsimp only at hSw)
                  first
                    | (go_simp; done)
                    | (go_simp; with_reducible rfl)
                try simp only [Act.put, List.setIfInBounds_toArray, List.set_cons_zero, List.set_cons_succ]
                refine takeD (i := 3) (v := ?_) (some 18) rfl rfl (by kernel_rfl) (by kernel_rfl) (by kernel_rfl) (fun _ _ _ h => h) (Or.inl ⟨by rfl, ?_⟩) (by assumption) ?_
                rotate_left
                · intro w hSw
                  (try dsimp only at hSw)
                  first
                    | (go_simp; done)
                    | (go_simp; with_reducible rfl)
                try simp only [Act.put, List.setIfInBounds_toArray, List.set_cons_zero, List.set_cons_succ]
                refine takeD (i := 4) (v := ?_) (some 19) rfl rfl (by kernel_rfl) (by kernel_rfl) (by kernel_rfl) (fun _ _ _ h => h) (Or.inl ⟨by rfl, ?_⟩) (by assumption) ?_
                rotate_left
                · intro w hSw
                  (try dsimp only at hSw)
                  first
                    | (go_simp; done)
                    | (go_simp; with_reducible rfl)
                try simp only [Act.put, List.setIfInBounds_toArray, List.set_cons_zero, List.set_cons_succ]
                refine takeD (i := 5) (v := ?_) (some 20) rfl rfl (by kernel_rfl) (by kernel_rfl) (by kernel_rfl) (fun _ _ _ h => h) (Or.inl ⟨by rfl, ?_⟩) (by assumption) ?_
                rotate_left
                · intro w hSw
                  (try dsimp only at hSw)
                  first
                    | (go_simp; done)
                    | (go_simp; with_reducible rfl)
                try simp only [Act.put, List.setIfInBounds_toArray, List.set_cons_zero, List.set_cons_succ]
                refine takeD (i := 6) (v := ?_) (some 21) rfl rfl (by kernel_rfl) (by kernel_rfl) (by kernel_rfl) (fun _ _ _ h => h) (Or.inl ⟨by rfl, ?_⟩) (by assumption) ?_
                rotate_left
                · intro w hSw
                  (try dsimp only at hSw)
                  first
                    | (go_simp; done)
                    | (go_simp; with_reducible rfl)
                try simp only [Act.put, List.setIfInBounds_toArray, List.set_cons_zero, List.set_cons_succ]
                refine takeD (i := 7) (v := ?_) (some 22) rfl rfl (by kernel_rfl) (by kernel_rfl) (by kernel_rfl) (fun _ _ _ h => h) (Or.inl ⟨by rfl, ?_⟩) (by assumption) ?_
                rotate_left
                · intro w hSw
                  (try dsimp only at hSw)
                  first
                    | (go_simp; done)
                    | (go_simp; with_reducible rfl)
                try simp only [Act.put, List.setIfInBounds_toArray, List.set_cons_zero, List.set_cons_succ]
                refine takeD (i := 9) (v := ?_) (some 24) rfl rfl (by kernel_rfl) (by kernel_rfl) (by kernel_rfl) (fun _ _ _ h => h) (Or.inl ⟨by rfl, ?_⟩) (by assumption) ?_
                rotate_left
                · intro w hSw
                  (try dsimp only at hSw)
                  first
                    | (go_simp; done)
                    | (go_simp; with_reducible rfl)
                try simp only [Act.put, List.setIfInBounds_toArray, List.set_cons_zero, List.set_cons_succ]
                refine takeD (i := 10) (v := ?_) (some 25) rfl rfl (by kernel_rfl) (by kernel_rfl) (by kernel_rfl) (fun _ _ _ h => h) (Or.inl ⟨by rfl, ?_⟩) (by assumption) ?_
                rotate_left
                · intro w hSw
                  (try dsimp only at hSw)
                  first
                    | (go_simp; done)
                    | (go_simp; with_reducible rfl)
                try simp only [Act.put, List.setIfInBounds_toArray, List.set_cons_zero, List.set_cons_succ]
                refine takeD (i := 11) (v := ?_) (some 26) rfl rfl (by kernel_rfl) (by kernel_rfl) (by kernel_rfl) (fun _ _ _ h => h) (Or.inl ⟨by rfl, ?_⟩) (by assumption) ?_
                rotate_left
                · intro w hSw
                  (try dsimp only at hSw)
                  first
                    | (go_simp; done)
                    | (go_simp; with_reducible rfl)
                try simp only [Act.put, List.setIfInBounds_toArray, List.set_cons_zero, List.set_cons_succ]
                refine takeD (i := 12) (v := ?_) (some 27) rfl rfl (by kernel_rfl) (by kernel_rfl) (by kernel_rfl) (fun _ _ _ h => h) (Or.inl ⟨by rfl, ?_⟩) (by assumption) ?_
                rotate_left
                · intro w hSw
                  (try dsimp only at hSw)
                  first
                    | (go_simp; done)
                    | (go_simp; with_reducible rfl)
                try simp only [Act.put, List.setIfInBounds_toArray, List.set_cons_zero, List.set_cons_succ]
                refine wpAnyH_ready (rs := [8]) (by kernel_rfl) (by simp) ?_
                refine AllReadyH.cons rfl (fun K hK => ?_) AllReadyH.nil
                go_simp
                refine (HKYH.out _ HWD.out).mono ?_; rintro e w2 ⟨A2, c2, l2, rfl, ho, b2⟩
                have SK := hid (Sl.of_own ho)
                have HB2 := hid (below_call HWD.out b2 HWD.out.size)
                clear ho b2
                refine hK.out _ _ ?_ (fun hHeld => ?_)
                · (try dsimp only)
                  (all_goals trivial)
                clear hK K
                try simp only [Act.put, List.setIfInBounds_toArray, List.set_cons_zero, List.set_cons_succ]
                refine wpAnyH_ready (rs := [13]) (by kernel_rfl) (by simp) ?_
                refine AllReadyH.cons rfl (fun K hK => ?_) AllReadyH.nil
                go_simp
                try rw [HRM.out]
                refine (HI1Y.out _ _ _ _ SK.out).mono ?_; rintro e w3 ⟨rfl, b3⟩
                have HB3 := hid (below_call HB2.out b3 HB2.out.size)
                clear b3
                refine hK.out _ _ ?_ (fun hHeld => ?_)
                · (try dsimp only)
                  (all_goals trivial)
                clear hK K
                try simp only [Act.put, List.setIfInBounds_toArray, List.set_cons_zero, List.set_cons_succ]
                refine takeD (i := 14) (v := ?_) (some 29) rfl rfl (by kernel_rfl) (by kernel_rfl) (by kernel_rfl) (fun _ _ _ h => h) (Or.inl ⟨by rfl, ?_⟩) (by assumption) ?_
                rotate_left
                · intro w hSw
                  (try dsimp only at hSw)
                  first
                    | (go_simp; done)
                    | (go_simp; with_reducible rfl)
                try simp only [Act.put, List.setIfInBounds_toArray, List.set_cons_zero, List.set_cons_succ]
                refine takeD (i := 15) (v := ?_) (some 30) rfl rfl (by kernel_rfl) (by kernel_rfl) (by kernel_rfl) (fun _ _ _ h => h) (Or.inl ⟨by rfl, ?_⟩) (by assumption) ?_
                rotate_left
                · intro w hSw
                  (try dsimp only at hSw)
                  first
                    | (go_simp; done)
                    | (go_simp; with_reducible rfl)
                try simp only [Act.put, List.setIfInBounds_toArray, List.set_cons_zero, List.set_cons_succ]
                refine takeD (i := 16) (v := ?_) (some 31) rfl rfl (by kernel_rfl) (by kernel_rfl) (by kernel_rfl) (fun _ _ _ h => h) (Or.inl ⟨by rfl, ?_⟩) (by assumption) ?_
                rotate_left
                · intro w hSw
                  (try dsimp only at hSw)
                  first
                    | (go_simp; done)
                    | (go_simp; with_reducible rfl)
                try simp only [Act.put, List.setIfInBounds_toArray, List.set_cons_zero, List.set_cons_succ]
                refine takeD (i := 17) (v := ?_) (some 32) rfl rfl (by kernel_rfl) (by kernel_rfl) (by kernel_rfl) (fun _ _ _ h => h) (Or.inl ⟨by rfl, ?_⟩) (by assumption) ?_
                rotate_left
                · intro w hSw
                  (try dsimp only at hSw)
                  first
                    | (go_simp; done)
                    | (go_simp; with_reducible rfl)
                try simp only [Act.put, List.setIfInBounds_toArray, List.set_cons_zero, List.set_cons_succ]
                refine takeD (i := 19) (v := ?_) (some 34) rfl rfl (by kernel_rfl) (by kernel_rfl) (by kernel_rfl) (fun _ _ _ h => h) (Or.inl ⟨by rfl, ?_⟩) (by assumption) ?_
                rotate_left
                · intro w hSw
                  (try dsimp only at hSw)
                  first
                    | (go_simp; done)
                    | (go_simp; with_reducible rfl)
                try simp only [Act.put, List.setIfInBounds_toArray, List.set_cons_zero, List.set_cons_succ]
                refine takeD (i := 20) (v := ?_) (some 35) rfl rfl (by kernel_rfl) (by kernel_rfl) (by kernel_rfl) (fun _ _ _ h => h) (Or.inl ⟨by rfl, ?_⟩) (by assumption) ?_
                rotate_left
                · intro w hSw
                  (try dsimp only at hSw)
                  first
                    | (go_simp; done)
                    | (go_simp; with_reducible rfl)
                try simp only [Act.put, List.setIfInBounds_toArray, List.set_cons_zero, List.set_cons_succ]
                refine takeD (i := 21) (v := ?_) (some 36) rfl rfl (by kernel_rfl) (by kernel_rfl) (by kernel_rfl) (fun _ _ _ h => h) (Or.inl ⟨by rfl, ?_⟩) (by assumption) ?_
                rotate_left
                · intro w hSw
                  (try dsimp only at hSw)
                  first
                    | (go_simp; done)
                    | (go_simp; with_reducible rfl)
                try simp only [Act.put, List.setIfInBounds_toArray, List.set_cons_zero, List.set_cons_succ]
                refine takeD (i := 22) (v := ?_) (some 37) rfl rfl (by kernel_rfl) (by kernel_rfl) (by kernel_rfl) (fun _ _ _ h => h) (Or.inl ⟨by rfl, ?_⟩) (by assumption) ?_
                rotate_left
                · intro w hSw
                  (try dsimp only at hSw)
                  first
                    | (go_simp; done)
                    | (go_simp; with_reducible rfl)
                try simp only [Act.put, List.setIfInBounds_toArray, List.set_cons_zero, List.set_cons_succ]
                refine wpAnyH_ready (rs := [18]) (by kernel_rfl) (by simp) ?_
                refine AllReadyH.cons rfl (fun K hK => ?_) AllReadyH.nil
                go_simp
                refine (HOYH.out _ HB3.out).mono ?_; rintro e w4 ⟨A4, c4, l4, rfl, ho, b4⟩
                have SO := hid (Sl.of_own ho)
                have HB4 := hid (below_call HB3.out b4 HB3.out.size)
                clear ho b4
                refine hK.out _ _ ?_ (fun hHeld => ?_)
                · (try dsimp only)
                  (all_goals trivial)
                clear hK K
                try simp only [Act.put, List.setIfInBounds_toArray, List.set_cons_zero, List.set_cons_succ]
                refine wpAnyH_ready (rs := [23]) (by kernel_rfl) (by simp) ?_
                refine AllReadyH.cons rfl (fun K hK => ?_) AllReadyH.nil
                go_simp
                try rw [HRM.out]
                refine (HI0Y.out _ _ _ _ SO.out).mono ?_; rintro e w5 ⟨rfl, b5⟩
                have HB5 := hid (below_call HB4.out b5 HB4.out.size)
                clear b5
                refine hK.out _ _ ?_ (fun hHeld => ?_)
                · (try dsimp only)
                  (all_goals trivial)
                clear hK K
                try simp only [Act.put, List.setIfInBounds_toArray, List.set_cons_zero, List.set_cons_succ]
                refine takeD (i := 24) (v := ?_) (some 39) rfl rfl (by kernel_rfl) (by kernel_rfl) (by kernel_rfl) (fun _ _ _ h => h) (Or.inl ⟨by rfl, ?_⟩) (by assumption) ?_
                rotate_left
                · intro w hSw
                  (try dsimp only at hSw)
                  first
                    | (go_simp; done)
                    | (go_simp; with_reducible rfl)
                try simp only [Act.put, List.setIfInBounds_toArray, List.set_cons_zero, List.set_cons_succ]
                refine wpAnyH_done (by kernel_rfl) ?_ _
                go_wp2
                go_ret
                exact ⟨ret_b HE.out, HB5.out⟩
        · obtain rfl : y = 6 := by have := HY.out; omega
          have HE := hid (HNO.out fun x hx h0 => HA.out x (by omega) hx h0)
          clear hy hlt
          go_wp2
          go_ret
          exact ⟨ret_b HE.out, HW.out⟩
  · rw [hst] at HST
    have h0 : eB n F a i = true := by unfold eB; rw [hst]; rfl
    rw [h0]
    clear hst hs hv IH ha h64 hlt hk h0
    go_enter Tryd.func78, Tryd.ntmps78
    go_wp2_with fail
    refine (HST.out _ HB0.out).mono ?_; rintro e w1 ⟨rfl, rfl⟩
    go_wp2
    go_ret
    exact ⟨rfl, HB0.out⟩
theorem rEar (n F : Nat) (h6 : n ≤ 6) : ∀ k, REar n F k := by
  intro k
  induction k with
  | zero => exact rEarStep n F 0 h6 fun j h => absurd h (by omega)
  | succ k ih =>
    refine rEarStep n F (k + 1) h6 fun j h => ?_
    have e : j = k := by omega
    subst e; exact ih
set_option maxRecDepth 100000 in
set_option maxHeartbeats 1000000 in
theorem refEarly (n : Nat) (A : Option Addr) (m c : Nat) (xs : List Int) (w : World) (hs : Sl w A m c (xs.map (Value.int .i64))) (H : Fam n xs) :
    Calls Tryd.prog 40 #[.int .i64 n, .slice A m c] w fun e w' => e = .returned (.bool (earlyB n xs)) ∧ Below w.heap.size w w' := by
  have h6 := H.n6n
  have h1 := H.n1n
  have he : eB n (setF xs) 0 0 = earlyB n xs := by
    have := eB_ask (n := n) (F := setF xs) (a := 0) (i := 0) (by rw [un_none]; exact h1)
    rw [un_none] at this
    unfold earlyB
    rw [Bool.eq_iff_iff, this, decide_eq_true_iff]
  have HR := hid (rEar n (setF xs) h6 _ 0 0 A m c w rfl (View.zero n) (by rw [fv_zero H]; exact hs))
  rw [lf_zero, he] at HR
  have FN : Fits (n : Int) := ⟨by omega, by omega⟩
  have hp := p2_nat n
  have h64 := two6 h6
  have hpp := Nat.two_pow_pos n
  have hpb : 1 ≤ p2 (n : Int) ∧ p2 (n : Int) ≤ 64 := by omega
  generalize earlyB n xs = q at *
  clear hs H hp h64 hpp he
  go_enter Tryd.func40, Tryd.ntmps40
  go_wp2_with fail
  refine (HR.out).mono ?_; rintro e w1 ⟨rfl, b1⟩
  have HB := hid b1
  clear b1
  go_wp2
  go_ret
  exact ⟨rfl, HB.out⟩
end Go.Proofs.YtjddbglbodkihaaDoor
