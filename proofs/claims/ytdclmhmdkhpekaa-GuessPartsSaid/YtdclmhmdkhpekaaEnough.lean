/- Walk of the reference's enough. Conditions: the game's numbers are small; the slice reads as rising codes. -/
import Derived.Test.YtdclmhmdkhpekaaGroups
import Derived.Test.YtdclmhmdkhpekaaCodes
namespace Go.Proofs.Ytdclmhmdkhpekaa
open Go.RowKit Go.Maps

/-- What enough asks of one place. -/
def placeOk (c : Int) (p N n : Nat) (l : List Int) (a : Int) (i : Nat) : Bool := decide (i = 5 * p) || (decide ((grpL c p l a i).length < l.length) && enoughL c p N n (grpL c p l a i))
def okTo (c : Int) (p N n : Nat) (l : List Int) (a : Int) (k : Nat) : Bool := (List.range k).all (placeOk c p N n l a)
theorem okTo_succ (c : Int) (p N n : Nat) (l : List Int) (a : Int) (k : Nat) : okTo c p N n l a (k + 1) = (okTo c p N n l a k && placeOk c p N n l a k) := by
  simp [okTo, List.range_succ]
/-- The codes at the place of some marks are those that the marks leave. -/
theorem grp_part {c : Int} {p : Nat} (hp : p ≤ 4) (hc1 : 1 ≤ c) (hc2 : c ≤ 6) {l : List Int} {a b : Int} {i : Nat} (h : 5 * black c a b p + white c a b p = (i : Int)) : grpL c p l a i = partL c p l a (mrk c p a b) := by
  unfold grpL partL
  apply List.filter_congr
  intro x _
  have h1 := marks_bd (c := c) (a := a) (b := x) hp hc1 hc2
  have h2 := marks_bd (c := c) (a := a) (b := b) hp hc1 hc2
  rw [Bool.eq_iff_iff]
  simp only [decide_eq_true_eq, beq_iff_eq, mrk, Prod.mk.injEq]
  omega
theorem place_nil {c : Int} {p N n : Nat} {l : List Int} {a : Int} {i : Nat} (hl : l ≠ []) (h : grpL c p l a i = []) : placeOk c p N n l a i = true := by
  unfold placeOk
  rw [h, enough_nil]
  have : 0 < l.length := List.length_pos_iff.2 hl
  simp [this]
theorem okTo_all {c : Int} {p N n : Nat} (hp : p ≤ 4) (hc1 : 1 ≤ c) (hc2 : c ≤ 6) {l : List Int} (hl : l ≠ []) (a : Int) :
    okTo c p N n l a 25 = l.all fun b => decide (black c a b p = p) || (decide ((partL c p l a (mrk c p a b)).length < l.length) && enoughL c p N n (partL c p l a (mrk c p a b))) := by
  have key : ∀ (b : Int) (i : Nat), 5 * black c a b p + white c a b p = (i : Int) → placeOk c p N n l a i = (decide (black c a b p = p) || (decide ((partL c p l a (mrk c p a b)).length < l.length) && enoughL c p N n (partL c p l a (mrk c p a b)))) := by
    intro b i hi
    unfold placeOk
    rw [grp_part hp hc1 hc2 hi]
    have h2 := marks_bd (c := c) (a := a) (b := b) hp hc1 hc2
    congr 1
    rw [Bool.eq_iff_iff]
    simp only [decide_eq_true_eq]
    omega
  rw [Bool.eq_iff_iff]
  unfold okTo
  rw [List.all_eq_true, List.all_eq_true]
  constructor
  · intro h b hb
    have h2 := marks_bd (c := c) (a := a) (b := b) hp hc1 hc2
    obtain ⟨i, hi⟩ := Int.eq_ofNat_of_zero_le (show 0 ≤ 5 * black c a b p + white c a b p by omega)
    rw [← key b i hi]
    exact h i (List.mem_range.2 (by omega))
  · intro h i _
    cases hg : grpL c p l a i with
    | nil => exact place_nil hl hg
    | cons x t =>
      have hx : x ∈ grpL c p l a i := by rw [hg]; simp
      unfold grpL at hx
      obtain ⟨h1, h2⟩ := List.mem_filter.1 hx
      rw [key x i (by simpa using h2)]
      exact h x h1

def EnoughTo (p : Nat) (c : Int) (N n : Nat) : Prop := ∀ (A : Option Addr) (k cp : Nat) (l : List Int) (W : World), Sl W A k cp (l.map (Value.int .i64)) → Rise N l →
  Calls Try.prog 57 #[.int .i64 p, .int .i64 c, .slice A k cp, .int .i64 n] W fun e w' => e = .returned (.bool (enoughL c p N n l)) ∧ Below W.heap.size W w'

set_option maxRecDepth 100000 in
set_option maxHeartbeats 1000000 in
theorem enoughZero (p : Nat) (c : Int) (N : Nat) : EnoughTo p c N 0 := by
  intro A k cp l W hs _
  have hlen : l.length = k := by simpa using hs.len
  by_cases hk : k = 0
  · subst hk
    have : l = [] := List.eq_nil_of_length_eq_zero hlen
    subst this
    clear hs hlen
    go_enter Try.func57, Try.ntmps57
    go_wp2
    go_ret
    exact ⟨rfl, Below.refl _ _⟩
  · have g1 : ((k : Int) == 0) = false := by rw [beq_eq_false_iff_ne]; omega
    have g2 : (k == 0) = false := by rw [beq_eq_false_iff_ne]; omega
    have hf : enoughL c p N 0 l = false := by
      cases l with
      | nil => simp at hlen; omega
      | cons x t => rfl
    rw [hf]
    clear hk hf hs hlen
    go_enter Try.func57, Try.ntmps57
    go_wp2
    go_ret
    exact ⟨rfl, Below.refl _ _⟩

set_option maxRecDepth 100000 in
set_option maxHeartbeats 4000000 in
theorem enoughStep (p : Nat) (c : Int) (N n : Nat) (hp : p ≤ 4) (hc1 : 1 ≤ c) (hc2 : c ≤ 6) (hN : N ≤ 256) (hC : codes p c = N) (hn : n ≤ 500) (HT : EnoughTo p c N n) : EnoughTo p c N (n + 1) := by
  intro A k cp l W hs hr
  have hlen : l.length = k := by simpa using hs.len
  by_cases hk : k = 0
  · subst hk
    have : l = [] := List.eq_nil_of_length_eq_zero hlen
    subst this
    have e0 := enough_nil c p N (n + 1)
    rw [e0]
    clear hs hlen hr e0
    go_enter Try.func57, Try.ntmps57
    go_wp2
    go_ret
    exact ⟨rfl, Below.refl _ _⟩
  have hkN := hr.le
  have hk256 : k ≤ 256 := by omega
  have g1 : ((k : Int) == 0) = false := by rw [beq_eq_false_iff_ne]; omega
  have g2 : (k == 0) = false := by rw [beq_eq_false_iff_ne]; omega
  have g3 : (((n + 1 : Nat) : Int) == 0) = false := by rw [beq_eq_false_iff_ne]; omega
  have g4 : (((n : Int) + 1) == 0) = false := by rw [beq_eq_false_iff_ne]; omega
  have hne : l ≠ [] := by rintro rfl; simp at hlen; omega
  have hemp : l.isEmpty = false := by cases l <;> simp_all
  have HREF := hid fun W => (show Calls Try.prog 23 #[.int .i64 p, .int .i64 c] W fun e w' => e = .returned (.int .i64 N) ∧ W = w' from by rw [← hC]; exact refCodes p c W)
  have HLN := hid hlen; have HR := hid hr; have HS := hid hs; have HNE := hid hne; have HTT := hid HT
  by_cases h1 : n = 0 ∧ 1 < k
  · obtain ⟨rfl, h1⟩ := h1
    have g5 : decide (1 < k) = true := decide_eq_true h1
    have g6 : decide (1 < (k : Int)) = true := decide_eq_true (by omega)
    have hE : enoughL c p N (0 + 1) l = false := by simp [enoughL, hemp, hlen, h1]
    rw [hE]
    clear hk hs hr hlen hne hemp hE h1 HT hC
    go_enter Try.func57, Try.ntmps57
    go_wp2
    go_ret
    exact ⟨rfl, Below.refl _ _⟩
  · have hn1 : ((((n : Int) + 1) == 1) = false) ∨ ((((n : Int) + 1) == 1) = true ∧ decide (1 < k) = false ∧ decide (1 < (k : Int)) = false ∧ (((n + 1 : Nat) : Int) == 1) = true) := by
      by_cases e : n = 0
      · right; subst e
        exact ⟨by simp, decide_eq_false (by omega), decide_eq_false (by omega), by simp⟩
      · left; rw [beq_eq_false_iff_ne]; omega
    have hE : enoughL c p N (n + 1) l = (upto N).any fun a => okTo c p N n l a 25 := by
      have hpr : (!(n == 0 && decide (1 < l.length))) = true := by
        by_cases e : n = 0
        · have : ¬ 1 < l.length := by omega
          simp [this]
        · simp [e]
      simp only [enoughL, hemp, Bool.false_or, hpr, Bool.true_and]
      congr 1
      funext a
      rw [okTo_all hp hc1 hc2 hne]
    rw [hE]
    have hH : EnoughTo p c N n := HT
    clear hk hs hr hlen hne hemp hE h1 HT hC hH
    rcases hn1 with g5 | ⟨g5, g6, g7, g8⟩
    all_goals
      go_enter Try.func57, Try.ntmps57
      go_wp2_with (go_at_call 23; refine (HREF.out _).mono ?_; rintro e w' ⟨rfl, rfl⟩)
      go_loopg [30] N (fun g i wr => ∃ j : Nat, g + j = N ∧ i = .int .i64 j ∧ Hid (∀ q, q < j → okTo c p N n l (q : Int) 25 = false) ∧ Below W.heap.size W wr)
      case atStart => exact ⟨0, by omega, rfl, hid fun q h => absurd h (by omega), Below.refl _ _⟩
      case round =>
        obtain ⟨j, hj, rfl, hno, hb⟩ := hrel
        have HJ := hid hj
        by_cases hlt : j < N
        · have HB := hid hb
          have hz := hb.size
          have HGR := hid (groupsS p c A k cp l (j : Int) wr hp hc1 hc2 (HS.out.below hb) (fun x hx => by have := HR.out.mem x hx; omega) (by omega) (by omega))
          clear hj hb
          go_wp2_with fail
          refine HGR.out.mono ?_; rintro e w1 ⟨vs, rfl, hR, hb1⟩
          have HR1 := hid hR
          have HB1 := hid (below_call HB.out hb1 hz)
          have hz1 : W.heap.size ≤ w1.heap.size := Nat.le_trans hz hb1.size
          clear hR hb1
          go_wp2
          obtain ⟨gO, rfl⟩ : ∃ g, g = gk := ⟨_, rfl⟩
          go_loopg [10, 38] 25 (fun g ok i wx => ∃ q : Nat, g + q = 25 ∧ i = .int .i64 q ∧ ok = .bool (okTo c p N n l (j : Int) q) ∧ Hid (Below w1.heap.size w1 wx))
          case atStart => exact ⟨0, rfl, rfl, rfl, hid (Below.refl _ _)⟩
          case round =>
            obtain ⟨q, hq, rfl, rfl, hbx⟩ := hrel
            have HQ := hid hq
            by_cases hq25 : q < 25
            · have hix := run_index96 vs q hq25
              have ho := own_below (HR1.out.own q hq25) hbx.out
              obtain ⟨Aq, cq, hv⟩ := own_form ho
              rw [hv] at ho hix
              have HSQ := hid (Sl.of_own ho)
              have hgl : (grpL c p l (j : Int) q).length ≤ k := by have := List.length_filter_le (fun b => decide (5 * black c (j : Int) b p + white c (j : Int) b p = (q : Int))) l; have := HLN.out; unfold grpL; omega
              have hsucc := okTo_succ c p N n l (j : Int) q
              have HSU := hid hsucc
              have hzx := hbx.out.size
              have HC := hid (HTT.out Aq (grpL c p l (j : Int) q).length cq (grpL c p l (j : Int) q) wr HSQ.out (HR.out.filter _))
              have HO := hid ho
              have HV := hid hv
              clear hq ho hv hsucc
              cases hok : okTo c p N n l (j : Int) q
              · rw [hok] at HSU
                have HOK := hid hok
                clear hok
                go_wp2
                go_roundg (gk - 1)
                case measure => have := HQ.out; omega
                case rel => exact ⟨q + 1, by have := HQ.out; omega, by go_num, by rw [HSU.out]; rfl, hbx⟩
              · rw [hok] at HSU
                have HOK := hid hok
                clear hok
                by_cases e5 : q = 5 * p
                · have t1 : ((q : Int) == 5 * (p : Int)) = true := by rw [beq_iff_eq]; omega
                  have HP : Hid (placeOk c p N n l (j : Int) q = true) := hid (by simp [placeOk, e5])
                  clear e5
                  go_wp2
                  go_roundg (gk - 1)
                  case measure => have := HQ.out; omega
                  case rel => exact ⟨q + 1, by have := HQ.out; omega, by go_num, by rw [HSU.out, HP.out]; rfl, hbx⟩
                · have t1 : ((q : Int) == 5 * (p : Int)) = false := by rw [beq_eq_false_iff_ne]; omega
                  by_cases e6 : (grpL c p l (j : Int) q).length < k
                  · have t2 : decide ((grpL c p l (j : Int) q).length < k) = true := decide_eq_true e6
                    have HP : Hid (placeOk c p N n l (j : Int) q = enoughL c p N n (grpL c p l (j : Int) q)) := hid (by simp [placeOk, e5, HLN.out, e6])
                    clear e5 e6
                    go_wp2_with (go_at_call 57; (with_reducible refine HC.out.mono ?_); rintro e w2 ⟨rfl, hb2⟩; have HB2 := hid hb2; clear hb2)
                    go_roundg (gk - 1)
                    case measure => have := HQ.out; omega
                    case rel => exact ⟨q + 1, by have := HQ.out; omega, by go_num, by rw [HSU.out, HP.out]; rfl, hid (below_call hbx.out HB2.out hzx)⟩
                  · have t2 : decide ((grpL c p l (j : Int) q).length < k) = false := decide_eq_false e6
                    have HP : Hid (placeOk c p N n l (j : Int) q = false) := hid (by simp [placeOk, e5, HLN.out, e6])
                    clear e5 e6
                    go_wp2
                    go_roundg (gk - 1)
                    case measure => have := HQ.out; omega
                    case rel => exact ⟨q + 1, by have := HQ.out; omega, by go_num, by rw [HSU.out, HP.out]; rfl, hbx⟩
            · obtain rfl : q = 25 := by omega
              clear hq
              have hbW := below_call HB1.out hbx.out hz1
              have HBW := hid hbW
              clear hbW
              cases hok : okTo c p N n l (j : Int) 25
              · have HOK := hid hok
                clear hok
                go_wp2
                go_roundg (gO - 1)
                case measure => have := HJ.out; omega
                case rel =>
                  refine ⟨j + 1, by have := HJ.out; omega, by go_num, hid fun q hq => ?_, HBW.out⟩
                  by_cases e : q = j
                  · subst e; exact HOK.out
                  · exact hno.out q (by omega)
              · have HA : Hid (((upto N).any fun a => okTo c p N n l a 25) = true) := hid (List.any_eq_true.2 ⟨(j : Int), mem_upto.2 (by omega), hok⟩)
                clear hok
                go_wp2
                go_ret
                exact ⟨by rw [HA.out]; rfl, HBW.out⟩
        · obtain rfl : j = N := by omega
          have HA : Hid (((upto j).any fun a => okTo c p j n l a 25) = false) := hid (List.any_eq_false.2 fun a ha => by
            have := mem_upto.1 ha
            have h2 := hno.out a.toNat (by omega)
            have e : ((a.toNat : Nat) : Int) = a := by omega
            rw [e] at h2
            rw [h2]; simp)
          clear hj
          go_wp2
          go_ret
          exact ⟨by rw [HA.out]; rfl, hb⟩
theorem enoughAll (p : Nat) (c : Int) (N : Nat) (hp : p ≤ 4) (hc1 : 1 ≤ c) (hc2 : c ≤ 6) (hN : N ≤ 256) (hC : codes p c = N) : ∀ n, n ≤ 500 → EnoughTo p c N n := by
  intro n
  induction n with
  | zero => intro _; exact enoughZero p c N
  | succ n ih => intro h; exact enoughStep p c N n hp hc1 hc2 hN hC (by omega) (ih (by omega))
end Go.Proofs.Ytdclmhmdkhpekaa
