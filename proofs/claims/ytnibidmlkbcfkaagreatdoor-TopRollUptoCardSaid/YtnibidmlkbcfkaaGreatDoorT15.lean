/- Walks of weigh's possibilities, valid and Bound. Condition: numbers from 0 to 1000. -/
import Derived.Test.YtnibidmlkbcfkaaGreatDoorT5
namespace Go.Proofs.YtnibidmlkbcfkaaGreatDoor
open Go.RowKit Go.Maps
/-- What is known of coins, as a value. -/
def knV (b h t g : Int) (nn : Bool) : Value := .agg #[.int .i64 b, .int .i64 h, .int .i64 t, .int .i64 g, .bool nn]
def inK (b h t g : Int) : Prop := 0 ≤ b ∧ b ≤ 1000 ∧ 0 ≤ h ∧ h ≤ 1000 ∧ 0 ≤ t ∧ t ≤ 1000 ∧ 0 ≤ g ∧ g ≤ 1000
set_option maxRecDepth 100000 in
theorem possF (b h t g : Int) (nn : Bool) (hk : inK b h t g) (w : World) :
 Calls Tryz.prog 177 #[knV b h t g nn] w fun x w' => x = .returned (.int .i64 (2 * b + h + t + if nn then 1 else 0)) ∧ Below w.heap.size w w' := by
 unfold inK at hk
 unfold knV
 cases nn
 · go_enter Tryz.func177, Tryz.ntmps177
   go_wp2
   go_ret
   refine ⟨?_, (Below.refl _ w).alloc (Nat.le_refl _) _⟩
   congr 2
 · go_enter Tryz.func177, Tryz.ntmps177
   go_wp2
   go_ret
   refine ⟨?_, (Below.refl _ w).alloc (Nat.le_refl _) _⟩
   congr 2
theorem min4 (t : TypeId) (ts : Array TypeId) (a b c d : Int) (W : World) : (Builtin.min_ ts t #[.int .i64 a, .int .i64 b, .int .i64 c, .int .i64 d]).run Tryz.prog W = .ok (.int .i64 (min (min (min a b) c) d)) W := by
 have e : ∀ x y : Int, (if y < x then y else x) = min x y := fun x y => by
  rw [Int.min_def]
  split <;> split <;> omega
 simp [Builtin.min_, Builtin.min2, e]
theorem max4 (t : TypeId) (ts : Array TypeId) (a b c d : Int) (W : World) : (Builtin.max_ ts t #[.int .i64 a, .int .i64 b, .int .i64 c, .int .i64 d]).run Tryz.prog W = .ok (.int .i64 (max (max (max a b) c) d)) W := by
 have e : ∀ x y : Int, (if y > x then y else x) = max x y := fun x y => by
  rw [Int.max_def]
  split <;> split <;> omega
 simp [Builtin.max_, Builtin.max2, e]
/-- Is what is known valid? -/
def knOk (b h t g : Int) : Bool := decide (b + h + t ≤ 13) && decide (g ≤ 13)
set_option maxRecDepth 100000 in
set_option maxHeartbeats 2000000 in
theorem validF (b h t g : Int) (hk : inK b h t g) (w : World) :
 Calls Tryz.prog 175 #[knV b h t g true] w fun x w' => x = .returned (.bool (knOk b h t g)) ∧ Below w.heap.size w w' := by
 have HP := hid fun W => possF b h t g true hk W
 unfold inK at hk
 unfold knV at HP ⊢
 unfold knOk
 have m4 := fun W => min4 3 #[3, 3, 3, 3] b h t g W
 have x4 := fun W => max4 3 #[3, 3, 3, 3] b h t g W
 have hmin : 0 ≤ min (min (min b h) t) g := by omega
 have hmax : (max (max (max b h) t) g ≤ 13) ↔ b ≤ 13 ∧ h ≤ 13 ∧ t ≤ 13 ∧ g ≤ 13 := by omega
 generalize min (min (min b h) t) g = mn at *
 generalize max (max (max b h) t) g = mx at *
 have g1 : decide (mn < 0) = false := decide_eq_false (by omega)
 by_cases h13 : mx ≤ 13
 · have g2 : decide (13 < mx) = false := decide_eq_false (by omega)
   have hx := hmax.1 h13
   have e1 : wrap64 (b + h) = b + h := by simp only [wrap64]; omega
   have e2 : wrap64 (b + h + t) = b + h + t := by simp only [wrap64]; omega
   rw [show decide (g ≤ 13) = true from decide_eq_true hx.2.2.2, Bool.and_true]
   by_cases hs : b + h + t ≤ 13
   · have g3 : decide (b + h + t ≤ 13) = true := decide_eq_true hs
     have g4 : decide (1 ≤ 2 * b + h + t + 1) = true := decide_eq_true (by omega)
     clear hmin hmax h13 hx hs hk
     go_enter Tryz.func175, Tryz.ntmps175
     go_wp2_with fail
     refine (HP.out _).mono ?_; rintro x w2 ⟨rfl, b2⟩
     go_wp2
     go_ret
     exact ⟨by first | rfl | (rw [g3]; rfl), below_call ((Below.refl _ w).alloc (Nat.le_refl _) _) b2 (by simp)⟩
   · have g3 : decide (b + h + t ≤ 13) = false := decide_eq_false hs
     clear hmin hmax h13 hx hs hk
     go_enter Tryz.func175, Tryz.ntmps175
     go_wp2
     go_ret
     exact ⟨by first | rfl | (rw [g3]; rfl), (Below.refl _ w).alloc (Nat.le_refl _) _⟩
 · have g2 : decide (13 < mx) = true := decide_eq_true (by omega)
   have hf : (decide (b + h + t ≤ 13) && decide (g ≤ 13)) = false := by
    rw [Bool.and_eq_false_iff, decide_eq_false_iff_not, decide_eq_false_iff_not]
    omega
   rw [hf]
   clear hmin hmax h13 hf hk
   go_enter Tryz.func175, Tryz.ntmps175
   go_wp2
   go_ret
   exact ⟨rfl, (Below.refl _ w).alloc (Nat.le_refl _) _⟩
/-- The bound by counting. -/
def bndR (p : Int) : Nat := if p ≤ 1 then 0 else if p ≤ 3 then 1 else if p ≤ 9 then 2 else 3
theorem bndR_le (p : Int) : bndR p ≤ 3 := by
 unfold bndR
 split
 · omega
 · split
   · omega
   · split <;> omega
theorem bndR_lt {p : Int} (hp : p ≤ 27) {k : Nat} (hk : k ≤ 3) : (((3 ^ k : Nat) : Int) < p) ↔ k < bndR p := by
 unfold bndR
 rcases (show k = 0 ∨ k = 1 ∨ k = 2 ∨ k = 3 by omega) with rfl | rfl | rfl | rfl
 all_goals
  simp only [Nat.reducePow]
  split
  · omega
  · split
    · omega
    · split <;> omega
theorem pow3_le {k : Nat} (hk : k ≤ 3) : 3 ^ k ≤ 27 := by
 rcases (show k = 0 ∨ k = 1 ∨ k = 2 ∨ k = 3 by omega) with rfl | rfl | rfl | rfl <;> decide
set_option maxRecDepth 100000 in
set_option maxHeartbeats 2000000 in
theorem boundF (b h t g : Int) (hk : inK b h t g) (w : World) :
 Calls Tryz.prog 143 #[knV b h t g true] w fun x w' => x = .returned (.tuple #[.int .i64 (((if knOk b h t g then bndR (2 * b + h + t + 1) else 0 : Nat) : Int)), .int .i64 (if knOk b h t g then 0 else 2)]) ∧ Below w.heap.size w w' := by
 have HP := hid fun W => possF b h t g true hk W
 have HV := hid fun W => validF b h t g hk W
 have HK := hid hk
 unfold inK at hk
 unfold knV at HP HV ⊢
 cases hok : knOk b h t g
 · rw [hok] at HV
   simp only [Bool.false_eq_true, if_false]
   clear hok hk
   go_enter Tryz.func143, Tryz.ntmps143
   go_wp2_with fail
   refine (HV.out _).mono ?_; rintro x w2 ⟨rfl, b2⟩
   go_wp2
   go_ret2
   exact ⟨rfl, below_call ((Below.refl _ w).alloc (Nat.le_refl _) _) b2 (by simp)⟩
 · rw [hok] at HV
   simp only [if_true]
   have hp : 1 ≤ 2 * b + h + t + 1 ∧ 2 * b + h + t + 1 ≤ 27 := by
    unfold knOk at hok
    simp only [Bool.and_eq_true, decide_eq_true_iff] at hok
    omega
   have HB0 := hid (Blk.new w 146 #[.int .i64 b, .int .i64 h, .int .i64 t, .int .i64 g, .bool true])
   clear hok hk
   go_enter Tryz.func143, Tryz.ntmps143
   go_wp2_with fail
   refine (HV.out _).mono ?_; rintro x w2 ⟨rfl, b2⟩
   have HB1 := hid (HB0.out.keep b2)
   have HW := hid (below_call ((Below.refl _ w).alloc (Nat.le_refl _) _) b2 (by simp))
   clear b2 HB0
   have hN := bndR_le (2 * b + h + t + 1)
   have HL := hid fun k => @bndR_lt (2 * b + h + t + 1) hp.2 k
   obtain ⟨N, hNe⟩ : ∃ N, N = bndR (2 * b + h + t + 1) := ⟨_, rfl⟩
   have HNE := hid hNe
   rw [← hNe] at hN HL
   clear hNe
   go_wp2
   go_loopg [4, 5] N (fun gk x y wr => ∃ k : Nat, gk + k = N ∧ x = .int .i64 k ∧ y = .int .i64 ((3 ^ k : Nat) : Int) ∧ Hid (Blk wr w.heap.size 146 #[.int .i64 b, .int .i64 h, .int .i64 t, .int .i64 g, .bool true]) ∧ Hid (Below w.heap.size w wr))
   case atStart => exact ⟨0, by omega, rfl, rfl, HB1, HW⟩
   case round =>
    clear HB1 HW
    obtain ⟨k, hq, rfl, rfl, HB1, HW⟩ := hrel
    have HQ := hid hq
    have c0 := HB1.out.cell 0
    have c1 := HB1.out.cell 1
    have c2 := HB1.out.cell 2
    have c3 := HB1.out.cell 3
    have c4 := HB1.out.cell 4
    simp only [List.getElem?_toArray, List.getElem?_cons_zero, List.getElem?_cons_succ] at c0 c1 c2 c3 c4
    have hk3 : k ≤ 3 := by omega
    have HPW := hid (HP.out wr)
    have hpw := pow3_le hk3
    by_cases hlt : k < N
    · have HLT := hid hlt
      have gg : decide (((3 ^ k : Nat) : Int) < 2 * b + h + t + 1) = true := decide_eq_true ((HL.out k hk3).2 hlt)
      have e3 : ((3 ^ (k + 1) : Nat) : Int) = ((3 ^ k : Nat) : Int) * 3 := by rw [Nat.pow_succ]; push_cast; rfl
      generalize 3 ^ k = pk at *
      clear hq
      go_wp2_with fail
      refine (HPW.out).mono ?_; rintro x w3 ⟨rfl, b3⟩
      have HB3 := hid (HB1.out.keep b3)
      have HW3 := hid (below_call HW.out b3 HW.out.size)
      clear b3 HPW c0 c1 c2 c3 c4
      go_wp2
      go_roundg (gk - 1)
      case measure => have := HQ.out; have := HLT.out; omega
      case rel => exact ⟨k + 1, by have := HQ.out; have := HLT.out; omega, by go_num, by rw [e3], HB3, HW3⟩
    · have gg : decide (((3 ^ k : Nat) : Int) < 2 * b + h + t + 1) = false := decide_eq_false (fun hc => hlt ((HL.out k hk3).1 hc))
      obtain rfl : k = N := by have := HQ.out; omega
      generalize 3 ^ k = pk at *
      clear hq hlt
      go_wp2_with fail
      refine (HPW.out).mono ?_; rintro x w3 ⟨rfl, b3⟩
      have HW3 := hid (below_call HW.out b3 HW.out.size)
      clear b3 HPW c0 c1 c2 c3 c4
      go_wp2
      go_ret2
      exact ⟨by have e := HNE.out; simp [← e], HW3.out⟩
end Go.Proofs.YtnibidmlkbcfkaaGreatDoor
