/- Walks of the rules of changes and of questions: maps by words. No condition. -/
import Derived.Test.YtkjinamjdjijcaaGreatDoorOpenE
import Derived.StringKeys
namespace Go.Proofs.YtkjinamjdjijcaaGreatDoor
open Go.RowKit Go.Maps

/-- What a list tells of words. -/
def asS (l : List (List UInt8 × Value)) : Value → Option Value
  | .string s => l.lookup s.data.toList
  | _ => none
theorem asS_nil (x : Value) : asS [] x = none := by
  unfold asS
  split <;> rfl
theorem put_asS (l : List (List UInt8 × Value)) (k : ByteArray) (v : Value) : putX (asS l) (.string k) v (asS ((k.data.toList, v) :: l)) := by
  refine ⟨by simp [asS], fun x hx => ?_⟩
  cases x with
  | string s =>
    have hne : ¬ s.data.toList = k.data.toList := fun e => hx (by
      have h1 : s.data = k.data := Array.toList_inj.1 e
      cases s; cases k; simp_all)
    have hb : (s.data.toList == k.data.toList) = false := by rw [beq_eq_false_iff_ne]; exact hne
    simp [asS, List.lookup, hb]
  | _ => rfl

/-- The rules. -/
def changesL : List (List UInt8 × Value) := [([98, 101, 116], .agg #[.int .i64 0, .int .i64 2, .func (.func 58) #[] #[], .nilFunc]), ([112, 97, 110], .agg #[.int .i64 0, .int .i64 4, .func (.func 57) #[] #[], .nilFunc]), ([98, 97, 116, 99, 104], .agg #[.int .i64 0, .int .i64 4, .func (.func 56) #[] #[], .nilFunc]), ([98, 101, 97, 116], .agg #[.int .i64 2, .int .i64 0, .func (.func 55) #[] #[], .nilFunc]), ([112, 108, 97, 121, 101, 114], .agg #[.int .i64 1, .int .i64 0, .func (.func 54) #[] #[], .nilFunc]), ([97, 98, 111, 118, 101], .agg #[.int .i64 2, .int .i64 0, .func (.func 53) #[] #[], .nilFunc]), ([109, 101, 100, 97, 108], .agg #[.int .i64 1, .int .i64 0, .func (.func 52) #[] #[], .nilFunc])]
set_option maxRecDepth 100000 in
set_option maxHeartbeats 4000000 in
theorem changesF (w : World) :
    Calls Tryz.prog 45 #[] w fun x w' => ∃ b, x = .returned (.map (some b)) ∧ MapX Tryz.prog 9 w' b (asS changesL) ∧ w.heap.size ≤ b ∧ Below w.heap.size w w' := by
  have hmm := @run_makeMap Tryz.prog
  have K : Keyed Tryz.prog 9 := string_keyed Tryz.underlying9
  have m0 : MapX Tryz.prog 9 (w.alloc (.map #[] 0)) w.heap.size (asS []) := (MapX.made w).congr fun x => (asS_nil x).symm
  have b0 : Below w.heap.size w (w.alloc (.map #[] 0)) := (Below.refl _ w).alloc (Nat.le_refl _) _
  obtain ⟨w1, r1, m1, g1⟩ := m0.update K Tryz.underlying111 (Go.WideMaps.keyOf_string_mk Tryz.underlying9 (by decide)) (put_asS _ ⟨#[109, 101, 100, 97, 108]⟩ (.agg #[.int .i64 1, .int .i64 0, .func (.func 52) #[] #[], .nilFunc]))
  have b1 := b0.grown g1 b0.size (fun k hk => by cases hk; exact Nat.le_refl _)
  obtain ⟨w2, r2, m2, g2⟩ := m1.update K Tryz.underlying111 (Go.WideMaps.keyOf_string_mk Tryz.underlying9 (by decide)) (put_asS _ ⟨#[97, 98, 111, 118, 101]⟩ (.agg #[.int .i64 2, .int .i64 0, .func (.func 53) #[] #[], .nilFunc]))
  have b2 := b1.grown g2 b1.size (fun k hk => by cases hk; exact Nat.le_refl _)
  obtain ⟨w3, r3, m3, g3⟩ := m2.update K Tryz.underlying111 (Go.WideMaps.keyOf_string_mk Tryz.underlying9 (by decide)) (put_asS _ ⟨#[112, 108, 97, 121, 101, 114]⟩ (.agg #[.int .i64 1, .int .i64 0, .func (.func 54) #[] #[], .nilFunc]))
  have b3 := b2.grown g3 b2.size (fun k hk => by cases hk; exact Nat.le_refl _)
  obtain ⟨w4, r4, m4, g4⟩ := m3.update K Tryz.underlying111 (Go.WideMaps.keyOf_string_mk Tryz.underlying9 (by decide)) (put_asS _ ⟨#[98, 101, 97, 116]⟩ (.agg #[.int .i64 2, .int .i64 0, .func (.func 55) #[] #[], .nilFunc]))
  have b4 := b3.grown g4 b3.size (fun k hk => by cases hk; exact Nat.le_refl _)
  obtain ⟨w5, r5, m5, g5⟩ := m4.update K Tryz.underlying111 (Go.WideMaps.keyOf_string_mk Tryz.underlying9 (by decide)) (put_asS _ ⟨#[98, 97, 116, 99, 104]⟩ (.agg #[.int .i64 0, .int .i64 4, .func (.func 56) #[] #[], .nilFunc]))
  have b5 := b4.grown g5 b4.size (fun k hk => by cases hk; exact Nat.le_refl _)
  obtain ⟨w6, r6, m6, g6⟩ := m5.update K Tryz.underlying111 (Go.WideMaps.keyOf_string_mk Tryz.underlying9 (by decide)) (put_asS _ ⟨#[112, 97, 110]⟩ (.agg #[.int .i64 0, .int .i64 4, .func (.func 57) #[] #[], .nilFunc]))
  have b6 := b5.grown g6 b5.size (fun k hk => by cases hk; exact Nat.le_refl _)
  obtain ⟨w7, r7, m7, g7⟩ := m6.update K Tryz.underlying111 (Go.WideMaps.keyOf_string_mk Tryz.underlying9 (by decide)) (put_asS _ ⟨#[98, 101, 116]⟩ (.agg #[.int .i64 0, .int .i64 2, .func (.func 58) #[] #[], .nilFunc]))
  have b7 := b6.grown g7 b6.size (fun k hk => by cases hk; exact Nat.le_refl _)
  have HM := hid m7
  have HB := hid b7
  clear m0 m1 m2 m3 m4 m5 m6 m7 b0 b1 b2 b3 b4 b5 b6 b7 g1 g2 g3 g4 g5 g6 g7
  go_enter Tryz.func45, Tryz.ntmps45
  go_wp2
  go_ret
  exact ⟨w.heap.size, rfl, HM.out, Nat.le_refl _, HB.out⟩

/-- The rules. -/
def questionsL : List (List UInt8 × Value) := [([101, 118, 97, 100, 101], .agg #[.int .i64 0, .int .i64 1, .nilFunc, .func (.func 75) #[] #[]]), ([108, 101, 97, 114, 110], .agg #[.int .i64 0, .int .i64 1, .nilFunc, .func (.func 74) #[] #[]]), ([116, 97, 108, 107], .agg #[.int .i64 0, .int .i64 1, .nilFunc, .func (.func 73) #[] #[]]), ([114, 105, 110, 103], .agg #[.int .i64 0, .int .i64 1, .nilFunc, .func (.func 72) #[] #[]]), ([112, 101, 103, 115], .agg #[.int .i64 0, .int .i64 2, .nilFunc, .func (.func 71) #[] #[]]), ([108, 105, 97, 114], .agg #[.int .i64 0, .int .i64 2, .nilFunc, .func (.func 70) #[] #[]]), ([112, 114, 105, 99, 101], .agg #[.int .i64 0, .int .i64 1, .nilFunc, .func (.func 69) #[] #[]]), ([98, 111, 117, 110, 100], .agg #[.int .i64 0, .int .i64 0, .nilFunc, .func (.func 68) #[] #[]]), ([110, 101, 101, 100], .agg #[.int .i64 0, .int .i64 0, .nilFunc, .func (.func 67) #[] #[]]), ([107, 105, 110, 103, 115], .agg #[.int .i64 0, .int .i64 0, .nilFunc, .func (.func 66) #[] #[]]), ([111, 114, 100, 101, 114], .agg #[.int .i64 0, .int .i64 0, .nilFunc, .func (.func 65) #[] #[]]), ([99, 104, 97, 110, 99, 101], .agg #[.int .i64 2, .int .i64 0, .nilFunc, .func (.func 64) #[] #[]]), ([119, 97, 121, 115], .agg #[.int .i64 0, .int .i64 0, .nilFunc, .func (.func 63) #[] #[]]), ([114, 111, 108, 108], .agg #[.int .i64 0, .int .i64 0, .nilFunc, .func (.func 62) #[] #[]])]
set_option maxRecDepth 100000 in
set_option maxHeartbeats 4000000 in
theorem questionsF (w : World) :
    Calls Tryz.prog 48 #[] w fun x w' => ∃ b, x = .returned (.map (some b)) ∧ MapX Tryz.prog 9 w' b (asS questionsL) ∧ w.heap.size ≤ b ∧ Below w.heap.size w w' := by
  have hmm := @run_makeMap Tryz.prog
  have K : Keyed Tryz.prog 9 := string_keyed Tryz.underlying9
  have m0 : MapX Tryz.prog 9 (w.alloc (.map #[] 0)) w.heap.size (asS []) := (MapX.made w).congr fun x => (asS_nil x).symm
  have b0 : Below w.heap.size w (w.alloc (.map #[] 0)) := (Below.refl _ w).alloc (Nat.le_refl _) _
  obtain ⟨w1, r1, m1, g1⟩ := m0.update K Tryz.underlying111 (Go.WideMaps.keyOf_string_mk Tryz.underlying9 (by decide)) (put_asS _ ⟨#[114, 111, 108, 108]⟩ (.agg #[.int .i64 0, .int .i64 0, .nilFunc, .func (.func 62) #[] #[]]))
  have b1 := b0.grown g1 b0.size (fun k hk => by cases hk; exact Nat.le_refl _)
  obtain ⟨w2, r2, m2, g2⟩ := m1.update K Tryz.underlying111 (Go.WideMaps.keyOf_string_mk Tryz.underlying9 (by decide)) (put_asS _ ⟨#[119, 97, 121, 115]⟩ (.agg #[.int .i64 0, .int .i64 0, .nilFunc, .func (.func 63) #[] #[]]))
  have b2 := b1.grown g2 b1.size (fun k hk => by cases hk; exact Nat.le_refl _)
  obtain ⟨w3, r3, m3, g3⟩ := m2.update K Tryz.underlying111 (Go.WideMaps.keyOf_string_mk Tryz.underlying9 (by decide)) (put_asS _ ⟨#[99, 104, 97, 110, 99, 101]⟩ (.agg #[.int .i64 2, .int .i64 0, .nilFunc, .func (.func 64) #[] #[]]))
  have b3 := b2.grown g3 b2.size (fun k hk => by cases hk; exact Nat.le_refl _)
  obtain ⟨w4, r4, m4, g4⟩ := m3.update K Tryz.underlying111 (Go.WideMaps.keyOf_string_mk Tryz.underlying9 (by decide)) (put_asS _ ⟨#[111, 114, 100, 101, 114]⟩ (.agg #[.int .i64 0, .int .i64 0, .nilFunc, .func (.func 65) #[] #[]]))
  have b4 := b3.grown g4 b3.size (fun k hk => by cases hk; exact Nat.le_refl _)
  obtain ⟨w5, r5, m5, g5⟩ := m4.update K Tryz.underlying111 (Go.WideMaps.keyOf_string_mk Tryz.underlying9 (by decide)) (put_asS _ ⟨#[107, 105, 110, 103, 115]⟩ (.agg #[.int .i64 0, .int .i64 0, .nilFunc, .func (.func 66) #[] #[]]))
  have b5 := b4.grown g5 b4.size (fun k hk => by cases hk; exact Nat.le_refl _)
  obtain ⟨w6, r6, m6, g6⟩ := m5.update K Tryz.underlying111 (Go.WideMaps.keyOf_string_mk Tryz.underlying9 (by decide)) (put_asS _ ⟨#[110, 101, 101, 100]⟩ (.agg #[.int .i64 0, .int .i64 0, .nilFunc, .func (.func 67) #[] #[]]))
  have b6 := b5.grown g6 b5.size (fun k hk => by cases hk; exact Nat.le_refl _)
  obtain ⟨w7, r7, m7, g7⟩ := m6.update K Tryz.underlying111 (Go.WideMaps.keyOf_string_mk Tryz.underlying9 (by decide)) (put_asS _ ⟨#[98, 111, 117, 110, 100]⟩ (.agg #[.int .i64 0, .int .i64 0, .nilFunc, .func (.func 68) #[] #[]]))
  have b7 := b6.grown g7 b6.size (fun k hk => by cases hk; exact Nat.le_refl _)
  obtain ⟨w8, r8, m8, g8⟩ := m7.update K Tryz.underlying111 (Go.WideMaps.keyOf_string_mk Tryz.underlying9 (by decide)) (put_asS _ ⟨#[112, 114, 105, 99, 101]⟩ (.agg #[.int .i64 0, .int .i64 1, .nilFunc, .func (.func 69) #[] #[]]))
  have b8 := b7.grown g8 b7.size (fun k hk => by cases hk; exact Nat.le_refl _)
  obtain ⟨w9, r9, m9, g9⟩ := m8.update K Tryz.underlying111 (Go.WideMaps.keyOf_string_mk Tryz.underlying9 (by decide)) (put_asS _ ⟨#[108, 105, 97, 114]⟩ (.agg #[.int .i64 0, .int .i64 2, .nilFunc, .func (.func 70) #[] #[]]))
  have b9 := b8.grown g9 b8.size (fun k hk => by cases hk; exact Nat.le_refl _)
  obtain ⟨w10, r10, m10, g10⟩ := m9.update K Tryz.underlying111 (Go.WideMaps.keyOf_string_mk Tryz.underlying9 (by decide)) (put_asS _ ⟨#[112, 101, 103, 115]⟩ (.agg #[.int .i64 0, .int .i64 2, .nilFunc, .func (.func 71) #[] #[]]))
  have b10 := b9.grown g10 b9.size (fun k hk => by cases hk; exact Nat.le_refl _)
  obtain ⟨w11, r11, m11, g11⟩ := m10.update K Tryz.underlying111 (Go.WideMaps.keyOf_string_mk Tryz.underlying9 (by decide)) (put_asS _ ⟨#[114, 105, 110, 103]⟩ (.agg #[.int .i64 0, .int .i64 1, .nilFunc, .func (.func 72) #[] #[]]))
  have b11 := b10.grown g11 b10.size (fun k hk => by cases hk; exact Nat.le_refl _)
  obtain ⟨w12, r12, m12, g12⟩ := m11.update K Tryz.underlying111 (Go.WideMaps.keyOf_string_mk Tryz.underlying9 (by decide)) (put_asS _ ⟨#[116, 97, 108, 107]⟩ (.agg #[.int .i64 0, .int .i64 1, .nilFunc, .func (.func 73) #[] #[]]))
  have b12 := b11.grown g12 b11.size (fun k hk => by cases hk; exact Nat.le_refl _)
  obtain ⟨w13, r13, m13, g13⟩ := m12.update K Tryz.underlying111 (Go.WideMaps.keyOf_string_mk Tryz.underlying9 (by decide)) (put_asS _ ⟨#[108, 101, 97, 114, 110]⟩ (.agg #[.int .i64 0, .int .i64 1, .nilFunc, .func (.func 74) #[] #[]]))
  have b13 := b12.grown g13 b12.size (fun k hk => by cases hk; exact Nat.le_refl _)
  obtain ⟨w14, r14, m14, g14⟩ := m13.update K Tryz.underlying111 (Go.WideMaps.keyOf_string_mk Tryz.underlying9 (by decide)) (put_asS _ ⟨#[101, 118, 97, 100, 101]⟩ (.agg #[.int .i64 0, .int .i64 1, .nilFunc, .func (.func 75) #[] #[]]))
  have b14 := b13.grown g14 b13.size (fun k hk => by cases hk; exact Nat.le_refl _)
  have HM := hid m14
  have HB := hid b14
  clear m0 m1 m2 m3 m4 m5 m6 m7 m8 m9 m10 m11 m12 m13 m14 b0 b1 b2 b3 b4 b5 b6 b7 b8 b9 b10 b11 b12 b13 b14 g1 g2 g3 g4 g5 g6 g7 g8 g9 g10 g11 g12 g13 g14
  go_enter Tryz.func48, Tryz.ntmps48
  go_wp2
  go_ret
  exact ⟨w.heap.size, rfl, HM.out, Nat.le_refl _, HB.out⟩

end Go.Proofs.YtkjinamjdjijcaaGreatDoor
