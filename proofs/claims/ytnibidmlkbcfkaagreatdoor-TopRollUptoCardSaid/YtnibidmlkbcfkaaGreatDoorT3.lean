/- Texts of this proof, one behind the other; each says its condition at its head. -/
import Derived.Test.YtnibidmlkbcfkaaGreatDoorT2
import Derived.StringKeys
import Derived.BigRegion
import Derived.Deep.CutRange
import Derived.Deep.RegionHeld3
namespace Go.Proofs.YtnibidmlkbcfkaaGreatDoor
/- Walks of the rules of changes and of questions: maps by words. No condition. -/
section
open Go.RowKit Go.Maps
/-- What a list tells of words. -/
def asS (l : List (List UInt8 × Value)) : Value → Option Value
 | .string s => l.lookup s.data.toList
 | _ => none
theorem asS_nil (x : Value) : asS [] x = none := by
 unfold asS
 split <;> rfl
theorem put_asS (l : List (List UInt8 × Value)) (k : ByteArray) (v : Value) : putX (asS l) (.string k) v (asS ((k.data.toList, v) :: l)) := by
 refine ⟨by simp [asS], fun x hx => ?_⟩
 cases x with
 | string s =>
  have hne : ¬ s.data.toList = k.data.toList := fun e => hx (by
   have h1 : s.data = k.data := Array.toList_inj.1 e
   cases s; cases k; simp_all)
  have hb : (s.data.toList == k.data.toList) = false := by rw [beq_eq_false_iff_ne]; exact hne
  simp [asS, List.lookup, hb]
 | _ => rfl
/-- The rules. -/
def changesL : List (List UInt8 × Value) := [([98, 101, 116], .agg #[.int .i64 0, .int .i64 2, .func (.func 126) #[] #[], .nilFunc]), ([112, 97, 110], .agg #[.int .i64 0, .int .i64 4, .func (.func 125) #[] #[], .nilFunc]), ([98, 97, 116, 99, 104], .agg #[.int .i64 0, .int .i64 4, .func (.func 124) #[] #[], .nilFunc]), ([98, 101, 97, 116], .agg #[.int .i64 2, .int .i64 0, .func (.func 123) #[] #[], .nilFunc]), ([112, 108, 97, 121, 101, 114], .agg #[.int .i64 1, .int .i64 0, .func (.func 122) #[] #[], .nilFunc]), ([97, 98, 111, 118, 101], .agg #[.int .i64 2, .int .i64 0, .func (.func 121) #[] #[], .nilFunc]), ([109, 101, 100, 97, 108], .agg #[.int .i64 1, .int .i64 0, .func (.func 120) #[] #[], .nilFunc])]
set_option maxRecDepth 100000 in
set_option maxHeartbeats 4000000 in
theorem changesF (w : World) :
 Calls Tryz.prog 82 #[] w fun x w' => ∃ b, x = .returned (.map (some b)) ∧ MapX Tryz.prog 9 w' b (asS changesL) ∧ w.heap.size ≤ b ∧ Below w.heap.size w w' := by
 have hmm := @run_makeMap Tryz.prog
 have K : Keyed Tryz.prog 9 := string_keyed Tryz.underlying9
 have m0 : MapX Tryz.prog 9 (w.alloc (.map #[] 0)) w.heap.size (asS []) := (MapX.made w).congr fun x => (asS_nil x).symm
 have b0 : Below w.heap.size w (w.alloc (.map #[] 0)) := (Below.refl _ w).alloc (Nat.le_refl _) _
 obtain ⟨w1, r1, m1, g1⟩ := m0.update K Tryz.underlying127 (Go.WideMaps.keyOf_string_mk Tryz.underlying9 (by decide)) (put_asS _ ⟨#[109, 101, 100, 97, 108]⟩ (.agg #[.int .i64 1, .int .i64 0, .func (.func 120) #[] #[], .nilFunc]))
 have b1 := b0.grown g1 b0.size (fun k hk => by cases hk; exact Nat.le_refl _)
 obtain ⟨w2, r2, m2, g2⟩ := m1.update K Tryz.underlying127 (Go.WideMaps.keyOf_string_mk Tryz.underlying9 (by decide)) (put_asS _ ⟨#[97, 98, 111, 118, 101]⟩ (.agg #[.int .i64 2, .int .i64 0, .func (.func 121) #[] #[], .nilFunc]))
 have b2 := b1.grown g2 b1.size (fun k hk => by cases hk; exact Nat.le_refl _)
 obtain ⟨w3, r3, m3, g3⟩ := m2.update K Tryz.underlying127 (Go.WideMaps.keyOf_string_mk Tryz.underlying9 (by decide)) (put_asS _ ⟨#[112, 108, 97, 121, 101, 114]⟩ (.agg #[.int .i64 1, .int .i64 0, .func (.func 122) #[] #[], .nilFunc]))
 have b3 := b2.grown g3 b2.size (fun k hk => by cases hk; exact Nat.le_refl _)
 obtain ⟨w4, r4, m4, g4⟩ := m3.update K Tryz.underlying127 (Go.WideMaps.keyOf_string_mk Tryz.underlying9 (by decide)) (put_asS _ ⟨#[98, 101, 97, 116]⟩ (.agg #[.int .i64 2, .int .i64 0, .func (.func 123) #[] #[], .nilFunc]))
 have b4 := b3.grown g4 b3.size (fun k hk => by cases hk; exact Nat.le_refl _)
 obtain ⟨w5, r5, m5, g5⟩ := m4.update K Tryz.underlying127 (Go.WideMaps.keyOf_string_mk Tryz.underlying9 (by decide)) (put_asS _ ⟨#[98, 97, 116, 99, 104]⟩ (.agg #[.int .i64 0, .int .i64 4, .func (.func 124) #[] #[], .nilFunc]))
 have b5 := b4.grown g5 b4.size (fun k hk => by cases hk; exact Nat.le_refl _)
 obtain ⟨w6, r6, m6, g6⟩ := m5.update K Tryz.underlying127 (Go.WideMaps.keyOf_string_mk Tryz.underlying9 (by decide)) (put_asS _ ⟨#[112, 97, 110]⟩ (.agg #[.int .i64 0, .int .i64 4, .func (.func 125) #[] #[], .nilFunc]))
 have b6 := b5.grown g6 b5.size (fun k hk => by cases hk; exact Nat.le_refl _)
 obtain ⟨w7, r7, m7, g7⟩ := m6.update K Tryz.underlying127 (Go.WideMaps.keyOf_string_mk Tryz.underlying9 (by decide)) (put_asS _ ⟨#[98, 101, 116]⟩ (.agg #[.int .i64 0, .int .i64 2, .func (.func 126) #[] #[], .nilFunc]))
 have b7 := b6.grown g7 b6.size (fun k hk => by cases hk; exact Nat.le_refl _)
 have HM := hid m7
 have HB := hid b7
 clear m0 m1 m2 m3 m4 m5 m6 m7 b0 b1 b2 b3 b4 b5 b6 b7 g1 g2 g3 g4 g5 g6 g7
 go_enter Tryz.func82, Tryz.ntmps82
 go_wp2
 go_ret
 exact ⟨w.heap.size, rfl, HM.out, Nat.le_refl _, HB.out⟩
/-- The rules. -/
def questionsL : List (List UInt8 × Value) := [([101, 118, 97, 100, 101], .agg #[.int .i64 0, .int .i64 1, .nilFunc, .func (.func 108) #[] #[]]), ([108, 101, 97, 114, 110], .agg #[.int .i64 0, .int .i64 1, .nilFunc, .func (.func 107) #[] #[]]), ([116, 97, 108, 107], .agg #[.int .i64 0, .int .i64 1, .nilFunc, .func (.func 106) #[] #[]]), ([114, 105, 110, 103], .agg #[.int .i64 0, .int .i64 1, .nilFunc, .func (.func 105) #[] #[]]), ([112, 101, 103, 115], .agg #[.int .i64 0, .int .i64 2, .nilFunc, .func (.func 104) #[] #[]]), ([108, 105, 97, 114], .agg #[.int .i64 0, .int .i64 2, .nilFunc, .func (.func 103) #[] #[]]), ([112, 114, 105, 99, 101], .agg #[.int .i64 0, .int .i64 1, .nilFunc, .func (.func 102) #[] #[]]), ([98, 111, 117, 110, 100], .agg #[.int .i64 0, .int .i64 0, .nilFunc, .func (.func 101) #[] #[]]), ([110, 101, 101, 100], .agg #[.int .i64 0, .int .i64 0, .nilFunc, .func (.func 100) #[] #[]]), ([107, 105, 110, 103, 115], .agg #[.int .i64 0, .int .i64 0, .nilFunc, .func (.func 99) #[] #[]]), ([111, 114, 100, 101, 114], .agg #[.int .i64 0, .int .i64 0, .nilFunc, .func (.func 98) #[] #[]]), ([99, 104, 97, 110, 99, 101], .agg #[.int .i64 2, .int .i64 0, .nilFunc, .func (.func 97) #[] #[]]), ([119, 97, 121, 115], .agg #[.int .i64 0, .int .i64 0, .nilFunc, .func (.func 96) #[] #[]]), ([114, 111, 108, 108], .agg #[.int .i64 0, .int .i64 0, .nilFunc, .func (.func 95) #[] #[]])]
set_option maxRecDepth 100000 in
set_option maxHeartbeats 4000000 in
theorem questionsF (w : World) :
 Calls Tryz.prog 69 #[] w fun x w' => ∃ b, x = .returned (.map (some b)) ∧ MapX Tryz.prog 9 w' b (asS questionsL) ∧ w.heap.size ≤ b ∧ Below w.heap.size w w' := by
 have hmm := @run_makeMap Tryz.prog
 have K : Keyed Tryz.prog 9 := string_keyed Tryz.underlying9
 have m0 : MapX Tryz.prog 9 (w.alloc (.map #[] 0)) w.heap.size (asS []) := (MapX.made w).congr fun x => (asS_nil x).symm
 have b0 : Below w.heap.size w (w.alloc (.map #[] 0)) := (Below.refl _ w).alloc (Nat.le_refl _) _
 obtain ⟨w1, r1, m1, g1⟩ := m0.update K Tryz.underlying127 (Go.WideMaps.keyOf_string_mk Tryz.underlying9 (by decide)) (put_asS _ ⟨#[114, 111, 108, 108]⟩ (.agg #[.int .i64 0, .int .i64 0, .nilFunc, .func (.func 95) #[] #[]]))
 have b1 := b0.grown g1 b0.size (fun k hk => by cases hk; exact Nat.le_refl _)
 obtain ⟨w2, r2, m2, g2⟩ := m1.update K Tryz.underlying127 (Go.WideMaps.keyOf_string_mk Tryz.underlying9 (by decide)) (put_asS _ ⟨#[119, 97, 121, 115]⟩ (.agg #[.int .i64 0, .int .i64 0, .nilFunc, .func (.func 96) #[] #[]]))
 have b2 := b1.grown g2 b1.size (fun k hk => by cases hk; exact Nat.le_refl _)
 obtain ⟨w3, r3, m3, g3⟩ := m2.update K Tryz.underlying127 (Go.WideMaps.keyOf_string_mk Tryz.underlying9 (by decide)) (put_asS _ ⟨#[99, 104, 97, 110, 99, 101]⟩ (.agg #[.int .i64 2, .int .i64 0, .nilFunc, .func (.func 97) #[] #[]]))
 have b3 := b2.grown g3 b2.size (fun k hk => by cases hk; exact Nat.le_refl _)
 obtain ⟨w4, r4, m4, g4⟩ := m3.update K Tryz.underlying127 (Go.WideMaps.keyOf_string_mk Tryz.underlying9 (by decide)) (put_asS _ ⟨#[111, 114, 100, 101, 114]⟩ (.agg #[.int .i64 0, .int .i64 0, .nilFunc, .func (.func 98) #[] #[]]))
 have b4 := b3.grown g4 b3.size (fun k hk => by cases hk; exact Nat.le_refl _)
 obtain ⟨w5, r5, m5, g5⟩ := m4.update K Tryz.underlying127 (Go.WideMaps.keyOf_string_mk Tryz.underlying9 (by decide)) (put_asS _ ⟨#[107, 105, 110, 103, 115]⟩ (.agg #[.int .i64 0, .int .i64 0, .nilFunc, .func (.func 99) #[] #[]]))
 have b5 := b4.grown g5 b4.size (fun k hk => by cases hk; exact Nat.le_refl _)
 obtain ⟨w6, r6, m6, g6⟩ := m5.update K Tryz.underlying127 (Go.WideMaps.keyOf_string_mk Tryz.underlying9 (by decide)) (put_asS _ ⟨#[110, 101, 101, 100]⟩ (.agg #[.int .i64 0, .int .i64 0, .nilFunc, .func (.func 100) #[] #[]]))
 have b6 := b5.grown g6 b5.size (fun k hk => by cases hk; exact Nat.le_refl _)
 obtain ⟨w7, r7, m7, g7⟩ := m6.update K Tryz.underlying127 (Go.WideMaps.keyOf_string_mk Tryz.underlying9 (by decide)) (put_asS _ ⟨#[98, 111, 117, 110, 100]⟩ (.agg #[.int .i64 0, .int .i64 0, .nilFunc, .func (.func 101) #[] #[]]))
 have b7 := b6.grown g7 b6.size (fun k hk => by cases hk; exact Nat.le_refl _)
 obtain ⟨w8, r8, m8, g8⟩ := m7.update K Tryz.underlying127 (Go.WideMaps.keyOf_string_mk Tryz.underlying9 (by decide)) (put_asS _ ⟨#[112, 114, 105, 99, 101]⟩ (.agg #[.int .i64 0, .int .i64 1, .nilFunc, .func (.func 102) #[] #[]]))
 have b8 := b7.grown g8 b7.size (fun k hk => by cases hk; exact Nat.le_refl _)
 obtain ⟨w9, r9, m9, g9⟩ := m8.update K Tryz.underlying127 (Go.WideMaps.keyOf_string_mk Tryz.underlying9 (by decide)) (put_asS _ ⟨#[108, 105, 97, 114]⟩ (.agg #[.int .i64 0, .int .i64 2, .nilFunc, .func (.func 103) #[] #[]]))
 have b9 := b8.grown g9 b8.size (fun k hk => by cases hk; exact Nat.le_refl _)
 obtain ⟨w10, r10, m10, g10⟩ := m9.update K Tryz.underlying127 (Go.WideMaps.keyOf_string_mk Tryz.underlying9 (by decide)) (put_asS _ ⟨#[112, 101, 103, 115]⟩ (.agg #[.int .i64 0, .int .i64 2, .nilFunc, .func (.func 104) #[] #[]]))
 have b10 := b9.grown g10 b9.size (fun k hk => by cases hk; exact Nat.le_refl _)
 obtain ⟨w11, r11, m11, g11⟩ := m10.update K Tryz.underlying127 (Go.WideMaps.keyOf_string_mk Tryz.underlying9 (by decide)) (put_asS _ ⟨#[114, 105, 110, 103]⟩ (.agg #[.int .i64 0, .int .i64 1, .nilFunc, .func (.func 105) #[] #[]]))
 have b11 := b10.grown g11 b10.size (fun k hk => by cases hk; exact Nat.le_refl _)
 obtain ⟨w12, r12, m12, g12⟩ := m11.update K Tryz.underlying127 (Go.WideMaps.keyOf_string_mk Tryz.underlying9 (by decide)) (put_asS _ ⟨#[116, 97, 108, 107]⟩ (.agg #[.int .i64 0, .int .i64 1, .nilFunc, .func (.func 106) #[] #[]]))
 have b12 := b11.grown g12 b11.size (fun k hk => by cases hk; exact Nat.le_refl _)
 obtain ⟨w13, r13, m13, g13⟩ := m12.update K Tryz.underlying127 (Go.WideMaps.keyOf_string_mk Tryz.underlying9 (by decide)) (put_asS _ ⟨#[108, 101, 97, 114, 110]⟩ (.agg #[.int .i64 0, .int .i64 1, .nilFunc, .func (.func 107) #[] #[]]))
 have b13 := b12.grown g13 b12.size (fun k hk => by cases hk; exact Nat.le_refl _)
 obtain ⟨w14, r14, m14, g14⟩ := m13.update K Tryz.underlying127 (Go.WideMaps.keyOf_string_mk Tryz.underlying9 (by decide)) (put_asS _ ⟨#[101, 118, 97, 100, 101]⟩ (.agg #[.int .i64 0, .int .i64 1, .nilFunc, .func (.func 108) #[] #[]]))
 have b14 := b13.grown g14 b13.size (fun k hk => by cases hk; exact Nat.le_refl _)
 have HM := hid m14
 have HB := hid b14
 clear m0 m1 m2 m3 m4 m5 m6 m7 m8 m9 m10 m11 m12 m13 m14 b0 b1 b2 b3 b4 b5 b6 b7 b8 b9 b10 b11 b12 b13 b14 g1 g2 g3 g4 g5 g6 g7 g8 g9 g10 g11 g12 g13 g14
 go_enter Tryz.func69, Tryz.ntmps69
 go_wp2
 go_ret
 exact ⟨w.heap.size, rfl, HM.out, Nat.le_refl _, HB.out⟩
end
/- Walk of named: a word and the names with some indices. Condition: the indices are in the list. -/
section
open Go.RowKit Go.Maps
def strV (l : List ByteArray) : List Value := l.map Value.string
/-- A word and names behind it, each behind a blank. -/
def nmd (word : ByteArray) (names : List ByteArray) (l : List Nat) : ByteArray := l.foldl (fun o i => o ++ (⟨#[32]⟩ ++ names.getD i ByteArray.empty)) word
theorem nmd_snoc (word : ByteArray) (names : List ByteArray) (l : List Nat) (i : Nat) : nmd word names (l ++ [i]) = nmd word names l ++ (⟨#[32]⟩ ++ names.getD i ByteArray.empty) := by simp [nmd, List.foldl_append]
set_option maxRecDepth 100000 in
set_option maxHeartbeats 2000000 in
theorem namedF (word : ByteArray) (A : Option Addr) (n c : Nat) (names : List ByteArray) (A2 : Option Addr) (m d : Nat) (l : List Nat) (w : World) (hs : Sl w A n c (strV names)) (ht : Sl w A2 m d (l.map fun i : Nat => Value.int .i64 i)) (hl : ∀ i ∈ l, i < n) (hw : word.size ≤ 1000) (hz : ∀ s ∈ names, s.size ≤ 100) (hm2 : m ≤ 1000) :
 Calls Tryz.prog 137 #[.string word, .slice A n c, .slice A2 m d] w fun x w' => x = .returned (.string (nmd word names l)) ∧ w = w' := by
 have HS := hid hs
 have HT := hid ht
 have HLL := hid (show l.length = m by have := ht.len; simpa using this)
 have HI := hid hl
 have HZ := hid hz
 have HW := hid hw
 have hm : m ≤ 9223372036854775807 := by have := ht.cap; have := ht.capm; unfold maxLen at this; omega
 have hn : n ≤ 9223372036854775807 := by have := hs.cap; have := hs.capm; unfold maxLen at this; omega
 clear hs ht hl hz hw
 go_enter Tryz.func137, Tryz.ntmps137
 go_wp2
 go_loopg [0, 11] m (fun gk v i wr => ∃ k : Nat, gk + k = m ∧ i = .int .i64 k ∧ v = .string (nmd word names (l.take k)) ∧ (nmd word names (l.take k)).size ≤ 1000 + 101 * k ∧ w = wr)
 case atStart => exact ⟨0, by omega, rfl, rfl, HW.out, rfl⟩
 case round =>
  obtain ⟨k, hk, rfl, rfl, hsz, hw⟩ := hrel
  subst hw
  have HK := hid hk
  by_cases hlt : k < m
  · have HLT := hid hlt
    obtain ⟨b, o, u, rfl, lb, e1, ca⟩ := HT.out.at hlt
    rw [List.getElem?_map] at e1
    obtain ⟨i, hi, rfl⟩ := Option.map_eq_some_iff.1 e1
    have hin := HI.out i (List.mem_of_getElem? hi)
    obtain ⟨b2, o2, u2, rfl, lb2, e2, ca2⟩ := HS.out.at hin
    unfold strV at e2
    rw [List.getElem?_map] at e2
    obtain ⟨s, hs, rfl⟩ := Option.map_eq_some_iff.1 e2
    have HST := hid (show nmd word names (l.take (k + 1)) = nmd word names (l.take k) ++ (⟨#[32]⟩ ++ s) by
     rw [List.take_add_one, hi, Option.toList_some, nmd_snoc, List.getD, hs]; rfl)
    have hz := HZ.out s (List.mem_of_getElem? hs)
    generalize nmd word names (l.take k) = v at *
    have h1s : (⟨#[32]⟩ ++ s : ByteArray).size = 1 + s.size := by rw [ByteArray.size_append]; rfl
    have cat1 : ∀ W : World, (Op.stringOp .add ⟨#[32]⟩ s).run Tryz.prog W = .ok (.string (⟨#[32]⟩ ++ s)) W := fun W => run_string_add_sum W _ _ (by have : (ByteArray.mk #[32]).size = 1 := rfl; omega)
    have cat2 : ∀ W : World, (Op.stringOp .add v (⟨#[32]⟩ ++ s)).run Tryz.prog W = .ok (.string (v ++ (⟨#[32]⟩ ++ s))) W := fun W => run_string_add_sum W _ _ (by omega)
    have HSZ := hid (show (v ++ (⟨#[32]⟩ ++ s)).size ≤ 1000 + 101 * (k + 1) by rw [ByteArray.size_append]; omega)
    clear hk e1 hi lb e2 hs lb2
    go_wp2
    go_roundg (gk - 1)
    case measure => have := HK.out; have := HLT.out; omega
    case rel => exact ⟨k + 1, by have := HK.out; have := HLT.out; omega, by go_num, by rw [HST.out], by rw [HST.out]; exact HSZ.out, rfl⟩
  · obtain rfl : k = m := by have := HK.out; omega
    have e : l.take k = l := List.take_of_length_le (by have := HLL.out; omega)
    rw [e]
    clear hk e
    go_wp2
    go_ret
    exact ⟨rfl, rfl⟩
end
/- Walks of slices.Index and Contains on strings. Condition: the slice reads as strings. -/
section
open Go.RowKit Go.Maps
theorem toList_inj {a b : ByteArray} (h : a.toList = b.toList) : a = b := by
 rw [ByteArray.toList_eq, ByteArray.toList_eq] at h
 have h1 : a.data = b.data := Array.toList_inj.1 h
 cases a; cases b; simp_all
set_option maxRecDepth 100000 in
set_option maxHeartbeats 1000000 in
theorem strIdx (A : Option Addr) (n c : Nat) (l : List ByteArray) (b : ByteArray) (w : World) (hs : Sl w A n c (strV l)) :
 Calls Tryz.prog 10 #[.slice A n c, .string b] w fun e w' => (∃ r : Int, e = .returned (.int .i64 r) ∧ (0 ≤ r ↔ b ∈ l)) ∧ w = w' := by
 have hm : n ≤ 9223372036854775807 := by have := hs.cap; have := hs.capm; unfold maxLen at this; omega
 have HS := hid hs
 have HL := hid (show l.length = n by have := hs.len; simpa [strV] using this)
 clear hs
 go_enter Tryz.func10, Tryz.ntmps10
 go_wp2
 go_loopg [8] n (fun gk i wr => ∃ k : Nat, gk + k = n ∧ i = .int .i64 k ∧ Hid (∀ j, j < k → l[j]? ≠ some b) ∧ w = wr)
 case atStart => exact ⟨0, by omega, rfl, hid fun j h => absurd h (by omega), rfl⟩
 case round =>
  obtain ⟨k, hk, rfl, HN, hw⟩ := hrel
  subst hw
  have HK := hid hk
  by_cases hlt : k < n
  · have HLT := hid hlt
    obtain ⟨b1, o, u, rfl, lb1, e1, ca⟩ := HS.out.at hlt
    obtain ⟨y, hy, rfl⟩ := Option.map_eq_some_iff.1 (show (l[k]?).map (fun b => Value.string b) = some u by rw [← List.getElem?_map]; exact e1)
    have HY := hid hy
    clear e1 hy hk lb1
    by_cases hq : b = y
    · subst hq
      have hqe : (b.data.toList == b.data.toList) = true := by simp
      have hqe2 : (b.toList == b.toList) = true := by simp
      go_wp2
      go_ret
      exact ⟨⟨(k : Int), rfl, ⟨fun _ => List.mem_of_getElem? HY.out, fun _ => by omega⟩⟩, rfl⟩
    · have hq2 : ¬ y = b := fun e => hq e.symm
      have HQ := hid hq
      have hqe2 : (b.toList == y.toList) = false := by rw [beq_eq_false_iff_ne]; exact fun e => hq (toList_inj e)
      go_wp2
      go_roundg (gk - 1)
      case measure => have := HK.out; have := HLT.out; omega
      case rel =>
       refine ⟨k + 1, by have := HK.out; have := HLT.out; omega, by go_num, hid fun j hj => ?_, rfl⟩
       by_cases e : j = k
       · subst e
         rw [HY.out]
         exact fun e => HQ.out (Option.some.inj e).symm
       · exact HN.out j (by omega)
  · obtain rfl : k = n := by have := HK.out; omega
    clear hk
    go_wp2
    go_ret
    exact ⟨⟨-1, rfl, ⟨fun h => absurd h (by decide), fun hm => by
     obtain ⟨i, hi⟩ := List.getElem?_of_mem hm
     have := (List.getElem?_eq_some_iff.1 hi).1
     exact absurd hi (HN.out i (by have := HL.out; omega))⟩⟩, rfl⟩
set_option maxRecDepth 100000 in
theorem strHas (A : Option Addr) (n c : Nat) (l : List ByteArray) (b : ByteArray) (q : Bool) (w : World) (hs : Sl w A n c (strV l)) (hq : q = true ↔ b ∈ l) :
 Calls Tryz.prog 21 #[.slice A n c, .string b] w fun e w' => e = .returned (.bool q) ∧ w = w' := by
 have HI := hid (strIdx A n c l b w hs)
 have HQ := hid hq
 clear hs hq
 go_enter Tryz.func21, Tryz.ntmps21
 go_wp2_with fail
 refine (HI.out).mono ?_; rintro e w1 ⟨⟨r, rfl, hr⟩, rfl⟩
 have hd : decide (0 ≤ r) = q := by rw [Bool.eq_iff_iff, decide_eq_true_iff, HQ.out]; exact hr
 clear hr
 go_wp2
 go_ret
 exact ⟨rfl, rfl⟩
end
/- Walk of enter: a name is added to a list of the call's own. Condition: the list is a row of the call's own. -/
section
open Go.RowKit Go.Maps
end
/- Walks of slices.ContainsFunc on bytes with isLine's closure. Condition: the slice reads as bytes. -/
section
open Go.RowKit Go.Maps
/-- Is a byte none of a line's? -/
def odd8 (b : UInt8) : Bool := decide (b.toNat < 32) || decide (126 < b.toNat)
def u8V (l : List UInt8) : List Value := l.map fun b => .int .u8 (b.toNat : Nat)
set_option maxRecDepth 100000 in
theorem line1 (b : UInt8) (w : World) :
 Calls Tryz.prog 136 #[.int .u8 (b.toNat : Nat)] w fun e w' => e = .returned (.bool (odd8 b)) ∧ w = w' := by
 have hb := b.toNat_lt
 unfold odd8
 by_cases h1 : b.toNat < 32
 · have g1 : decide ((b.toNat : Int) < 32) = true := decide_eq_true (by omega)
   have g2 : decide (b.toNat < 32) = true := decide_eq_true h1
   go_enter Tryz.func136, Tryz.ntmps136
   go_wp2
   go_ret
   exact ⟨by simp; omega, rfl⟩
 · have g1 : decide ((b.toNat : Int) < 32) = false := decide_eq_false (by omega)
   have g2 : decide (b.toNat < 32) = false := decide_eq_false h1
   by_cases h2 : 126 < b.toNat
   · have g3 : decide (126 < (b.toNat : Int)) = true := decide_eq_true (by omega)
     have g4 : decide (126 < b.toNat) = true := decide_eq_true h2
     go_enter Tryz.func136, Tryz.ntmps136
     go_wp2
     go_ret
     exact ⟨by simp; omega, rfl⟩
   · have g3 : decide (126 < (b.toNat : Int)) = false := decide_eq_false (by omega)
     have g4 : decide (126 < b.toNat) = false := decide_eq_false h2
     go_enter Tryz.func136, Tryz.ntmps136
     go_wp2
     go_ret
     exact ⟨by simp; omega, rfl⟩
/-- What the closure says of each of some values. -/
def LineS (w : World) (vs : List Value) (f : Nat → Bool) : Prop := ∀ (i : Nat) v, vs[i]? = some v → Calls Tryz.prog 136 #[v] w fun e w' => e = .returned (.bool (f i)) ∧ w = w'
set_option maxRecDepth 100000 in
set_option maxHeartbeats 1000000 in
theorem byteIdx (A : Option Addr) (n c : Nat) (vs : List Value) (f : Nat → Bool) (lb : Array Value) (w : World) (hlb : lb = #[]) (hs : Sl w A n c vs) (hf : LineS w vs f) :
 Calls Tryz.prog 169 #[.slice A n c, .func (.func 136) #[] lb] w fun e w' => (∃ r : Int, e = .returned (.int .i64 r) ∧ (0 ≤ r ↔ ∃ i, i < n ∧ f i = true)) ∧ w = w' := by
 subst hlb
 have hm : n ≤ 9223372036854775807 := by have := hs.cap; have := hs.capm; unfold maxLen at this; omega
 have he : ∀ args W, (callFunc 136 args).run Tryz.prog W = .ok (.enter 136 args) W := fun args W => enters Tryz.func136 (by kernel_rfl) rfl args W
 have HF := hid hf
 have HS := hid hs
 clear hs hf
 go_enter Tryz.func169, Tryz.ntmps169
 go_wp2
 go_loopg [8] n (fun gk i wr => ∃ k : Nat, gk + k = n ∧ i = .int .i64 k ∧ Hid (∀ j, j < k → f j = false) ∧ w = wr)
 case atStart => exact ⟨0, by omega, rfl, hid fun j h => absurd h (by omega), rfl⟩
 case round =>
  obtain ⟨k, hk, rfl, HN, hw⟩ := hrel
  subst hw
  have HK := hid hk
  by_cases hlt : k < n
  · have HLT := hid hlt
    obtain ⟨b, o, u, rfl, lb1, e1, ca⟩ := HS.out.at hlt
    have hc := HF.out k u e1
    have HC := hid hc
    clear e1 hc hk lb1
    cases hfx : f k
    · rw [hfx] at HC
      have HX := hid hfx
      clear hfx
      go_wp2_with (refine (HC.out).mono ?_; rintro e w1 ⟨rfl, rfl⟩)
      go_roundg (gk - 1)
      case measure => have := HK.out; have := HLT.out; omega
      case rel =>
       refine ⟨k + 1, by have := HK.out; have := HLT.out; omega, by go_num, hid fun j hj => ?_, rfl⟩
       by_cases e : j = k
       · subst e; exact HX.out
       · exact HN.out j (by omega)
    · rw [hfx] at HC
      have HX := hid hfx
      clear hfx
      go_wp2_with (refine (HC.out).mono ?_; rintro e w1 ⟨rfl, rfl⟩)
      go_ret
      exact ⟨⟨(k : Int), rfl, ⟨fun _ => ⟨k, HLT.out, HX.out⟩, fun _ => by omega⟩⟩, rfl⟩
  · obtain rfl : k = n := by have := HK.out; omega
    clear hk
    go_wp2
    go_ret
    exact ⟨⟨-1, rfl, ⟨fun h => absurd h (by decide), fun ⟨i, hi, hfi⟩ => by rw [HN.out i hi] at hfi; cases hfi⟩⟩, rfl⟩
set_option maxRecDepth 100000 in
theorem byteAny (A : Option Addr) (n c : Nat) (vs : List Value) (f : Nat → Bool) (b : Bool) (w : World) (hs : Sl w A n c vs) (hf : LineS w vs f) (hb : b = true ↔ ∃ i, i < n ∧ f i = true) :
 Calls Tryz.prog 135 #[.slice A n c, .func (.func 136) #[] #[]] w fun e w' => e = .returned (.bool b) ∧ w = w' := by
 have HI := hid (byteIdx A n c vs f #[] w rfl hs hf)
 have HB := hid hb
 clear hs hf hb
 go_enter Tryz.func135, Tryz.ntmps135
 go_wp2_with fail
 refine (HI.out).mono ?_; rintro e w1 ⟨⟨r, rfl, hr⟩, rfl⟩
 have hd : decide (0 ≤ r) = b := by rw [Bool.eq_iff_iff, decide_eq_true_iff, HB.out]; exact hr
 clear hr
 go_wp2
 go_ret
 exact ⟨rfl, rfl⟩
end
/- Walks of none, Out and Journal at a mint that Open made. Condition: the journal reads as strings. -/
section
open Go.RowKit Go.Maps
theorem strV_one (l : List ByteArray) : ∀ u ∈ strV l, u.oneCell' = true := by
 intro u hu
 obtain ⟨b, _, rfl⟩ := List.mem_map.1 hu
 rfl
/-- A mint: its copies, mark, state, journal, and whether it is out. -/
abbrev MintB (w : World) (m : Nat) (a : Value) (k : Int) (sb : Nat) (d : Value) (out : Bool) : Prop := Blk w m 74 #[a, .int .i64 k, .pointer (some ⟨sb, 0, none⟩), d, .bool out]
set_option maxRecDepth 100000 in
theorem mintNone (m : Nat) (a : Value) (k : Int) (sb : Nat) (d : Value) (out : Bool) (w : World) (h : MintB w m a k sb d out) :
 Calls Tryz.prog 33 #[.pointer (some ⟨m, 0, none⟩)] w fun x w' => x = .returned (.bool false) ∧ w = w' := by
 have c2 := h.cell 2
 simp only [List.getElem?_toArray, List.getElem?_cons_zero, List.getElem?_cons_succ] at c2
 clear h
 go_enter Tryz.func33, Tryz.ntmps33
 go_wp2
 go_ret
 exact ⟨rfl, rfl⟩
set_option maxRecDepth 100000 in
theorem mintJournal (m : Nat) (a : Value) (k : Int) (sb : Nat) (A : Option Addr) (n c : Nat) (l : List ByteArray) (out : Bool) (w : World) (hn : n ≤ 1000000) (h : MintB w m a k sb (.slice A n c) out) (hs : Sl w A n c (strV l)) :
 Calls Tryz.prog 8 #[.pointer (some ⟨m, 0, none⟩)] w fun x w' => ∃ A' c', x = .returned (.slice A' n c') ∧ w'.ownsRow w.heap.size 9 1 (.slice A' n c') n (strV l) ∧ Below w.heap.size w w' := by
 have HN := hid (mintNone m a k sb _ out w h)
 have HC := hid (cloneS A n c _ (strV_one l) hn w hs)
 have c3 := h.cell 3
 simp only [List.getElem?_toArray, List.getElem?_cons_zero, List.getElem?_cons_succ] at c3
 clear h hs
 go_enter Tryz.func8, Tryz.ntmps8
 go_wp2_with fail
 refine (HN.out).mono ?_; rintro x w' ⟨rfl, rfl⟩
 go_wp2_with fail
 refine (HC.out).mono ?_; rintro x w1 ⟨A', c', rfl, ho, hb⟩
 have HO := hid ho
 have HB := hid hb
 clear ho hb
 go_wp2
 go_ret
 exact ⟨A', c', rfl, HO.out, HB.out⟩
end
/- Walk of isName: small letters, one to eight of them. No condition. -/
section
open Go.RowKit Go.Maps
/-- Is a byte no small letter? -/
def notLow (b : UInt8) : Bool := decide (b.toNat < 97) || decide (122 < b.toNat)
/- The rune that stands at a place is a small letter just where the byte is one; then it is one byte wide. -/
theorem below_iter (w : World) (s : ByteArray) (pos : Nat) : Below w.heap.size w (w.iter s pos) := (Below.refl _ w).alloc (Nat.le_refl _) _
theorem low_rune (s : ByteArray) (pos : Nat) (h : pos < s.size) : (notLow (s[pos]'h) = true ∧ ((Utf8.decode s pos).1 < 97 ∨ 122 < (Utf8.decode s pos).1)) ∨ (notLow (s[pos]'h) = false ∧ (Utf8.decode s pos) = ((s[pos]'h).toNat, 1) ∧ 97 ≤ (s[pos]'h).toNat ∧ (s[pos]'h).toNat ≤ 122) := by
 unfold notLow
 by_cases ha : (s[pos]'h).toNat < 128
 · rw [decode_ascii s pos h ha]
   by_cases h1 : (s[pos]'h).toNat < 97
   · exact .inl ⟨by simp [h1], .inl (by simp; omega)⟩
   · by_cases h2 : 122 < (s[pos]'h).toNat
     · exact .inl ⟨by simp [h2], .inr (by simp; omega)⟩
     · exact .inr ⟨by simp [h1, h2], rfl, by omega, by omega⟩
 · have := (decode_high s pos h (by omega)).1
   exact .inl ⟨by simp; omega, .inr (by omega)⟩
set_option maxRecDepth 100000 in
set_option maxHeartbeats 1000000 in
theorem nameF (s : ByteArray) (q : Bool) (w : World) (hq : q = true ↔ ((∀ i (h : i < s.size), notLow (s[i]'h) = false) ∧ 0 < s.size ∧ s.size ≤ 8)) (hsz : s.size ≤ 1000000000) :
 Calls Tryz.prog 134 #[.string s] w fun e w' => e = .returned (.bool q) ∧ Below w.heap.size w w' := by
 have HQ := hid hq
 clear hq
 go_enter Tryz.func134, Tryz.ntmps134
 go_wp2
 go_loopg [4] s.size (fun gk r wr => ∃ pos : Nat, gk + pos = s.size ∧ wr = w.iter s pos ∧ Hid (∀ i (h : i < s.size), i < pos → notLow (s[i]'h) = false))
 case atStart => exact ⟨0, by omega, rfl, hid fun i _ h => absurd h (by omega)⟩
 case round =>
  obtain ⟨pos, hp, hw, HN⟩ := hrel
  subst hw
  have HP := hid hp
  by_cases hlt : pos < s.size
  · have HLT := hid hlt
    have hnx : ∀ ty, (Instr.next (.pointer (some ⟨w.heap.size, 0, none⟩)) true ty).run Tryz.prog (w.iter s pos) = _ := fun ty => run_next_any w s pos ty hlt
    have HLR := hid (low_rune s pos hlt)
    have hd2 : 1 ≤ (Utf8.decode s pos).2 ∧ True := ⟨by
     by_cases ha : (s[pos]'hlt).toNat < 128
     · rw [decode_ascii s pos hlt ha]; exact Nat.le_refl _
     · exact (decode_high s pos hlt (by omega)).2, trivial⟩
    rcases HLR.out with ⟨hn, hr | hr⟩ | ⟨hn, hr, hr1, hr2⟩
    · have hq : q = false := by
       cases q
       · rfl
       · have := (HQ.out.1 rfl).1 pos hlt; rw [hn] at this; cases this
      subst hq
      clear hn hd2 hp HLR
      generalize Utf8.decode s pos = d at *
      have g1 : decide ((d.1 : Int) < 97) = true := decide_eq_true (by omega)
      go_wp2
      go_ret
      exact ⟨rfl, below_iter _ _ _⟩
    · have hq : q = false := by
       cases q
       · rfl
       · have := (HQ.out.1 rfl).1 pos hlt; rw [hn] at this; cases this
      subst hq
      clear hn hd2 hp HLR
      generalize Utf8.decode s pos = d at *
      have g1 : decide ((d.1 : Int) < 97) = false := decide_eq_false (by omega)
      have g2 : decide ((122 : Int) < d.1) = true := decide_eq_true (by omega)
      have g3 : decide (122 < d.1) = true := decide_eq_true (by omega)
      go_wp2
      go_ret
      exact ⟨rfl, below_iter _ _ _⟩
    · have HN2 := hid (show ∀ i (h : i < s.size), i < pos + 1 → notLow (s[i]'h) = false from fun i h hi => by
       by_cases e : i = pos
       · subst e; exact hn
       · exact HN.out i h (by omega))
      rw [hr] at hnx
      have HR := hid hr
      clear hn hd2 hp HLR hr HN
      generalize (s[pos]'hlt).toNat = b at *
      have g1 : decide ((b : Int) < 97) = false := decide_eq_false (by omega)
      have g2 : decide ((122 : Int) < b) = false := decide_eq_false (by omega)
      have g3 : decide (122 < b) = false := decide_eq_false (by omega)
      have g4 : decide (b < 97) = false := decide_eq_false (by omega)
      go_wp2
      go_roundg (gk - 1)
      case measure => have := HP.out; have := HLT.out; omega
      case rel => exact ⟨pos + 1, by have := HP.out; have := HLT.out; omega, rfl, HN2⟩
  · have hnx : ∀ ty, (Instr.next (.pointer (some ⟨w.heap.size, 0, none⟩)) true ty).run Tryz.prog (w.iter s pos) = _ := fun ty => run_next_end w s pos ty hlt
    have HA := hid (show ∀ i (h : i < s.size), notLow (s[i]'h) = false from fun i h => HN.out i h (by omega))
    have hqe : q = (decide (0 < s.size) && decide (s.size ≤ 8)) := by
     rw [Bool.eq_iff_iff, HQ.out, Bool.and_eq_true, decide_eq_true_iff, decide_eq_true_iff]
     exact ⟨fun h => h.2, fun h => ⟨HA.out, h.1, h.2⟩⟩
    have hsl : s.toList.length = s.size := by rw [ByteArray.toList_eq]; simp
    by_cases h0 : s.size = 0
    · have hnil : s.toList = [] := List.eq_nil_of_length_eq_zero (by omega)
      have hq : q = false := by rw [hqe]; simp [h0]
      subst hq
      clear hqe hp
      go_wp2
      go_ret
      exact ⟨rfl, below_iter _ _ _⟩
    · have hne : ¬ s.toList = [] := fun e => by rw [e] at hsl; simp at hsl; omega
      by_cases h8 : s.size ≤ 8
      · have hq : q = true := by rw [hqe]; simp; omega
        subst hq
        have g5 : decide ((s.size : Int) ≤ 8) = true := decide_eq_true (by omega)
        clear hqe hp
        have he : s.toList.isEmpty = false := by cases hl : s.toList with | nil => exact absurd hl hne | cons _ _ => rfl
        go_wp2
        go_ret
        exact ⟨rfl, below_iter _ _ _⟩
      · have hq : q = false := by rw [hqe]; simp; omega
        subst hq
        have g5 : decide ((s.size : Int) ≤ 8) = false := decide_eq_false (by omega)
        clear hqe hp
        go_wp2
        go_ret
        exact ⟨rfl, below_iter _ _ _⟩
end
/- Walk of clone at the first state: all of its slices are nil. No condition. -/
section
open Go.RowKit Go.Maps
end
end Go.Proofs.YtnibidmlkbcfkaaGreatDoor
