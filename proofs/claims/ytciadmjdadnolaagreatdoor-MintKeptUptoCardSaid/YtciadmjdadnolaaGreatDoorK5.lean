/- Texts of this proof, one behind the other; each says its condition at its head. -/
import Derived.Test.YtciadmjdadnolaaGreatDoorK4
import Derived.BigRegion
import Derived.Deep.CutRange
import Derived.Deep.RegionHeld3
/- Walk of named: a word and the names with some indices. Condition: the indices are in the list. -/
namespace Go.Proofs.YtciadmjdadnolaaGreatDoor
open Go.RowKit Go.Maps
def strV (l : List ByteArray) : List Value := l.map Value.string
/-- A word and names behind it, each behind a blank. -/
def nmd (word : ByteArray) (names : List ByteArray) (l : List Nat) : ByteArray := l.foldl (fun o i => o ++ (⟨#[32]⟩ ++ names.getD i ByteArray.empty)) word
theorem nmd_snoc (word : ByteArray) (names : List ByteArray) (l : List Nat) (i : Nat) : nmd word names (l ++ [i]) = nmd word names l ++ (⟨#[32]⟩ ++ names.getD i ByteArray.empty) := by simp [nmd, List.foldl_append]
set_option maxRecDepth 100000 in
set_option maxHeartbeats 2000000 in
theorem namedF (word : ByteArray) (A : Option Addr) (n c : Nat) (names : List ByteArray) (A2 : Option Addr) (m d : Nat) (l : List Nat) (w : World) (hs : Sl w A n c (strV names)) (ht : Sl w A2 m d (l.map fun i : Nat => Value.int .i64 i)) (hl : ∀ i ∈ l, i < n) (hw : word.size ≤ 1000) (hz : ∀ s ∈ names, s.size ≤ 100) (hm2 : m ≤ 1000) :
 Calls Tryz.prog 109 #[.string word, .slice A n c, .slice A2 m d] w fun x w' => x = .returned (.string (nmd word names l)) ∧ w = w' := by
 have HS := hid hs
 have HT := hid ht
 have HLL := hid (show l.length = m by have := ht.len; simpa using this)
 have HI := hid hl
 have HZ := hid hz
 have HW := hid hw
 have hm : m ≤ 9223372036854775807 := by have := ht.cap; have := ht.capm; unfold maxLen at this; omega
 have hn : n ≤ 9223372036854775807 := by have := hs.cap; have := hs.capm; unfold maxLen at this; omega
 clear hs ht hl hz hw
 go_enter Tryz.func109, Tryz.ntmps109
 go_wp2
 go_loopg [0, 11] m (fun gk v i wr => ∃ k : Nat, gk + k = m ∧ i = .int .i64 k ∧ v = .string (nmd word names (l.take k)) ∧ (nmd word names (l.take k)).size ≤ 1000 + 101 * k ∧ w = wr)
 case atStart => exact ⟨0, by omega, rfl, rfl, HW.out, rfl⟩
 case round =>
  obtain ⟨k, hk, rfl, rfl, hsz, hw⟩ := hrel
  subst hw
  have HK := hid hk
  by_cases hlt : k < m
  · have HLT := hid hlt
    obtain ⟨b, o, u, rfl, lb, e1, ca⟩ := HT.out.at hlt
    rw [List.getElem?_map] at e1
    obtain ⟨i, hi, rfl⟩ := Option.map_eq_some_iff.1 e1
    have hin := HI.out i (List.mem_of_getElem? hi)
    obtain ⟨b2, o2, u2, rfl, lb2, e2, ca2⟩ := HS.out.at hin
    unfold strV at e2
    rw [List.getElem?_map] at e2
    obtain ⟨s, hs, rfl⟩ := Option.map_eq_some_iff.1 e2
    have HST := hid (show nmd word names (l.take (k + 1)) = nmd word names (l.take k) ++ (⟨#[32]⟩ ++ s) by
     rw [List.take_add_one, hi, Option.toList_some, nmd_snoc, List.getD, hs]; rfl)
    have hz := HZ.out s (List.mem_of_getElem? hs)
    generalize nmd word names (l.take k) = v at *
    have h1s : (⟨#[32]⟩ ++ s : ByteArray).size = 1 + s.size := by rw [ByteArray.size_append]; rfl
    have cat1 : ∀ W : World, (Op.stringOp .add ⟨#[32]⟩ s).run Tryz.prog W = .ok (.string (⟨#[32]⟩ ++ s)) W := fun W => run_string_add_sum W _ _ (by have : (ByteArray.mk #[32]).size = 1 := rfl; omega)
    have cat2 : ∀ W : World, (Op.stringOp .add v (⟨#[32]⟩ ++ s)).run Tryz.prog W = .ok (.string (v ++ (⟨#[32]⟩ ++ s))) W := fun W => run_string_add_sum W _ _ (by omega)
    have HSZ := hid (show (v ++ (⟨#[32]⟩ ++ s)).size ≤ 1000 + 101 * (k + 1) by rw [ByteArray.size_append]; omega)
    clear hk e1 hi lb e2 hs lb2
    go_wp2
    go_roundg (gk - 1)
    case measure => have := HK.out; have := HLT.out; omega
    case rel => exact ⟨k + 1, by have := HK.out; have := HLT.out; omega, by go_num, by rw [HST.out], by rw [HST.out]; exact HSZ.out, rfl⟩
  · obtain rfl : k = m := by have := HK.out; omega
    have e : l.take k = l := List.take_of_length_le (by have := HLL.out; omega)
    rw [e]
    clear hk e
    go_wp2
    go_ret
    exact ⟨rfl, rfl⟩
end Go.Proofs.YtciadmjdadnolaaGreatDoor
/- Walks of slices.Index and Contains on strings. Condition: the slice reads as strings. -/
namespace Go.Proofs.YtciadmjdadnolaaGreatDoor
open Go.RowKit Go.Maps
theorem toList_inj {a b : ByteArray} (h : a.toList = b.toList) : a = b := by
 rw [ByteArray.toList_eq, ByteArray.toList_eq] at h
 have h1 : a.data = b.data := Array.toList_inj.1 h
 cases a; cases b; simp_all
set_option maxRecDepth 100000 in
set_option maxHeartbeats 1000000 in
theorem strIdx (A : Option Addr) (n c : Nat) (l : List ByteArray) (b : ByteArray) (w : World) (hs : Sl w A n c (strV l)) :
 Calls Tryz.prog 92 #[.slice A n c, .string b] w fun e w' => (∃ r : Int, e = .returned (.int .i64 r) ∧ (0 ≤ r ↔ b ∈ l)) ∧ w = w' := by
 have hm : n ≤ 9223372036854775807 := by have := hs.cap; have := hs.capm; unfold maxLen at this; omega
 have HS := hid hs
 have HL := hid (show l.length = n by have := hs.len; simpa [strV] using this)
 clear hs
 go_enter Tryz.func92, Tryz.ntmps92
 go_wp2
 go_loopg [8] n (fun gk i wr => ∃ k : Nat, gk + k = n ∧ i = .int .i64 k ∧ Hid (∀ j, j < k → l[j]? ≠ some b) ∧ w = wr)
 case atStart => exact ⟨0, by omega, rfl, hid fun j h => absurd h (by omega), rfl⟩
 case round =>
  obtain ⟨k, hk, rfl, HN, hw⟩ := hrel
  subst hw
  have HK := hid hk
  by_cases hlt : k < n
  · have HLT := hid hlt
    obtain ⟨b1, o, u, rfl, lb1, e1, ca⟩ := HS.out.at hlt
    obtain ⟨y, hy, rfl⟩ := Option.map_eq_some_iff.1 (show (l[k]?).map (fun b => Value.string b) = some u by rw [← List.getElem?_map]; exact e1)
    have HY := hid hy
    clear e1 hy hk lb1
    by_cases hq : b = y
    · subst hq
      have hqe : (b.data.toList == b.data.toList) = true := by simp
      have hqe2 : (b.toList == b.toList) = true := by simp
      go_wp2
      go_ret
      exact ⟨⟨(k : Int), rfl, ⟨fun _ => List.mem_of_getElem? HY.out, fun _ => by omega⟩⟩, rfl⟩
    · have hq2 : ¬ y = b := fun e => hq e.symm
      have HQ := hid hq
      have hqe2 : (b.toList == y.toList) = false := by rw [beq_eq_false_iff_ne]; exact fun e => hq (toList_inj e)
      go_wp2
      go_roundg (gk - 1)
      case measure => have := HK.out; have := HLT.out; omega
      case rel =>
       refine ⟨k + 1, by have := HK.out; have := HLT.out; omega, by go_num, hid fun j hj => ?_, rfl⟩
       by_cases e : j = k
       · subst e
         rw [HY.out]
         exact fun e => HQ.out (Option.some.inj e).symm
       · exact HN.out j (by omega)
  · obtain rfl : k = n := by have := HK.out; omega
    clear hk
    go_wp2
    go_ret
    exact ⟨⟨-1, rfl, ⟨fun h => absurd h (by decide), fun hm => by
     obtain ⟨i, hi⟩ := List.getElem?_of_mem hm
     have := (List.getElem?_eq_some_iff.1 hi).1
     exact absurd hi (HN.out i (by have := HL.out; omega))⟩⟩, rfl⟩
set_option maxRecDepth 100000 in
theorem strHas (A : Option Addr) (n c : Nat) (l : List ByteArray) (b : ByteArray) (q : Bool) (w : World) (hs : Sl w A n c (strV l)) (hq : q = true ↔ b ∈ l) :
 Calls Tryz.prog 59 #[.slice A n c, .string b] w fun e w' => e = .returned (.bool q) ∧ w = w' := by
 have HI := hid (strIdx A n c l b w hs)
 have HQ := hid hq
 clear hs hq
 go_enter Tryz.func59, Tryz.ntmps59
 go_wp2_with fail
 refine (HI.out).mono ?_; rintro e w1 ⟨⟨r, rfl, hr⟩, rfl⟩
 have hd : decide (0 ≤ r) = q := by rw [Bool.eq_iff_iff, decide_eq_true_iff, HQ.out]; exact hr
 clear hr
 go_wp2
 go_ret
 exact ⟨rfl, rfl⟩
end Go.Proofs.YtciadmjdadnolaaGreatDoor
/- Walk of enter: a name is added to a list of the call's own. Condition: the list is a row of the call's own. -/
namespace Go.Proofs.YtciadmjdadnolaaGreatDoor
open Go.RowKit Go.Maps
set_option maxRecDepth 100000 in
set_option maxHeartbeats 1000000 in
theorem enterYes (B : Nat) (A : Option Addr) (n c : Nat) (names : List ByteArray) (s : ByteArray) (most : Nat) (w : World) (hB : B ≤ w.heap.size) (ho : w.ownsRow B 9 1 (.slice A n c) n (strV names)) (hno : s ∉ names) (hn : n < most) (hm : most ≤ 1000) :
 Calls Tryz.prog 62 #[.slice A n c, .string s, .int .i64 (most : Nat)] w fun x w' => (∃ A' c', x = .returned (.tuple #[.slice A' (n + 1) c', .int .i64 0]) ∧ w'.ownsRow B 9 1 (.slice A' (n + 1) c') (n + 1) (strV (names ++ [s]))) ∧ (w.alloc (.cells #[.string s] 9)).grownBy w' (Value.slice A n c).ownBlock := by
 have HH := hid (strHas A n c names s false w (Sl.of_own ho) (by simp [hno]))
 have HO := hid ho
 have q1 : ((n : Int) == (most : Int)) = false := by rw [beq_eq_false_iff_ne]; omega
 have q2 : (n == most) = false := by rw [beq_eq_false_iff_ne]; omega
 have q3 : decide (n = most) = false := decide_eq_false (by omega)
 clear ho hno
 go_enter Tryz.func62, Tryz.ntmps62
 go_wp2_with fail
 refine (HH.out).mono ?_; rintro x w' ⟨rfl, rfl⟩
 go_wp2_with (at_builtin; refine push1P TS22 w #[.string s] B _ _ _ HO.out _ _ w.heap.size rfl rfl rfl rfl rfl rfl (by simp [Value.oneCell']) (by omega) (by omega) hB ?_; intro v1 w8 hown1 hgr)
 have HO8 := hid hown1
 have HG := hid hgr
 obtain ⟨A8, c8, rfl⟩ := own_form hown1
 clear hown1 hgr
 go_wp2
 go_ret2
 exact ⟨⟨A8, c8, rfl, by unfold strV at *; rw [List.map_append]; exact HO8.out⟩, HG.out⟩
end Go.Proofs.YtciadmjdadnolaaGreatDoor
/- Walks of slices.ContainsFunc on bytes with isLine's closure. Condition: the slice reads as bytes. -/
namespace Go.Proofs.YtciadmjdadnolaaGreatDoor
open Go.RowKit Go.Maps
/-- Is a byte none of a line's? -/
def odd8 (b : UInt8) : Bool := decide (b.toNat < 32) || decide (126 < b.toNat)
def u8V (l : List UInt8) : List Value := l.map fun b => .int .u8 (b.toNat : Nat)
set_option maxRecDepth 100000 in
theorem line1 (b : UInt8) (w : World) :
 Calls Tryz.prog 61 #[.int .u8 (b.toNat : Nat)] w fun e w' => e = .returned (.bool (odd8 b)) ∧ w = w' := by
 have hb := b.toNat_lt
 unfold odd8
 by_cases h1 : b.toNat < 32
 · have g1 : decide ((b.toNat : Int) < 32) = true := decide_eq_true (by omega)
   have g2 : decide (b.toNat < 32) = true := decide_eq_true h1
   go_enter Tryz.func61, Tryz.ntmps61
   go_wp2
   go_ret
   exact ⟨by simp; omega, rfl⟩
 · have g1 : decide ((b.toNat : Int) < 32) = false := decide_eq_false (by omega)
   have g2 : decide (b.toNat < 32) = false := decide_eq_false h1
   by_cases h2 : 126 < b.toNat
   · have g3 : decide (126 < (b.toNat : Int)) = true := decide_eq_true (by omega)
     have g4 : decide (126 < b.toNat) = true := decide_eq_true h2
     go_enter Tryz.func61, Tryz.ntmps61
     go_wp2
     go_ret
     exact ⟨by simp; omega, rfl⟩
   · have g3 : decide (126 < (b.toNat : Int)) = false := decide_eq_false (by omega)
     have g4 : decide (126 < b.toNat) = false := decide_eq_false h2
     go_enter Tryz.func61, Tryz.ntmps61
     go_wp2
     go_ret
     exact ⟨by simp; omega, rfl⟩
/-- What the closure says of each of some values. -/
def LineS (w : World) (vs : List Value) (f : Nat → Bool) : Prop := ∀ (i : Nat) v, vs[i]? = some v → Calls Tryz.prog 61 #[v] w fun e w' => e = .returned (.bool (f i)) ∧ w = w'
set_option maxRecDepth 100000 in
set_option maxHeartbeats 1000000 in
theorem byteIdx (A : Option Addr) (n c : Nat) (vs : List Value) (f : Nat → Bool) (lb : Array Value) (w : World) (hlb : lb = #[]) (hs : Sl w A n c vs) (hf : LineS w vs f) :
 Calls Tryz.prog 93 #[.slice A n c, .func (.func 61) #[] lb] w fun e w' => (∃ r : Int, e = .returned (.int .i64 r) ∧ (0 ≤ r ↔ ∃ i, i < n ∧ f i = true)) ∧ w = w' := by
 subst hlb
 have hm : n ≤ 9223372036854775807 := by have := hs.cap; have := hs.capm; unfold maxLen at this; omega
 have he : ∀ args W, (callFunc 61 args).run Tryz.prog W = .ok (.enter 61 args) W := fun args W => enters Tryz.func61 (by kernel_rfl) rfl args W
 have HF := hid hf
 have HS := hid hs
 clear hs hf
 go_enter Tryz.func93, Tryz.ntmps93
 go_wp2
 go_loopg [8] n (fun gk i wr => ∃ k : Nat, gk + k = n ∧ i = .int .i64 k ∧ Hid (∀ j, j < k → f j = false) ∧ w = wr)
 case atStart => exact ⟨0, by omega, rfl, hid fun j h => absurd h (by omega), rfl⟩
 case round =>
  obtain ⟨k, hk, rfl, HN, hw⟩ := hrel
  subst hw
  have HK := hid hk
  by_cases hlt : k < n
  · have HLT := hid hlt
    obtain ⟨b, o, u, rfl, lb1, e1, ca⟩ := HS.out.at hlt
    have hc := HF.out k u e1
    have HC := hid hc
    clear e1 hc hk lb1
    cases hfx : f k
    · rw [hfx] at HC
      have HX := hid hfx
      clear hfx
      go_wp2_with (refine (HC.out).mono ?_; rintro e w1 ⟨rfl, rfl⟩)
      go_roundg (gk - 1)
      case measure => have := HK.out; have := HLT.out; omega
      case rel =>
       refine ⟨k + 1, by have := HK.out; have := HLT.out; omega, by go_num, hid fun j hj => ?_, rfl⟩
       by_cases e : j = k
       · subst e; exact HX.out
       · exact HN.out j (by omega)
    · rw [hfx] at HC
      have HX := hid hfx
      clear hfx
      go_wp2_with (refine (HC.out).mono ?_; rintro e w1 ⟨rfl, rfl⟩)
      go_ret
      exact ⟨⟨(k : Int), rfl, ⟨fun _ => ⟨k, HLT.out, HX.out⟩, fun _ => by omega⟩⟩, rfl⟩
  · obtain rfl : k = n := by have := HK.out; omega
    clear hk
    go_wp2
    go_ret
    exact ⟨⟨-1, rfl, ⟨fun h => absurd h (by decide), fun ⟨i, hi, hfi⟩ => by rw [HN.out i hi] at hfi; cases hfi⟩⟩, rfl⟩
set_option maxRecDepth 100000 in
theorem byteAny (A : Option Addr) (n c : Nat) (vs : List Value) (f : Nat → Bool) (b : Bool) (w : World) (hs : Sl w A n c vs) (hf : LineS w vs f) (hb : b = true ↔ ∃ i, i < n ∧ f i = true) :
 Calls Tryz.prog 60 #[.slice A n c, .func (.func 61) #[] #[]] w fun e w' => e = .returned (.bool b) ∧ w = w' := by
 have HI := hid (byteIdx A n c vs f #[] w rfl hs hf)
 have HB := hid hb
 clear hs hf hb
 go_enter Tryz.func60, Tryz.ntmps60
 go_wp2_with fail
 refine (HI.out).mono ?_; rintro e w1 ⟨⟨r, rfl, hr⟩, rfl⟩
 have hd : decide (0 ≤ r) = b := by rw [Bool.eq_iff_iff, decide_eq_true_iff, HB.out]; exact hr
 clear hr
 go_wp2
 go_ret
 exact ⟨rfl, rfl⟩
end Go.Proofs.YtciadmjdadnolaaGreatDoor
/- Walks of none, Out and Journal at a mint that Open made. Condition: the journal reads as strings. -/
namespace Go.Proofs.YtciadmjdadnolaaGreatDoor
open Go.RowKit Go.Maps
theorem strV_one (l : List ByteArray) : ∀ u ∈ strV l, u.oneCell' = true := by
 intro u hu
 obtain ⟨b, _, rfl⟩ := List.mem_map.1 hu
 rfl
/-- A mint: its copies, mark, state, journal, and whether it is out. -/
abbrev MintB (w : World) (m : Nat) (a : Value) (k : Int) (sb : Nat) (d : Value) (out : Bool) : Prop := Blk w m 59 #[a, .int .i64 k, .pointer (some ⟨sb, 0, none⟩), d, .bool out]
set_option maxRecDepth 100000 in
theorem mintNone (m : Nat) (a : Value) (k : Int) (sb : Nat) (d : Value) (out : Bool) (w : World) (h : MintB w m a k sb d out) :
 Calls Tryz.prog 19 #[.pointer (some ⟨m, 0, none⟩)] w fun x w' => x = .returned (.bool false) ∧ w = w' := by
 have c2 := h.cell 2
 simp only [List.getElem?_toArray, List.getElem?_cons_zero, List.getElem?_cons_succ] at c2
 clear h
 go_enter Tryz.func19, Tryz.ntmps19
 go_wp2
 go_ret
 exact ⟨rfl, rfl⟩
set_option maxRecDepth 100000 in
theorem mintOut (m : Nat) (a : Value) (k : Int) (sb : Nat) (d : Value) (out : Bool) (w : World) (h : MintB w m a k sb d out) :
 Calls Tryz.prog 7 #[.pointer (some ⟨m, 0, none⟩)] w fun x w' => x = .returned (.bool out) ∧ w = w' := by
 have HN := hid (mintNone m a k sb d out w h)
 have c4 := h.cell 4
 simp only [List.getElem?_toArray, List.getElem?_cons_zero, List.getElem?_cons_succ] at c4
 clear h
 cases out
 · go_enter Tryz.func7, Tryz.ntmps7
   go_wp2_with fail
   refine (HN.out).mono ?_; rintro x w' ⟨rfl, rfl⟩
   go_wp2
   go_ret
   exact ⟨rfl, rfl⟩
 · go_enter Tryz.func7, Tryz.ntmps7
   go_wp2_with fail
   refine (HN.out).mono ?_; rintro x w' ⟨rfl, rfl⟩
   go_wp2
   go_ret
   exact ⟨rfl, rfl⟩
set_option maxRecDepth 100000 in
theorem mintJournal (m : Nat) (a : Value) (k : Int) (sb : Nat) (A : Option Addr) (n c : Nat) (l : List ByteArray) (out : Bool) (w : World) (hn : n ≤ 1000000) (h : MintB w m a k sb (.slice A n c) out) (hs : Sl w A n c (strV l)) :
 Calls Tryz.prog 6 #[.pointer (some ⟨m, 0, none⟩)] w fun x w' => ∃ A' c', x = .returned (.slice A' n c') ∧ w'.ownsRow w.heap.size 9 1 (.slice A' n c') n (strV l) ∧ Below w.heap.size w w' := by
 have HN := hid (mintNone m a k sb _ out w h)
 have HC := hid (cloneS A n c _ (strV_one l) hn w hs)
 have c3 := h.cell 3
 simp only [List.getElem?_toArray, List.getElem?_cons_zero, List.getElem?_cons_succ] at c3
 clear h hs
 go_enter Tryz.func6, Tryz.ntmps6
 go_wp2_with fail
 refine (HN.out).mono ?_; rintro x w' ⟨rfl, rfl⟩
 go_wp2_with fail
 refine (HC.out).mono ?_; rintro x w1 ⟨A', c', rfl, ho, hb⟩
 have HO := hid ho
 have HB := hid hb
 clear ho hb
 go_wp2
 go_ret
 exact ⟨A', c', rfl, HO.out, HB.out⟩
end Go.Proofs.YtciadmjdadnolaaGreatDoor
/- Walk of isName: small letters, one to eight of them. No condition. -/
namespace Go.Proofs.YtciadmjdadnolaaGreatDoor
open Go.RowKit Go.Maps
/-- Is a byte no small letter? -/
def notLow (b : UInt8) : Bool := decide (b.toNat < 97) || decide (122 < b.toNat)
/- The rune that stands at a place is a small letter just where the byte is one; then it is one byte wide. -/
theorem below_iter (w : World) (s : ByteArray) (pos : Nat) : Below w.heap.size w (w.iter s pos) := (Below.refl _ w).alloc (Nat.le_refl _) _
theorem low_rune (s : ByteArray) (pos : Nat) (h : pos < s.size) : (notLow (s[pos]'h) = true ∧ ((Utf8.decode s pos).1 < 97 ∨ 122 < (Utf8.decode s pos).1)) ∨ (notLow (s[pos]'h) = false ∧ (Utf8.decode s pos) = ((s[pos]'h).toNat, 1) ∧ 97 ≤ (s[pos]'h).toNat ∧ (s[pos]'h).toNat ≤ 122) := by
 unfold notLow
 by_cases ha : (s[pos]'h).toNat < 128
 · rw [decode_ascii s pos h ha]
   by_cases h1 : (s[pos]'h).toNat < 97
   · exact .inl ⟨by simp [h1], .inl (by simp; omega)⟩
   · by_cases h2 : 122 < (s[pos]'h).toNat
     · exact .inl ⟨by simp [h2], .inr (by simp; omega)⟩
     · exact .inr ⟨by simp [h1, h2], rfl, by omega, by omega⟩
 · have := (decode_high s pos h (by omega)).1
   exact .inl ⟨by simp; omega, .inr (by omega)⟩
set_option maxRecDepth 100000 in
set_option maxHeartbeats 1000000 in
theorem nameF (s : ByteArray) (q : Bool) (w : World) (hq : q = true ↔ ((∀ i (h : i < s.size), notLow (s[i]'h) = false) ∧ 0 < s.size ∧ s.size ≤ 8)) (hsz : s.size ≤ 1000000000) :
 Calls Tryz.prog 56 #[.string s] w fun e w' => e = .returned (.bool q) ∧ Below w.heap.size w w' := by
 have HQ := hid hq
 clear hq
 go_enter Tryz.func56, Tryz.ntmps56
 go_wp2
 go_loopg [4] s.size (fun gk r wr => ∃ pos : Nat, gk + pos = s.size ∧ wr = w.iter s pos ∧ Hid (∀ i (h : i < s.size), i < pos → notLow (s[i]'h) = false))
 case atStart => exact ⟨0, by omega, rfl, hid fun i _ h => absurd h (by omega)⟩
 case round =>
  obtain ⟨pos, hp, hw, HN⟩ := hrel
  subst hw
  have HP := hid hp
  by_cases hlt : pos < s.size
  · have HLT := hid hlt
    have hnx : ∀ ty, (Instr.next (.pointer (some ⟨w.heap.size, 0, none⟩)) true ty).run Tryz.prog (w.iter s pos) = _ := fun ty => run_next_any w s pos ty hlt
    have HLR := hid (low_rune s pos hlt)
    have hd2 : 1 ≤ (Utf8.decode s pos).2 ∧ True := ⟨by
     by_cases ha : (s[pos]'hlt).toNat < 128
     · rw [decode_ascii s pos hlt ha]; exact Nat.le_refl _
     · exact (decode_high s pos hlt (by omega)).2, trivial⟩
    rcases HLR.out with ⟨hn, hr | hr⟩ | ⟨hn, hr, hr1, hr2⟩
    · have hq : q = false := by
       cases q
       · rfl
       · have := (HQ.out.1 rfl).1 pos hlt; rw [hn] at this; cases this
      subst hq
      clear hn hd2 hp HLR
      generalize Utf8.decode s pos = d at *
      have g1 : decide ((d.1 : Int) < 97) = true := decide_eq_true (by omega)
      go_wp2
      go_ret
      exact ⟨rfl, below_iter _ _ _⟩
    · have hq : q = false := by
       cases q
       · rfl
       · have := (HQ.out.1 rfl).1 pos hlt; rw [hn] at this; cases this
      subst hq
      clear hn hd2 hp HLR
      generalize Utf8.decode s pos = d at *
      have g1 : decide ((d.1 : Int) < 97) = false := decide_eq_false (by omega)
      have g2 : decide ((122 : Int) < d.1) = true := decide_eq_true (by omega)
      have g3 : decide (122 < d.1) = true := decide_eq_true (by omega)
      go_wp2
      go_ret
      exact ⟨rfl, below_iter _ _ _⟩
    · have HN2 := hid (show ∀ i (h : i < s.size), i < pos + 1 → notLow (s[i]'h) = false from fun i h hi => by
       by_cases e : i = pos
       · subst e; exact hn
       · exact HN.out i h (by omega))
      rw [hr] at hnx
      have HR := hid hr
      clear hn hd2 hp HLR hr HN
      generalize (s[pos]'hlt).toNat = b at *
      have g1 : decide ((b : Int) < 97) = false := decide_eq_false (by omega)
      have g2 : decide ((122 : Int) < b) = false := decide_eq_false (by omega)
      have g3 : decide (122 < b) = false := decide_eq_false (by omega)
      have g4 : decide (b < 97) = false := decide_eq_false (by omega)
      go_wp2
      go_roundg (gk - 1)
      case measure => have := HP.out; have := HLT.out; omega
      case rel => exact ⟨pos + 1, by have := HP.out; have := HLT.out; omega, rfl, HN2⟩
  · have hnx : ∀ ty, (Instr.next (.pointer (some ⟨w.heap.size, 0, none⟩)) true ty).run Tryz.prog (w.iter s pos) = _ := fun ty => run_next_end w s pos ty hlt
    have HA := hid (show ∀ i (h : i < s.size), notLow (s[i]'h) = false from fun i h => HN.out i h (by omega))
    have hqe : q = (decide (0 < s.size) && decide (s.size ≤ 8)) := by
     rw [Bool.eq_iff_iff, HQ.out, Bool.and_eq_true, decide_eq_true_iff, decide_eq_true_iff]
     exact ⟨fun h => h.2, fun h => ⟨HA.out, h.1, h.2⟩⟩
    have hsl : s.toList.length = s.size := by rw [ByteArray.toList_eq]; simp
    by_cases h0 : s.size = 0
    · have hnil : s.toList = [] := List.eq_nil_of_length_eq_zero (by omega)
      have hq : q = false := by rw [hqe]; simp [h0]
      subst hq
      clear hqe hp
      go_wp2
      go_ret
      exact ⟨rfl, below_iter _ _ _⟩
    · have hne : ¬ s.toList = [] := fun e => by rw [e] at hsl; simp at hsl; omega
      by_cases h8 : s.size ≤ 8
      · have hq : q = true := by rw [hqe]; simp; omega
        subst hq
        have g5 : decide ((s.size : Int) ≤ 8) = true := decide_eq_true (by omega)
        clear hqe hp
        have he : s.toList.isEmpty = false := by cases hl : s.toList with | nil => exact absurd hl hne | cons _ _ => rfl
        go_wp2
        go_ret
        exact ⟨rfl, below_iter _ _ _⟩
      · have hq : q = false := by rw [hqe]; simp; omega
        subst hq
        have g5 : decide ((s.size : Int) ≤ 8) = false := decide_eq_false (by omega)
        clear hqe hp
        go_wp2
        go_ret
        exact ⟨rfl, below_iter _ _ _⟩
end Go.Proofs.YtciadmjdadnolaaGreatDoor
/- Walk of clone at the first state: all of its slices are nil. No condition. -/
namespace Go.Proofs.YtciadmjdadnolaaGreatDoor
open Go.RowKit Go.Maps
theorem cloneS0 (w : World) : Calls Tryz.prog 20 #[.slice none 0 0] w fun e w' => e = .returned (.slice none 0 0) ∧ w = w' := by
 have qT : ∀ (w : World) (a : Option Addr) (n c n' c' : Nat), (binOp .eql 28 (.slice a n c) (.slice none n' c')).run Tryz.prog w = .ok (.bool a.isNone) w := fun w a n c n' c' => Lib.run_eql_slice_nil w _ _ a n c n' c' Tryz.underlying28
 go_enter Tryz.func20, Tryz.ntmps20
 go_wp2
 go_ret
 exact ⟨rfl, rfl⟩
theorem cloneI0 (w : World) : Calls Tryz.prog 51 #[.slice none 0 0] w fun e w' => e = .returned (.slice none 0 0) ∧ w = w' := by
 have qT : ∀ (w : World) (a : Option Addr) (n c n' c' : Nat), (binOp .eql 89 (.slice a n c) (.slice none n' c')).run Tryz.prog w = .ok (.bool a.isNone) w := fun w a n c n' c' => Lib.run_eql_slice_nil w _ _ a n c n' c' Tryz.underlying89
 go_enter Tryz.func51, Tryz.ntmps51
 go_wp2
 go_ret
 exact ⟨rfl, rfl⟩
theorem cloneB0 (w : World) : Calls Tryz.prog 52 #[.slice none 0 0] w fun e w' => e = .returned (.slice none 0 0) ∧ w = w' := by
 have qT : ∀ (w : World) (a : Option Addr) (n c n' c' : Nat), (binOp .eql 100 (.slice a n c) (.slice none n' c')).run Tryz.prog w = .ok (.bool a.isNone) w := fun w a n c n' c' => Lib.run_eql_slice_nil w _ _ a n c n' c' Tryz.underlying100
 go_enter Tryz.func52, Tryz.ntmps52
 go_wp2
 go_ret
 exact ⟨rfl, rfl⟩
set_option maxRecDepth 100000 in
set_option maxHeartbeats 4000000 in
theorem cloneBeg (sb : Nat) (w : World) (h : Blk w sb 102 begC) :
 Calls Tryz.prog 36 #[.pointer (some ⟨sb, 0, none⟩)] w fun e w' => ∃ nb, e = .returned (.pointer (some ⟨nb, 0, none⟩)) ∧ Blk w' nb 102 begC ∧ w.heap.size ≤ nb ∧ Below w.heap.size w w' := by
 have HS0 := hid fun W => cloneS0 W
 have HI0 := hid fun W => cloneI0 W
 have HB0 := hid fun W => cloneB0 W
 have c0 := h.cell 0
 have c1 := h.cell 1
 have c2 := h.cell 2
 have c3 := h.cell 3
 have c4 := h.cell 4
 have c5 := h.cell 5
 have c6 := h.cell 6
 have c7 := h.cell 7
 have c8 := h.cell 8
 have c9 := h.cell 9
 simp only [begC, List.getElem?_toArray, List.getElem?_cons_zero, List.getElem?_cons_succ] at c0 c1 c2 c3 c4 c5 c6 c7 c8 c9
 have HB := hid h
 have HLT := hid h.lt
 clear h
 go_enter Tryz.func36, Tryz.ntmps36
 have K1 := hid (Blk.new w 102 begC)
 have HLO := hid ((Below.refl _ w).alloc (Nat.le_refl _) (.cells begC 102))
 go_wp2_with fail
 refine at_world fun W1 hW1 => ?_
 have HK1 := hid (show Blk W1 w.heap.size 102 begC from by rw [hW1]; exact K1.out)
 have HLO1 := hid (show Below w.heap.size w W1 from by rw [hW1]; exact HLO.out)
 clear hW1 K1 HLO c0 c1 c2 c3 c4 c5 c6 c7 c8 c9
 go_cut [2] from 7 to 18 (fun t wx => t = .pointer none ∧ Hid (Blk wx w.heap.size 102 begC) ∧ Hid (Below w.heap.size w wx))
 case first =>
  have c0 := (HB.out.keep HLO1.out).cell 0
  have c1 := (HB.out.keep HLO1.out).cell 1
  have d0 := HK1.out.cell 0
  have d1 := HK1.out.cell 1
  have f0 := HK1.out.free 0
  have f1 := HK1.out.free 1
  simp only [begC, List.getElem?_toArray, List.getElem?_cons_zero, List.getElem?_cons_succ] at c0 c1 d0 d1
  have hne : ¬ sb = w.heap.size := by have := HLT.out; omega
  have hne2 : ¬ w.heap.size = sb := fun e => hne e.symm
  go_region_held3 (fun w' => w'.cell? ⟨sb, 0, none⟩ = some (.slice none 0 0) ∧ w'.cell? ⟨sb, 1, none⟩ = some (.slice none 0 0)) (first | assumption | go_keep | (simp [hne, hne2, c0, c1]; done) | (exact ⟨c0, c1⟩)) (first
   | (go_at_call 20; refine (HS0.out _).mono ?_; rintro e w' ⟨rfl, rfl⟩)
   | (go_at_call 51; refine (HI0.out _).mono ?_; rintro e w' ⟨rfl, rfl⟩))
  all_goals go_wp2_with fail
  all_goals go_meet
  case rel => exact ⟨rfl, hid (((HK1.out.drew).set 0 (.slice none 0 0)).set 1 (.slice none 0 0)), hid (((HLO1.out.drew).setCell (p := ⟨w.heap.size, 0, none⟩) (Nat.le_refl _) _).setCell (p := ⟨w.heap.size, 1, none⟩) (Nat.le_refl _) _)⟩
 case rest =>
  obtain ⟨rfl, HK2, HLO2⟩ := hcut
  have c2 := (HB.out.keep HLO2.out).cell 2
  have c3 := (HB.out.keep HLO2.out).cell 3
  have c9 := (HB.out.keep HLO2.out).cell 9
  have d2 := HK2.out.cell 2
  have d3 := HK2.out.cell 3
  have d9 := HK2.out.cell 9
  have f2 := HK2.out.free 2
  have f3 := HK2.out.free 3
  have f9 := HK2.out.free 9
  simp only [begC, List.getElem?_toArray, List.getElem?_cons_zero, List.getElem?_cons_succ] at c2 c3 c9 d2 d3 d9
  have hne : ¬ sb = w.heap.size := by have := HLT.out; omega
  have hne2 : ¬ w.heap.size = sb := fun e => hne e.symm
  go_wp2_with fail
  go_region_held3 (fun w' => w'.cell? ⟨sb, 2, none⟩ = some (.slice none 0 0) ∧ w'.cell? ⟨sb, 3, none⟩ = some (.slice none 0 0) ∧ w'.cell? ⟨sb, 9, none⟩ = some (.slice none 0 0)) (first | assumption | go_keep | (simp [hne, hne2, c2, c3, c9]; done) | (exact ⟨c2, c3, c9⟩)) (first
   | (go_at_call 20; refine (HS0.out _).mono ?_; rintro e w' ⟨rfl, rfl⟩)
   | (go_at_call 51; refine (HI0.out _).mono ?_; rintro e w' ⟨rfl, rfl⟩)
   | (go_at_call 52; refine (HB0.out _).mono ?_; rintro e w' ⟨rfl, rfl⟩))
  all_goals go_wp2
  all_goals go_ret
  exact ⟨w.heap.size, rfl, ((((HK2.out.drew).set 2 (.slice none 0 0)).set 3 (.slice none 0 0)).set 9 (.slice none 0 0)), Nat.le_refl _, ((((HLO2.out.drew).setCell (p := ⟨w.heap.size, 2, none⟩) (Nat.le_refl _) _).setCell (p := ⟨w.heap.size, 3, none⟩) (Nat.le_refl _) _).setCell (p := ⟨w.heap.size, 9, none⟩) (Nat.le_refl _) _)⟩
end Go.Proofs.YtciadmjdadnolaaGreatDoor
