/- Texts of this proof, one behind the other; each says its condition at its head. -/
import Derived.Test.YtnibidmlkbcfkaaGreatDoorT4
import Derived.Lib.AtoiAllCases
import Derived.Lib.AppendIntMem
import Derived.Lib.LaidTab
import Derived.Laws.EntriesVeiled
import Derived.WalkSmall
import Derived.Deep.CutRange
import Derived.Deep.RegionWith
import Derived.Deep.RegionHeld3
import Derived.Test.YtnibidmlkbcfkaaGreatDoorT1
namespace Go.Proofs.YtnibidmlkbcfkaaGreatDoor
/- Plain law of a rule's read, at any text: its names and its numbers; and what the shelf says of Atoi and Itoa there. -/
section
open Go.RowKit Go.Maps
/-- A text between its blanks. -/
def parts (s : ByteArray) : List ByteArray := Lib.splitB ⟨#[32]⟩ 0 (Lib.countB s ⟨#[32]⟩) s
theorem parts_len (s : ByteArray) : (parts s).length = Lib.countB s ⟨#[32]⟩ + 1 := Lib.splitB_all _ (by decide) 0 _ s rfl
theorem parts_parts {s : ByteArray} (hs : s.size < 4294967281) : Parts s (parts s) := parts_of hs rfl (parts_len s).symm
theorem splitB_size (sep : ByteArray) : ∀ (k : Nat) (s : ByteArray), ∀ x ∈ Lib.splitB sep 0 k s, x.size ≤ s.size
 | 0, s, x, hx => by simp [Lib.splitB_zero] at hx; rw [hx]; exact Nat.le_refl _
 | k + 1, s, x, hx => by
  rcases Lib.indexB_cases s sep with hix | ⟨i, hix, hroom⟩
  · rw [Lib.splitB_miss _ _ _ _ hix] at hx; simp at hx; rw [hx]; exact Nat.le_refl _
  · rw [Lib.splitB_hit _ _ _ _ i hix] at hx
    rcases List.mem_cons.1 hx with rfl | hx
    · rw [ByteArray.size_extract]; omega
    · have := splitB_size sep k _ x hx
      rw [ByteArray.size_extract] at this
      omega
theorem parts_size {s x : ByteArray} (h : x ∈ parts s) : x.size ≤ s.size := splitB_size _ _ s x h
theorem parts_few (s : ByteArray) : (parts s).length ≤ s.size + 1 := by
 rw [parts_len]
 have := Lib.countB_le ⟨#[32]⟩ (by decide) s.size s (Nat.le_refl _)
 omega
def isNm (x : ByteArray) : Bool := x.data.toList.all (fun b => !notLow b) && (decide (0 < x.size) && decide (x.size ≤ 8))
theorem isNm_iff (x : ByteArray) : isNm x = true ↔ IsNm x := by
 unfold isNm IsNm
 simp only [Bool.and_eq_true, decide_eq_true_eq, List.all_eq_true, Bool.not_eq_true']
 constructor
 · rintro ⟨h1, h2, h3⟩
   exact ⟨fun i h => h1 _ (by rw [ByteArray.getElem_eq_getElem_data]; exact Array.getElem_mem_toList _), h2, h3⟩
 · rintro ⟨h1, h2, h3⟩
   refine ⟨fun b hb => ?_, h2, h3⟩
   obtain ⟨i, hi, rfl⟩ := List.getElem_of_mem hb
   have := h1 i (by simpa using hi)
   rw [ByteArray.getElem_eq_getElem_data] at this
   simpa using this
/-- The number that a word is: as strconv.Itoa writes it, three digits at most. -/
def numOf (x : ByteArray) : Option Nat :=
 match Lib.atoiAll x.data.toList with
 | .ok v => if 0 ≤ v ∧ x.size ≤ 3 ∧ (⟨(Lib.itoa v).toArray⟩ : ByteArray) = x then some v.toNat else none
 | _ => none
def numV (x : ByteArray) : Int := ((numOf x).getD 0 : Nat)
theorem numOf_ok {x : ByteArray} {v : Int} (h : Lib.atoiAll x.data.toList = .ok v) : numOf x = if 0 ≤ v ∧ x.size ≤ 3 ∧ (⟨(Lib.itoa v).toArray⟩ : ByteArray) = x then some v.toNat else none := by
 unfold numOf; rw [h]
theorem numOf_no {x : ByteArray} (h : ∀ v, Lib.atoiAll x.data.toList ≠ .ok v) : numOf x = none := by
 unfold numOf
 split
 · rename_i v hv; exact absurd hv (h v)
 · rfl
theorem numOf_lt {x : ByteArray} {n : Nat} (h : numOf x = some n) : n < 1000 := by
 unfold numOf at h
 split at h
 · rename_i v hv
   split at h
   · rename_i hc
     obtain ⟨h0, h3, he⟩ := hc
     cases h
     obtain ⟨k, rfl⟩ : ∃ k : Nat, v = k := ⟨v.toNat, by omega⟩
     rw [Lib.itoa_nonneg] at he
     have hs : x.size = (Lib.decDigits k).length := by rw [← he]; simp [ByteArray.size]
     rw [Lib.decDigits_length] at hs
     have h1 := Lib.lt_pow_nDigits k
     have h2 : (10 : Nat) ^ Lib.nDigits k ≤ 10 ^ 3 := Nat.pow_le_pow_right (by omega) (by omega)
     simp
     omega
   · cases h
 · cases h
theorem numV_lt (x : ByteArray) : 0 ≤ numV x ∧ numV x < 1000 := by
 unfold numV
 cases h : numOf x with
 | none => simp
 | some n => have := numOf_lt h; simp; omega
/-- What a rule reads behind a text's first word. -/
def readP (r0 r1 : Nat) (l : List ByteArray) : Option (List ByteArray × List Int) :=
 if l.length = r0 + r1 ∧ (l.take r0).all isNm = true ∧ (l.drop r0).all (fun x => (numOf x).isSome) = true then some (l.take r0, (l.drop r0).map numV) else none
theorem tab_keep {n : String} {g : Nat} {k : IntKind} {zs : List Int} {w w' : World} (hg : Tryz.prog.globalNamed n = some g) (h : Lib.TabIs Tryz.prog w n k zs) (hb : Below w.heap.size w w') : Lib.TabIs Tryz.prog w' n k zs := by
 unfold Lib.TabIs World.var? at h ⊢
 rw [hg] at h ⊢
 simp only [Option.bind_some] at h ⊢
 have hlt : g < w.heap.size := by
  rcases Nat.lt_or_ge g w.heap.size with h' | h'
  · exact h'
  · rw [Array.getElem?_eq_none h'] at h; cases h
 rw [hb.block g hlt]
 exact h
/-- The variables that the library's numbers ask. -/
structure EnvN (w : World) : Prop where
 max : MaxL w
 tab : Lib.TabIs Tryz.prog w "internal/strconv.uint64pow10" .u64 Lib.pow10Tab
 syn : ∃ ev, w.cell? ⟨2, 0, none⟩ = some ev ∧ (ev = .nilIface ∨ ∃ te pe, ev = .iface te pe)
 rng : ∃ ev, w.cell? ⟨3, 0, none⟩ = some ev ∧ (ev = .nilIface ∨ ∃ te pe, ev = .iface te pe)
theorem gPow : Tryz.prog.globalNamed "internal/strconv.uint64pow10" = some 1 := by kernel_rfl
theorem EnvN.keep {w w' : World} (h : EnvN w) (hb : Below w.heap.size w w') : EnvN w' :=
 ⟨h.max.keep hb, tab_keep gPow h.tab hb, by obtain ⟨v, h1, h2⟩ := h.syn; exact ⟨v, cell_keep hb h1, h2⟩, by obtain ⟨v, h1, h2⟩ := h.rng; exact ⟨v, cell_keep hb h1, h2⟩⟩
theorem atoiAny (x : ByteArray) (hx : x.size ≤ 1000000000) (w : World) (h : EnvN w) :
 Calls Tryz.prog 51 #[.string x] w fun e w' => ∃ (v : Int) (r : Value), e = .returned (.tuple #[.int .i64 v, r]) ∧ ((r = .nilIface ∧ Lib.atoiAll x.data.toList = .ok v) ∨ (∃ N, r = .iface 176 (.pointer (some ⟨N, 0, none⟩)) ∧ numOf x = none)) ∧ Below w.heap.size w w' := by
 cases ha : Lib.atoiAll x.data.toList with
 | ok v =>
  refine (sh_strconv_Atoi_ok x (by omega) v ha w).mono ?_
  rintro e w' ⟨rfl, hw⟩
  refine ⟨v, _, rfl, .inl ⟨rfl, rfl⟩, ?_⟩
  rcases hw with rfl | ⟨t, rfl⟩
  · exact Below.refl _ _
  · exact Lib.bytesWorld_below _ _ _
 | range =>
  obtain ⟨ev, h1, h2⟩ := h.rng
  refine (sh_strconv_Atoi_range x (by omega) ha ev w h1 h2).mono ?_
  rintro e w' ⟨N, rfl, _, _, hb⟩
  exact ⟨_, _, rfl, .inr ⟨N, rfl, numOf_no (fun v hv => by rw [ha] at hv; cases hv)⟩, hb⟩
 | _ =>
  obtain ⟨ev, h1, h2⟩ := h.syn
  refine (sh_strconv_Atoi_syntax x (by omega) ha (fun v hv => by cases hv) (fun hv => by cases hv) ev w h1 h2).mono ?_
  rintro e w' ⟨N, rfl, _, _, hb⟩
  exact ⟨_, _, rfl, .inr ⟨N, rfl, numOf_no (fun v hv => by rw [ha] at hv; cases hv)⟩, hb⟩
theorem itoaAny (v : Int) (h0 : 0 ≤ v) (h1 : v ≤ 9223372036854775807) (w : World) (h : EnvN w) :
 Calls Tryz.prog 19 #[.int .i64 v] w fun e w' => e = .returned (.string ⟨(Lib.itoa v).toArray⟩) ∧ Below w.heap.size w w' := by
 refine (sh_strconv_Itoa v (by omega) h1 w h.tab).mono ?_
 rintro e w' ⟨rfl, k, os, rfl⟩
 exact ⟨rfl, Lib.below_grow _ w (Nat.le_refl _) k os⟩
end
/- Walk of find: a rule that is there, and the line behind its word. Conditions: what Cut, the rules, read and isLine say of the text. -/
section
open Go.RowKit Go.Maps
/-- The word of a text, ahead of its first blank. -/
def Word (s word : ByteArray) : Prop := ∀ w, MaxL w → Calls Tryz.prog 49 #[.string s, .string ⟨#[32]⟩] w fun e w' => ∃ (r : ByteArray) (b : Bool) (n : Nat), e = .returned (.tuple #[.string word, .string r, .bool b]) ∧ w.drewN n = w'
theorem word_of {s word : ByteArray} (hs : s.size < 4294967281) (h : (Lib.cut s.data.toList [32]).1 = word.data.toList) : Word s word := fun w ⟨m, hm⟩ =>
 (sh_strings_Cut s ⟨#[32]⟩ m w hs hm).mono fun _ _ ⟨h1, n, h2⟩ => ⟨_, _, n, h1.trans (by rw [show (ByteArray.mk #[32]).data.toList = [32] from rfl, h]), h2.symm⟩
/-- Three results, the first two in blocks. -/
theorem results_rows_tmp {P : Program} {fn : Func} {p q u : Tmp} {ty ty2 : TypeId} (h : fn.results = #[.cell p ty, .cell q ty2, .tmp u]) (tmps : Array Value) (w : World) (g g2 : Nat) (t t2 : TypeId) (cs cs2 : Array Value) (fr fr2 : Nat × Nat) (d d2 : TypeDesc)
 (hp : tmps.getD p undef = .pointer (some ⟨g, 0, none⟩)) (hq : tmps.getD q undef = .pointer (some ⟨g2, 0, none⟩)) (hg : w.heap[g]? = some (.cells cs t fr)) (hg2 : w.heap[g2]? = some (.cells cs2 t2 fr2))
 (hu : P.underlying ty = some d) (hd : (match d with | .struct _ | .array _ _ => true | _ => false) = true) (hi : (P.info? ty).map (·.size) = some cs.size)
 (hu2 : P.underlying ty2 = some d2) (hd2 : (match d2 with | .struct _ | .array _ _ => true | _ => false) = true) (hi2 : (P.info? ty2).map (·.size) = some cs2.size) :
 (results fn tmps).run P w = .ok (.tuple #[.agg cs, .agg cs2, tmps.getD u undef]) w := by
 have hp' : tmps[p]?.getD undef = .pointer (some ⟨g, 0, none⟩) := by simpa using hp
 have hq' : tmps[q]?.getD undef = .pointer (some ⟨g2, 0, none⟩) := by simpa using hq
 simp only [results, h]
 simp [Sem.run_bind, Result.andThen, hp', hq', asAddr, run_loadVar_row w g t ty cs fr d hg hu hd hi, run_loadVar_row w g2 t2 ty2 cs2 fr2 d2 hg2 hu2 hd2 hi2]
/-- What stands while find hands back. -/
structure FdS (w W : World) (R L : Array Value) (v : Value) (n : Nat) (xs : List Value) : Prop where
 rule : Blk W w.heap.size 122 R
 line : Blk W (w.heap.size + 1) 124 L
 own : W.ownsRow w.heap.size 9 1 v n xs
 low : Below w.heap.size w W
section
variable {w W W' : World} {R L : Array Value} {v : Value} {n : Nat} {xs : List Value}
theorem FdS.below (h : FdS w W R L v n xs) (hb : Below W.heap.size W W') : FdS w W' R L v n xs := ⟨h.rule.keep hb, h.line.keep hb, own_below h.own hb, below_call h.low hb h.low.size⟩
theorem FdS.drew (h : FdS w W R L v n xs) : FdS w W.drew R L v n xs := h.below (Below.refl _ W).drew
theorem FdS.setR (h : FdS w W R L v n xs) (i : Nat) (u : Value) : FdS w (W.setCell ⟨w.heap.size, i, none⟩ u) (R.setIfInBounds i u) L v n xs :=
 ⟨h.rule.set i u, h.line.far (p := ⟨w.heap.size, i, none⟩) (by simp) u, own_grown h.own h.rule (by decide) (setGrown W ⟨w.heap.size, i, none⟩ u), h.low.setCell (p := ⟨w.heap.size, i, none⟩) (Nat.le_refl _) u⟩
theorem FdS.setL (h : FdS w W R L v n xs) (i : Nat) (u : Value) : FdS w (W.setCell ⟨w.heap.size + 1, i, none⟩ u) R (L.setIfInBounds i u) v n xs :=
 ⟨h.rule.far (p := ⟨w.heap.size + 1, i, none⟩) (by simp) u, h.line.set i u, own_grown h.own h.line (by decide) (setGrown W ⟨w.heap.size + 1, i, none⟩ u), h.low.setCell (p := ⟨w.heap.size + 1, i, none⟩) (by simp) u⟩
end
section
variable {P : Program} {ops : Array Oper} {Q : Exit → Act → World → Prop} {md : Region.Mode} {S : World → Prop}
/-- An operation taken first, its temporary named. -/
theorem takeD {i : Nat} {oi : Oper} {v : Value} {fuel : Nat} {listed : Array Bool} {a : Act} {w : World} (d : Option Tmp) (hi : ops[i]? = some oi) (hd : oi.dst = d)
 (hs : Region.noSelect ops = true) (hf : Region.free md ops listed i = true) (hr : (Region.ready md ops listed).contains i = true)
 (hQ : ∀ c a w, Q (.panic c) (a.put d v) w → Q (.panic c) a w) (hy : YieldsIf P ops S oi v a) (hS : S w)
 (h : wpAnyH P md ops Q S fuel (listed.setIfInBounds i true) (a.put d v) w) : wpAnyH P md ops Q S (fuel + 1) listed a w := by
 subst hd
 exact wpAnyH_take hi hs hf hr hQ hy hS h
theorem tk {oi : Oper} {fuel : Nat} {listed : Array Bool} {a : Act} {w : World} (v : Value) (i : Nat) (d : Option Tmp) (hi : ops[i]? = some oi) (hd : oi.dst = d)
 (hy : ∀ w, S w → (execOp a.eval oi).run P w = .ok (.value v) w)
 (h : wpAnyH P md ops Q S fuel (listed.setIfInBounds i true) (a.put d v) w) (hw : Region.wanted oi (yielded ops a.tmps) = true := by rfl) (hS : S w := by assumption)
 (hs : Region.noSelect ops = true := by kernel_rfl) (hf : Region.free md ops listed i = true := by kernel_rfl) (hr : (Region.ready md ops listed).contains i = true := by kernel_rfl)
 (hQ : ∀ c a w, Q (.panic c) (a.put d v) w → Q (.panic c) a w := by exact fun _ _ _ h => h) : wpAnyH P md ops Q S (fuel + 1) listed a w :=
 takeD d hi hd hs hf hr hQ (Or.inl ⟨hw, hy⟩) hS h
theorem st {fuel : Nat} {listed : Array Bool} {a : Act} {w : World} (i : Nat) {o : Oper} (ho : ops[i]? = some o)
 (h : ∀ K' : Act → World → Prop, Shut (∀ a w, S w → (S w → wpAnyH P md ops Q S fuel (listed.setIfInBounds i true) a w) → K' a w) → if Region.wanted o (yielded ops a.tmps) = true then Oper.wp P o a w K' Q else K' (a.put o.dst undef) w)
 (hr : Region.ready md ops listed = [i] := by kernel_rfl) : wpAnyH P md ops Q S (fuel + 1) listed a w := wpAnyH_ready hr (by simp) (AllReadyH.cons ho h AllReadyH.nil)
end
/-- A store elsewhere leaves a cell. -/
theorem cell_far (w : World) {p a : Addr} {u v : Value} (h : ¬ a.block = p.block) (hc : w.cell? a = some v) : (w.setCell p u).cell? a = some v := (World.cell?_of_block (Below.heap_setCell w p u a.block h)).trans hc
end
/- A one shifted by a count that is known to be small: as a name of its own. No condition. -/
section
open Go.RowKit
/-- Two to the power of k. -/
def p2 (k : Int) : Int := 2 ^ k.toNat
def Fits (k : Int) : Prop := 0 ≤ k ∧ k ≤ 60
theorem p2_pos (k : Int) : 1 ≤ p2 k := by
 have : (0 : Int) < 2 ^ k.toNat := Int.pow_pos (by decide)
 unfold p2; omega
theorem p2_nat (n : Nat) : p2 n = ((2 ^ n : Nat) : Int) := by simp [p2]
theorem p2_le {k m : Int} (h : k ≤ m) : p2 k ≤ p2 m := by
 unfold p2
 have h1 : k.toNat ≤ m.toNat := by omega
 have h2 := Nat.pow_le_pow_right (show 0 < 2 by decide) h1
 have h3 : ∀ n : Nat, (2 : Int) ^ n = ((2 ^ n : Nat) : Int) := fun n => by simp
 rw [h3, h3]
 omega
theorem p2_bd {k : Int} (h2 : k ≤ 60) : p2 k ≤ 1152921504606846976 := p2_le (m := 60) h2
theorem shl_p2 {yk : IntKind} {k : Int} (h : Fits k) : Op.shift .shl .i64 1 yk k = pure (.int .i64 (p2 k)) := by
 have hb := p2_bd h.2
 have hp := p2_pos k
 rw [shift_shl .i64 yk 1 k h.1 (by have := h.2; simp only [IntKind.bits]; omega), Int.one_mul]
 show pure (Value.int .i64 (IntKind.i64.wrap (p2 k))) = _
 rw [IntWalk.i64_in _ (by omega)]
end
/- Words for sets of indices as numbers: which bits are set, and how the operations on bits read. No condition. -/
section
open Go.RowKit
/-- The number whose bits below n are f. -/
def mkN : Nat → (Nat → Bool) → Nat
 | 0, _ => 0
 | n+1, f => mkN n f + (if f n then 2 ^ n else 0)
def mk (n : Nat) (f : Nat → Bool) : Int := (mkN n f : Int)
theorem mkN_lt (f : Nat → Bool) : ∀ n, mkN n f < 2 ^ n := by
 intro n
 induction n with
 | zero => simp [mkN]
 | succ n ih => simp only [mkN, Nat.pow_succ]; split <;> omega
theorem mkN_bit (f : Nat → Bool) : ∀ n i, (mkN n f).testBit i = (decide (i < n) && f i) := by
 intro n
 induction n with
 | zero => intro i; simp [mkN]
 | succ n ih =>
  intro i
  have hlt := mkN_lt f n
  simp only [mkN]
  by_cases e : f n = true
  · rw [if_pos e, Nat.add_comm]
    by_cases hi : i = n
    · subst hi; rw [Nat.testBit_two_pow_add_eq, Nat.testBit_lt_two_pow hlt]; simp [e]
    · by_cases h : i < n
      · rw [Nat.testBit_two_pow_add_gt h, ih]; simp [h]; omega
      · have h1 : 2 ^ n + mkN n f < 2 ^ i := by
         have := Nat.pow_le_pow_right (show 0 < 2 by decide) (show n + 1 ≤ i by omega)
         rw [Nat.pow_succ] at this; omega
        rw [Nat.testBit_lt_two_pow h1]
        have : ¬ i < n + 1 := by omega
        simp [this]
  · rw [if_neg e, Nat.add_zero, ih]
    by_cases hi : i = n
    · subst hi; simp [e]
    · have : (i < n + 1) ↔ (i < n) := by omega
      simp [this]
theorem mkN_congr {n : Nat} {f g : Nat → Bool} (h : ∀ i, i < n → f i = g i) : mkN n f = mkN n g := by
 apply Nat.eq_of_testBit_eq
 intro i
 rw [mkN_bit, mkN_bit]
 by_cases e : i < n
 · rw [h i e]
 · simp [e]
theorem mkN_inj {n : Nat} {f g : Nat → Bool} (h : mkN n f = mkN n g) : ∀ i, i < n → f i = g i := by
 intro i hi
 have := congrArg (fun x => Nat.testBit x i) h
 simpa [mkN_bit, hi] using this
theorem mk_congr {n : Nat} {f g : Nat → Bool} (h : ∀ i, i < n → f i = g i) : mk n f = mk n g := by unfold mk; rw [mkN_congr h]
theorem mk_inj {n : Nat} {f g : Nat → Bool} (h : mk n f = mk n g) : ∀ i, i < n → f i = g i := mkN_inj (by unfold mk at h; omega)
theorem mk_of {n S : Nat} (h : S < 2 ^ n) : (S : Int) = mk n (fun i => S.testBit i) := by
 unfold mk
 congr 1
 apply Nat.eq_of_testBit_eq
 intro i
 rw [mkN_bit]
 by_cases e : i < n
 · simp [e]
 · have : S < 2 ^ i := Nat.lt_of_lt_of_le h (Nat.pow_le_pow_right (by decide) (by omega))
   simp [e, Nat.testBit_lt_two_pow this]
theorem mk_bd {n : Nat} (hn : n ≤ 60) (f : Nat → Bool) : 0 ≤ mk n f ∧ mk n f < 1152921504606846976 := by
 have h1 := mkN_lt f n
 have h2 := Nat.pow_le_pow_right (show 0 < 2 by decide) hn
 have h3 : (2 : Nat) ^ 60 = 1152921504606846976 := by decide
 unfold mk; omega
theorem mk_none (n : Nat) : mk n (fun _ => false) = 0 := by
 unfold mk
 have : mkN n (fun _ => false) = 0 := by
  induction n with
  | zero => rfl
  | succ n ih => simp [mkN, ih]
 omega
theorem mk_zero_iff {n : Nat} {f : Nat → Bool} : mk n f = 0 ↔ ∀ i, i < n → f i = false := by
 rw [← mk_none n]
 exact ⟨fun h i hi => mk_inj h i hi, fun h => mk_congr h⟩
theorem wrap_nat {x : Nat} (h : x < 9223372036854775808) : IntKind.i64.wrap (x : Int) = x := by
 rw [IntWalk.i64_in _ (by omega)]
theorem ofInt64 (a : Nat) (ha : a < 18446744073709551616) : (BitVec.ofInt 64 (a : Int)).toNat = a := by
 rw [BitVec.ofInt_natCast, BitVec.toNat_ofNat]; exact Nat.mod_eq_of_lt (by omega)
theorem i64_and (a b : Nat) (ha : a < 9223372036854775808) (hb : b < 9223372036854775808) : bits .and .i64 (a : Int) (b : Int) = ((a &&& b : Nat) : Int) := by
 have hx : a &&& b < 2 ^ 63 := Nat.and_lt_two_pow _ (by omega)
 show IntKind.i64.wrap ((BitVec.ofInt 64 (a : Int) &&& BitVec.ofInt 64 (b : Int)).toNat : Int) = _
 rw [BitVec.toNat_and, ofInt64 a (by omega), ofInt64 b (by omega), wrap_nat (by omega)]
theorem i64_or (a b : Nat) (ha : a < 9223372036854775808) (hb : b < 9223372036854775808) : bits .or .i64 (a : Int) (b : Int) = ((a ||| b : Nat) : Int) := by
 have hx : a ||| b < 2 ^ 63 := Nat.or_lt_two_pow (by omega) (by omega)
 show IntKind.i64.wrap ((BitVec.ofInt 64 (a : Int) ||| BitVec.ofInt 64 (b : Int)).toNat : Int) = _
 rw [BitVec.toNat_or, ofInt64 a (by omega), ofInt64 b (by omega), wrap_nat (by omega)]
theorem i64_andNot (a b : Nat) (ha : a < 9223372036854775808) (hb : b < 9223372036854775808) : bits .andNot .i64 (a : Int) (b : Int) = ((a &&& (18446744073709551615 - b) : Nat) : Int) := by
 have hx : a &&& (18446744073709551615 - b) < 2 ^ 63 := by
  rw [Nat.and_comm]; exact Nat.and_lt_two_pow _ (by omega)
 show IntKind.i64.wrap ((BitVec.ofInt 64 (a : Int) &&& ~~~BitVec.ofInt 64 (b : Int)).toNat : Int) = _
 rw [BitVec.toNat_and, BitVec.toNat_not, ofInt64 a (by omega), ofInt64 b (by omega)]
 have e : 2 ^ 64 - 1 - b = 18446744073709551615 - b := by omega
 rw [e, wrap_nat (by omega)]
theorem not_bit (b i : Nat) (hb : b < 18446744073709551616) (hi : i < 64) : (18446744073709551615 - b).testBit i = !b.testBit i := by
 have h := Nat.testBit_two_pow_sub_succ (x := b) (n := 64) (by omega) i
 have e : 2 ^ 64 - (b + 1) = 18446744073709551615 - b := by omega
 rw [e] at h
 simpa [hi] using h
section
variable {n : Nat} (hn : n ≤ 60) (f g : Nat → Bool)
include hn
theorem mkN_bd : mkN n f < 9223372036854775808 := by have := mk_bd hn f; unfold mk at this; omega
theorem mk_and : bits .and .i64 (mk n f) (mk n g) = mk n (fun i => f i && g i) := by
 unfold mk
 rw [i64_and _ _ (mkN_bd hn f) (mkN_bd hn g)]
 congr 1
 apply Nat.eq_of_testBit_eq
 intro i
 rw [Nat.testBit_and, mkN_bit, mkN_bit, mkN_bit]
 cases decide (i < n) <;> simp
theorem mk_or : bits .or .i64 (mk n f) (mk n g) = mk n (fun i => f i || g i) := by
 unfold mk
 rw [i64_or _ _ (mkN_bd hn f) (mkN_bd hn g)]
 congr 1
 apply Nat.eq_of_testBit_eq
 intro i
 rw [Nat.testBit_or, mkN_bit, mkN_bit, mkN_bit]
 cases decide (i < n) <;> simp
theorem mk_andNot : bits .andNot .i64 (mk n f) (mk n g) = mk n (fun i => f i && !g i) := by
 unfold mk
 rw [i64_andNot _ _ (mkN_bd hn f) (mkN_bd hn g)]
 congr 1
 apply Nat.eq_of_testBit_eq
 intro i
 rw [Nat.testBit_and, mkN_bit, mkN_bit]
 by_cases hi : i < n
 · rw [not_bit _ _ (by have := mkN_bd hn g; omega) (by omega), mkN_bit]
   simp [hi]
 · simp [hi]
end
/-- One bit more. -/
theorem mk_push {n k : Nat} (hn : k < n) (h60 : n ≤ 60) (f : Nat → Bool) {b : Int} (hb : b = if f k then 1 else 0) : bits .or .i64 (mk k f) (b * p2 k) = mk (k + 1) f := by
 have e1 : mk k f = mk (k+1) (fun i => decide (i < k) && f i) := by
  unfold mk
  congr 1
  apply Nat.eq_of_testBit_eq
  intro i
  rw [mkN_bit, mkN_bit]
  by_cases h : i < k
  · have : i < k + 1 := by omega
    simp [h, this]
  · simp [h]
 have e2 : b * p2 k = mk (k+1) (fun i => decide (i = k) && f i) := by
  have h0 : mkN k (fun i => decide (i = k) && f i) = 0 := by
   have := mk_zero_iff (n := k) (f := fun i => decide (i = k) && f i)
   unfold mk at this
   have h2 := this.2 fun i hi => by
    have : i ≠ k := by omega
    simp [this]
   omega
  unfold mk
  simp only [mkN, h0, hb]
  rw [p2_nat]
  split <;> rename_i hf
  · rw [if_pos (by simp [hf])]; omega
  · rw [if_neg (by simp [hf])]; omega
 rw [e1, e2, mk_or (by omega)]
 apply mk_congr
 intro i hi
 by_cases e : i = k
 · subst e; simp
 · have : i < k := by omega
   simp [e, this]
/-- The bit of c at x. -/
def bitV (c x : Int) : Int := c / 2 ^ x.toNat % 2
def bitB (c x : Int) : Bool := bitV c x == 1
theorem bitV_bd (c x : Int) : 0 ≤ bitV c x ∧ bitV c x ≤ 1 := by unfold bitV; omega
theorem bitV_if (c x : Int) : bitV c x = if bitB c x then 1 else 0 := by
 have := bitV_bd c x
 unfold bitB
 by_cases h : bitV c x = 1
 · simp [h]
 · have : bitV c x = 0 := by omega
   simp [this]
theorem mk_bitB {n : Nat} (f : Nat → Bool) {i : Nat} (hi : i < n) : bitB (mk n f) i = f i := by
 have h := mkN_bit f n i
 rw [Nat.testBit_eq_decide_div_mod_eq] at h
 unfold bitB bitV mk
 have e : ((mkN n f : Int) / 2 ^ (i : Int).toNat % 2) = ((mkN n f / 2 ^ i % 2 : Nat) : Int) := by simp
 rw [e]
 simp only [hi, decide_true, Bool.true_and] at h
 rw [← h]
 by_cases e2 : mkN n f / 2 ^ i % 2 = 1
 · simp [e2]
 · have e3 : mkN n f / 2 ^ i % 2 = 0 := by omega
   simp [e3]
def shrV (c x : Int) : Int := c / 2 ^ x.toNat
theorem shr_v {yk : IntKind} {c x : Int} (h : Fits x) : Op.shift .shr .i64 c yk x = pure (.int .i64 (shrV c x)) :=
 shift_shr .i64 yk c x h.1 (by have := h.2; simp only [IntKind.bits]; omega)
theorem and_shr (c x : Int) : Op.intBits .and .i64 (shrV c x) 1 = pure (.int .i64 (bitV c x)) := by
 have h1 : (BitVec.ofInt 64 1).toNat = 2 ^ 1 - 1 := by decide
 have key : (BitVec.ofInt 64 (shrV c x) &&& BitVec.ofInt 64 1).toNat = (shrV c x % ((2 ^ 64 : Nat) : Int)).toNat % 2 ^ 1 := by
  rw [BitVec.toNat_and, BitVec.toNat_ofInt, h1, Nat.and_two_pow_sub_one_eq_mod]
 have : bits .and .i64 (shrV c x) 1 = bitV c x := by
  show IntKind.i64.wrap ((BitVec.ofInt 64 (shrV c x) &&& BitVec.ofInt 64 1).toNat : Nat) = shrV c x % 2
  rw [key, IntKind.wrap_i64]
  omega
 rw [intBits_and, this]
theorem shl_bit {yk : IntKind} {c x k : Int} (h : Fits k) : Op.shift .shl .i64 (bitV c x) yk k = pure (.int .i64 (bitV c x * p2 k)) := by
 have hb := p2_bd h.2
 have hp := p2_pos k
 rw [shift_shl .i64 yk _ k h.1 (by have := h.2; simp only [IntKind.bits]; omega)]
 show pure (Value.int .i64 (IntKind.i64.wrap (bitV c x * p2 k))) = _
 have := bitV_bd c x
 have : bitV c x = 0 ∨ bitV c x = 1 := by omega
 rw [IntWalk.i64_in _ (by rcases this with e | e <;> rw [e] <;> omega)]
end
/- The plain law of fractions that are twelfths: sums, products and quotients in lowest terms. No program in sight. -/
section
/-- A fraction in lowest terms. -/
def fr (n d : Int) : Int × Int := if d < 0 then (-n / (Int.gcd n d : Int), -d / (Int.gcd n d : Int)) else (n / (Int.gcd n d : Int), d / (Int.gcd n d : Int))
/-- x twelfths. -/
def tw (x : Int) : Int × Int := fr x 12
def plusP (a : Int × Int) (k : Int) (b : Int × Int) : Int × Int := fr (a.1 * (b.2 / (Int.gcd a.2 b.2 : Int)) + k * b.1 * (a.2 / (Int.gcd a.2 b.2 : Int))) (a.2 / (Int.gcd a.2 b.2 : Int) * b.2)
def timesP (a b : Int × Int) : Int × Int := ((fr a.1 b.2).1 * (fr b.1 a.2).1, (fr a.1 b.2).2 * (fr b.1 a.2).2)
def overP (a b : Int × Int) : Int × Int := timesP a (fr b.2 b.1)
/-- A number of twelfths that the law speaks of. -/
def rg (x : Int) : Prop := -100 ≤ x ∧ x ≤ 100
theorem all_rg {p : Int → Bool} (h : (List.range 201).all (fun i => p ((i : Int) - 100)) = true) : ∀ x, rg x → p x = true := fun x hx => by
 have hx1 := hx.1
 have hx2 := hx.2
 have := (List.all_eq_true.1 h) (x + 100).toNat (by simp; omega)
 rwa [show (((x + 100).toNat : Int) - 100) = x by omega] at this
def okTw (x : Int) : Bool := decide (-100 ≤ (tw x).1) && decide ((tw x).1 ≤ 100) && decide (1 ≤ (tw x).2) && decide ((tw x).2 ≤ 12) && (decide ((tw x).1 = 0) == decide (x = 0)) && (decide ((tw x).1 < 0) == decide (x < 0))
set_option maxRecDepth 100000 in
theorem okTw_all : (List.range 201).all (fun i => okTw ((i : Int) - 100)) = true := by kernel_rfl
theorem tw_bd {x : Int} (h : rg x) : -100 ≤ (tw x).1 ∧ (tw x).1 ≤ 100 ∧ 1 ≤ (tw x).2 ∧ (tw x).2 ≤ 12 := by
 have := all_rg okTw_all x h
 unfold okTw at this
 simp only [Bool.and_eq_true, decide_eq_true_eq, beq_iff_eq] at this
 exact ⟨this.1.1.1.1.1, this.1.1.1.1.2, this.1.1.1.2, this.1.1.2⟩
theorem tw_zero {x : Int} (h : rg x) : (tw x).1 = 0 ↔ x = 0 := by
 have := all_rg okTw_all x h
 unfold okTw at this
 simp only [Bool.and_eq_true, beq_iff_eq, decide_eq_decide] at this
 exact this.1.2
theorem tw_neg {x : Int} (h : rg x) : (tw x).1 < 0 ↔ x < 0 := by
 have := all_rg okTw_all x h
 unfold okTw at this
 simp only [Bool.and_eq_true, beq_iff_eq, decide_eq_decide] at this
 exact this.2
theorem fr_mul (n d m : Int) (hd : 0 < d) (hm : 0 < m) : fr (n * m) (d * m) = fr n d := by
 have hg : ((Int.gcd (n * m) (d * m) : Nat) : Int) = (Int.gcd n d : Nat) * m := by
  rw [Int.gcd_mul_right, Int.natCast_mul]
  congr 1
  omega
 unfold fr
 have h1 : 0 < d * m := Int.mul_pos hd hm
 rw [if_neg (by omega), if_neg (by omega), hg, Int.mul_ediv_mul_of_pos_left _ _ hm, Int.mul_ediv_mul_of_pos_left _ _ hm]
/-- Fractions of one ratio are the same in lowest terms. -/
theorem fr_ratio {N D n d : Int} (hD : 0 < D) (hd : 0 < d) (h : N * d = n * D) : fr N D = fr n d := by
 rw [← fr_mul N D d hD hd, ← fr_mul n d D hd hD, h, Int.mul_comm D d]
theorem tw_parts (x : Int) : ∃ g : Int, 0 < g ∧ 0 < (tw x).2 ∧ x = (tw x).1 * g ∧ 12 = (tw x).2 * g := by
 refine ⟨(Int.gcd x 12 : Nat), ?_, ?_, ?_, ?_⟩
 · have := Int.gcd_pos_of_ne_zero_right x (show (12 : Int) ≠ 0 by decide)
   omega
 · unfold tw fr
   rw [if_neg (by decide)]
   have h1 : ((Int.gcd x 12 : Nat) : Int) ∣ 12 := Int.gcd_dvd_right ..
   exact Int.ediv_pos_of_pos_of_dvd (by decide) (by omega) h1
 · unfold tw fr
   rw [if_neg (by decide)]
   exact (Int.ediv_mul_cancel (Int.gcd_dvd_left ..)).symm
 · unfold tw fr
   rw [if_neg (by decide)]
   exact (Int.ediv_mul_cancel (Int.gcd_dvd_right ..)).symm
theorem tw_sum (x k y : Int) : plusP (tw x) k (tw y) = tw (x + k * y) := by
 obtain ⟨gx, hgx, hdx, ex, e12⟩ := tw_parts x
 obtain ⟨gy, hgy, hdy, ey, f12⟩ := tw_parts y
 generalize tw x = X at *
 generalize tw y = Y at *
 obtain ⟨a, da⟩ := X
 obtain ⟨b, db⟩ := Y
 simp only at *
 have hG : (0 : Int) < (Int.gcd da db : Nat) := by
  have := Int.gcd_pos_of_ne_zero_left db (show da ≠ 0 by omega)
  omega
 have h1 : ((Int.gcd da db : Nat) : Int) ∣ da := Int.gcd_dvd_left ..
 have h2 : ((Int.gcd da db : Nat) : Int) ∣ db := Int.gcd_dvd_right ..
 unfold plusP tw
 simp only
 generalize ((Int.gcd da db : Nat) : Int) = G at *
 obtain ⟨p, rfl⟩ := h1
 obtain ⟨q, rfl⟩ := h2
 rw [Int.mul_ediv_cancel_left _ (by omega), Int.mul_ediv_cancel_left _ (by omega)]
 have hp : 0 < p := by
  rcases Int.lt_or_le 0 p with h | h
  · exact h
  · have := Int.mul_nonpos_of_nonneg_of_nonpos (show 0 ≤ G by omega) h
    omega
 refine fr_ratio (Int.mul_pos hp hdy) (by decide) ?_
 rw [ex, ey, Int.add_mul, Int.add_mul]
 congr 1
 · conv => lhs; rw [e12]
   simp only [Int.mul_left_comm, Int.mul_comm]
 · conv => lhs; rw [f12]
   simp only [Int.mul_left_comm, Int.mul_comm]
/-- y with the sign of b. -/
def sg (b y : Int) : Int := if b < 0 then -y else y
def okTi (y : Int) : Bool := decide (timesP (tw 12) (tw y) = tw y) && decide (timesP (tw (-12)) (tw y) = tw (-y)) && decide (overP (tw y) (tw 12) = tw y) && decide (overP (tw y) (tw (-12)) = tw (-y))
set_option maxRecDepth 100000 in
theorem okTi_all : (List.range 201).all (fun i => okTi ((i : Int) - 100)) = true := by kernel_rfl
theorem tw_times {b y : Int} (hb : b = 12 ∨ b = -12) (hy : rg y) : timesP (tw b) (tw y) = tw (sg b y) := by
 have := all_rg okTi_all y hy
 unfold okTi at this
 simp only [Bool.and_eq_true, decide_eq_true_eq] at this
 rcases hb with rfl | rfl
 · exact this.1.1.1
 · exact this.1.1.2
theorem tw_over {b y : Int} (hb : b = 12 ∨ b = -12) (hy : rg y) : overP (tw y) (tw b) = tw (sg b y) := by
 have := all_rg okTi_all y hy
 unfold okTi at this
 simp only [Bool.and_eq_true, decide_eq_true_eq] at this
 rcases hb with rfl | rfl
 · exact this.1.2
 · exact this.2
end
end Go.Proofs.YtnibidmlkbcfkaaGreatDoor
