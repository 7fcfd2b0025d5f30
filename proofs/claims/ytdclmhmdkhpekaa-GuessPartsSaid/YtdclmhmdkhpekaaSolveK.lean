/- What a search for guesses keeps: a map from sets of codes with a number of guesses to whether these suffice; library functions over a predicate that writes; laws for ranging. No condition. -/
import Derived.Test.YtdclmhmdkhpekaaParts
import Derived.Test.YtdclmhmdkhpekaaShl
import Derived.Maps.RangeWalk
namespace Go.Proofs.Ytdclmhmdkhpekaa
open Go.RowKit Go.Maps

/-- A list of codes as a number. -/
def setN (l : List Int) : Nat := l.foldl (fun s x => s ||| (1 <<< x.toNat)) 0
theorem setN_snoc (l : List Int) (x : Int) : setN (l ++ [x]) = setN l ||| (1 <<< x.toNat) := by simp [setN, List.foldl_append]
theorem setN_from (l : List Int) : ∀ s i, (l.foldl (fun s x => s ||| (1 <<< x.toNat)) s).testBit i = (s.testBit i || l.any fun x => x.toNat == i) := by
  induction l with
  | nil => simp
  | cons x l ih =>
    intro s i
    rw [List.foldl_cons, ih, List.any_cons, Nat.testBit_or, Nat.one_shiftLeft, Nat.testBit_two_pow, Bool.or_assoc]
    rfl
theorem setN_bit (l : List Int) (i : Nat) : (setN l).testBit i = l.any fun x => x.toNat == i := by
  unfold setN; rw [setN_from]; simp
theorem setN_lt {l : List Int} (h : ∀ x ∈ l, 0 ≤ x ∧ x < 27) : setN l < 134217728 := by
  have : setN l < 2 ^ 27 := by
    apply Nat.lt_pow_two_of_testBit
    intro i hi
    rw [setN_bit, List.any_eq_false]
    intro x hx
    have := h x hx
    simp; omega
  exact this
theorem Rise.ext {N : Nat} : ∀ {l l' : List Int}, Rise N l → Rise N l' → (∀ x, x ∈ l ↔ x ∈ l') → l = l' := by
  intro l
  induction l with
  | nil =>
    intro l' _ _ h
    cases l' with
    | nil => rfl
    | cons y t => exact absurd ((h y).2 (by simp)) (by simp)
  | cons x t ih =>
    intro l' h1 h2 h
    cases l' with
    | nil => exact absurd ((h x).1 (by simp)) (by simp)
    | cons y t' =>
      have a := (List.pairwise_cons.1 h1.lt).1
      have b := (List.pairwise_cons.1 h2.lt).1
      have e : x = y := by
        have hx := (h x).1 (by simp)
        have hy := (h y).2 (by simp)
        rcases List.mem_cons.1 hx with hx | hx
        · exact hx
        · rcases List.mem_cons.1 hy with hy | hy
          · exact hy.symm
          · have := a y hy; have := b x hx; omega
      subst e
      rw [ih h1.tail h2.tail fun z => ?_]
      constructor
      · intro hz
        have := a z hz
        rcases List.mem_cons.1 ((h z).1 (List.mem_cons_of_mem _ hz)) with e | e
        · omega
        · exact e
      · intro hz
        have := b z hz
        rcases List.mem_cons.1 ((h z).2 (List.mem_cons_of_mem _ hz)) with e | e
        · omega
        · exact e
theorem setN_inj {N : Nat} {l l' : List Int} (h1 : Rise N l) (h2 : Rise N l') (h : setN l = setN l') : l = l' := by
  refine h1.ext h2 fun x => ?_
  have key : ∀ {a b : List Int}, Rise N a → Rise N b → setN a = setN b → x ∈ a → x ∈ b := by
    intro a b ha hb e hx
    have h3 := setN_bit b x.toNat
    rw [← e, setN_bit, List.any_eq_true.2 ⟨x, hx, by simp⟩] at h3
    obtain ⟨y, hy, hxy⟩ := List.any_eq_true.1 h3.symm
    have := ha.mem x hx
    have := hb.mem y hy
    have : y = x := by simp at hxy; omega
    subst this; exact hy
  exact ⟨key h1 h2 h, key h2 h1 h.symm⟩

theorem L106 : WideMaps.KeyLaw Try.prog 106 := deep_law_laid laidOutG (m := 4) (by omega) (of_decide_eq_true (by kernel_rfl)) (by kernel_rfl) (by rw [Try.underlying106])
theorem K106 : Keyed Try.prog 106 := Keyed.of_law L106
theorem M75 : Try.prog.underlying 75 = some (.map 106 4) := Try.underlying75
def keyT (s : Nat) (q : Int) : Value := .agg #[.int .i64 (s : Int), .int .i64 q]
theorem keyT_key {s : Nat} {q : Int} (hs : s < 134217728) (hq : 0 ≤ q ∧ q ≤ 1000) : ∃ l, keyOf Try.prog 106 (keyT s q) = some l := by
  have hk : Try.prog.keyType 106 = true := by kernel_rfl
  have c72 : Try.prog.cellsOf 106 = 2 := by kernel_rfl
  have c3 : Try.prog.cellsOf 3 = 1 := by kernel_rfl
  have hsz : 3 ≤ Try.prog.types.size := of_decide_eq_true (by kernel_rfl)
  obtain ⟨r, hm⟩ := Nat.exists_eq_add_of_le hsz
  have e : Try.prog.types.size + 1 = r + 1 + 1 + 1 + 1 := by omega
  have w0 := wfG (n := (s : Int)) (by omega)
  have w1 := wfG (n := q) (by omega)
  have h : (keyOf Try.prog 106 (keyT s q)).isSome = true := by
    unfold keyT keyOf
    rw [e]
    simp [hk, Value.formed, Try.underlying106, c72, c3, Value.cells, Program.keyLits, Try.underlying3, w0, w1]
  exact Option.isSome_iff_exists.1 h
theorem keyT_inj {s s' : Nat} {q q' : Int} (h : keyT s q = keyT s' q') : s = s' ∧ q = q' := by
  unfold keyT at h
  simp only [Value.agg.injEq, Array.mk.injEq, List.cons.injEq, Value.int.injEq, true_and, and_true] at h
  exact ⟨by omega, h.2⟩
def OKs (c : Int) (p N : Nat) (key val : Value) : Prop := ∀ (l : List Int) (q : Nat), Rise N l → key = keyT (setN l) q → val = .bool (solvesL c p N q l)
theorem OKs_mk {c : Int} {p N q : Nat} {l : List Int} (h : Rise N l) : OKs c p N (keyT (setN l) q) (.bool (solvesL c p N q l)) := by
  intro l' q' h' e
  obtain ⟨e1, e2⟩ := keyT_inj e
  have : q = q' := by omega
  subst this
  rw [setN_inj h h' e1]

theorem quiet_same2 {P : Program} {f : FuncId} {args : Array Value} {w : World} {n : Nat} {v : Value}
    (h : Calls P f args (w.drewN n) fun e w' => e = .returned v ∧ w.drewN n = w') : Calls P f args (w.drewN n) fun e w'' => e = .returned v ∧ ∃ m, w'' = w.drewN m :=
  h.mono fun _ _ ⟨he, hm⟩ => ⟨he, n, hm.symm⟩
theorem gr_refl (w : World) (r : Option Nat) : w.grownBy w r := ⟨rfl, rfl, rfl, Nat.le_refl _, fun _ _ _ => rfl⟩
theorem gr_trans {a b c : World} {r : Option Nat} (h : a.grownBy b r) (k : b.grownBy c r) : a.grownBy c r :=
  ⟨k.os.trans h.os, k.tape.trans h.tape, k.output.trans h.output, Nat.le_trans h.size k.size, fun i hi hr => (k.block i (by have := h.size; omega) hr).trans (h.block i hi hr)⟩
theorem gr_below {a b : World} {r : Option Nat} (h : Below a.heap.size a b) : a.grownBy b r := ⟨h.os, h.tape, h.output, h.size, fun i hi _ => h.block i hi⟩
/-- A step that writes a block that is new since a. -/
theorem gr_new {a b c : World} {r : Option Nat} {j : Nat} (h : a.grownBy b r) (k : b.grownBy c (some j)) (hj : a.heap.size ≤ j) : a.grownBy c r :=
  ⟨k.os.trans h.os, k.tape.trans h.tape, k.output.trans h.output, Nat.le_trans h.size k.size, fun i hi hr => (k.block i (by have := h.size; omega) (by simp; omega)).trans (h.block i hi hr)⟩

/-- A function value that tells f, for the elements of xs, and keeps I. -/
structure Tells2 (I : World → Prop) (g : Nat) (lb : Array Value) (xs : List Int) (f : Int → Bool) : Prop where
  ent : ∀ args W, (callFunc g args).run Try.prog W = .ok (.enter g args) W
  run : ∀ x, x ∈ xs → ∀ W, I W → Calls Try.prog g (#[.int .i64 x] ++ lb) W fun e W' => e = .returned (.bool (f x)) ∧ I W'

set_option maxRecDepth 100000 in
set_option maxHeartbeats 400000 in
theorem indexFunc2 (I : World → Prop) (A : Option Addr) (n c : Nat) (xs : List Int) (g : Nat) (lb : Array Value) (f : Int → Bool) (w : World) (hw : I w) (hs : ∀ W, I W → Sl W A n c (xs.map (Value.int .i64))) (hf : Tells2 I g lb xs f) :
    Calls Try.prog 70 #[.slice A n c, .func (.func g) #[] lb] w fun e w' => (∃ k : Int, e = .returned (.int .i64 k) ∧ k = idxf f xs) ∧ I w' := by
  have hs0 := hs w hw
  have hm : n ≤ 9223372036854775807 := by have := hs0.cap; have := hs0.capm; unfold maxLen at this; omega
  have hlen : xs.length = n := by simpa using hs0.len
  have HLN := hid hlen
  have HF := hid hf.run
  have HS := hid hs
  have he := hf.ent
  have HW := hid hw
  clear hf hs0 hlen hs hw
  go_enter Try.func70, Try.ntmps70
  go_wp2
  go_loopg [8] n (fun gk i wr => ∃ k : Nat, gk + k = n ∧ i = .int .i64 k ∧ (∀ j y, j < k → xs[j]? = some y → f y = false) ∧ Hid (I wr))
  case atStart => exact ⟨0, by omega, rfl, fun j _ h => absurd h (by omega), HW⟩
  case round =>
    obtain ⟨k, hk, rfl, hno, hI⟩ := hrel
    have HN := hid hno; have HK := hid hk; clear hno hk
    by_cases hlt : k < n
    · obtain ⟨b, o, u, rfl, lb1, e1, ca⟩ := (HS.out wr hI.out).at hlt
      rw [List.getElem?_map] at e1
      obtain ⟨x, hx, rfl⟩ := Option.map_eq_some_iff.1 e1
      have hc := HF.out x (List.mem_of_getElem? hx) wr hI.out
      have HX := hid hx
      cases hfx : f x
      · rw [hfx] at hc
        have HC := hid hc
        clear e1 hx hc
        go_wp2_with (refine (HC.out).mono ?_; rintro e w1 ⟨rfl, hI1⟩; have HI1 := hid hI1; clear hI1)
        go_roundg (gk - 1)
        case measure => have := HK.out; omega
        case rel =>
          refine ⟨k + 1, by have := HK.out; omega, by go_num, fun j y hj hy => ?_, HI1⟩
          by_cases e : j = k
          · subst e; rw [HX.out] at hy; cases hy; exact hfx
          · exact HN.out j y (by omega) hy
      · rw [hfx] at hc
        have HC := hid hc
        have HR := hid (idxf_at hx hfx HN.out)
        clear e1 hx hc
        go_wp2_with (refine (HC.out).mono ?_; rintro e w1 ⟨rfl, hI1⟩; have HI1 := hid hI1; clear hI1)
        go_ret
        exact ⟨⟨k, rfl, HR.out.symm⟩, HI1.out⟩
    · have HR := hid (idxf_none (xs := xs) (f := f) fun j y hy => HN.out j y (by have := (List.getElem?_eq_some_iff.1 hy).1; have := HLN.out; omega) hy)
      go_wp2
      go_ret
      exact ⟨⟨-1, rfl, HR.out.symm⟩, hI.out⟩

set_option maxHeartbeats 400000 in
theorem containsFunc2 (I : World → Prop) (A : Option Addr) (n c : Nat) (xs : List Int) (g : Nat) (lb : Array Value) (f : Int → Bool) (w : World) (hw : I w) (hs : ∀ W, I W → Sl W A n c (xs.map (Value.int .i64))) (hf : Tells2 I g lb xs f) :
    Calls Try.prog 81 #[.slice A n c, .func (.func g) #[] lb] w fun e w' => e = .returned (.bool (xs.any f)) ∧ I w' := by
  have hany := hid (idxf_any f xs)
  have HC := hid (indexFunc2 I A n c xs g lb f w hw hs hf)
  clear hf hs hw
  go_enter Try.func81, Try.ntmps81
  go_wp2_with (go_at_call 70; refine (HC.out).mono ?_; rintro e w1 ⟨⟨k, rfl, rfl⟩, hI1⟩; have HI1 := hid hI1; clear hI1)
  go_ret
  exact ⟨ret_v (congrArg Value.bool hany.out), HI1.out⟩

section
variable {ops : Array Oper} {rest : List Oper} {o : Oper} {a : Act} {Q : Exit → Act → World → Prop} (w : World) {B r base cnt : Nat} {G : Int × Int → List Int} {D : Int × Int → Prop}
/-- 'range m'. -/
theorem wpList_range_grp (hg : o.guard = none) (m : Operand) (hop : o.op = Op.range 108 m) (hm : a.eval m = .map (some B)) (h : Grp w B base G) (D : Int × Int → Prop)
    (hK : ∀ w' cnt, Rng w' B w.heap.size base G cnt D → Below w.heap.size w w' → wpList Try.prog ops Q rest (a.put o.dst (.pointer (some ⟨w.heap.size, 0, none⟩))) w') :
    wpList Try.prog ops Q (o :: rest) a w := by
  refine wpList_plain hg fun K' hK' => ?_
  obtain ⟨w', cnt, hrun, r1, r2⟩ := h.range D
  unfold Oper.wp
  simp [execOp, hop, hm, hrun, Result.andThen]
  exact hK' _ _ (hK w' cnt r1 r2)
/-- The step. -/
theorem wpList_next_rng (hg : o.guard = none) (it : Operand) (hop : o.op = Op.next it false) (hit : a.eval it = .pointer (some ⟨r, 0, none⟩)) (h : Rng w B r base G cnt D)
    (hDone : (∀ m, G m ≠ [] → D m) → wpList Try.prog ops Q rest (a.put o.dst (.tuple #[.bool false])) w)
    (hMore : ∀ (m : Int × Int) (v : Value) (w' : World) (cnt' : Nat), cnt' < cnt → Small m → G m ≠ [] → w.grownBy w' (some r) → w'.heap.size = w.heap.size → w'.ownsRow base 3 1 v (G m).length ((G m).map (Value.int .i64)) →
      (Instr.entry (.pointer (some ⟨r, 0, none⟩))).run Try.prog w' = .ok (.tuple #[.agg #[.int .i64 m.1, .int .i64 m.2], v]) w' → Rng w' B r base G cnt' (fun m' => D m' ∨ m' = m) → wpList Try.prog ops Q rest (a.put o.dst (.tuple #[.bool true, .agg #[.int .i64 m.1, .int .i64 m.2], v])) w') :
    wpList Try.prog ops Q (o :: rest) a w := by
  refine wpList_plain hg fun K' hK' => ?_
  unfold Oper.wp
  rcases h.next o.type with ⟨h0, hl, hrun⟩ | ⟨m, v, w', cnt', h1, h2, h3, hrun, h4, h5, h6, h7, h8⟩
  · simp [execOp, hop, hit, hrun, Result.andThen]
    exact hK' _ _ (hDone hl)
  · simp [execOp, hop, hit, hrun, Result.andThen]
    exact hK' _ _ (hMore m v w' cnt' h1 h2 h3 h4 h5 h6 h7 h8)
end
end Go.Proofs.Ytdclmhmdkhpekaa
