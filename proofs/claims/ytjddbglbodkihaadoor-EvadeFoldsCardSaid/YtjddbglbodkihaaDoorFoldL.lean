/- Walk of evade.Folding. Conditions: the slice reads as numbers; the table of the library stands. -/
import Derived.Test.YtjddbglbodkihaaDoorFoldW
import Derived.Test.YtjddbglbodkihaaDoorPairsE
namespace Go.Proofs.YtjddbglbodkihaaDoor
open Go.RowKit
attribute [local go_sem ↓] shl_p2 shl_u or_u shr_u and_shrF

theorem own_kind {w : World} {B : Nat} {e : TypeId} {size : Nat} {v : Value} {n : Nat} {xs : List Value} (h : w.ownsRow B e size v n xs) : ∀ g, v.ownBlock = some g → ∃ c, w.heap[g]? = some (.cells c e (0, 0)) := by
  intro g hg
  rcases h.2 with ⟨rfl, _⟩ | ⟨g', cap, cur, rfl, _, hgg, _⟩
  · simp [Value.ownBlock] at hg
  · simp [Value.ownBlock] at hg
    subst hg
    exact ⟨cur, hgg⟩
/-- Two own slices of elements of two types lie apart. -/
theorem own_apart {w : World} {B B' : Nat} {e e' : TypeId} {size size' : Nat} {v v' : Value} {n n' : Nat} {xs xs' : List Value} (h : w.ownsRow B e size v n xs) (h' : w.ownsRow B' e' size' v' n' xs') (hne : e ≠ e') : v.ownBlock = none ∨ v.ownBlock ≠ v'.ownBlock := by
  cases hv : v.ownBlock with
  | none => exact .inl rfl
  | some g =>
    right
    intro he
    obtain ⟨c, hc⟩ := own_kind h g hv
    obtain ⟨c', hc'⟩ := own_kind h' g he.symm
    rw [hc] at hc'
    injection hc' with h1
    injection h1 with h2 h3
    exact hne h3
def twoV (a b : Int) : Nat := (1 <<< a.toNat) ||| (1 <<< b.toNat)
def OrPF (a b : Int) : Prop := FitF a ∧ FitF b
theorem twoV_lt {a b : Int} (h : OrPF a b) : twoV a b < 18446744073709551616 := by
  have h1 : p2 a ≤ 9223372036854775808 := p2_le (m := 63) h.1.2
  have h2 : p2 b ≤ 9223372036854775808 := p2_le (m := 63) h.2.2
  have e1 := p2_cast a
  have e2 := p2_cast b
  have : twoV a b < 2 ^ 64 := Nat.or_lt_two_pow (by omega) (by omega)
  omega
theorem or_pp {a b : Int} (h : OrPF a b) : Op.intBits .or .u64 (p2 a) (p2 b) = pure (.int .u64 (twoV a b : Nat)) := by
  have h1 : p2 a ≤ 9223372036854775808 := p2_le (m := 63) h.1.2
  have h2 : p2 b ≤ 9223372036854775808 := p2_le (m := 63) h.2.2
  have hx := twoV_lt h
  unfold twoV at hx ⊢
  rw [p2_cast, p2_cast] at *
  show pure (Value.int .u64 (IntKind.u64.wrap ((BitVec.ofInt 64 ((1 <<< a.toNat : Nat) : Int) ||| BitVec.ofInt 64 ((1 <<< b.toNat : Nat) : Int)).toNat : Int))) = _
  rw [BitVec.toNat_or, ofInt64 _ (by omega), ofInt64 _ (by omega), IntKind.wrap_u64]
  congr 2
  omega
theorem two_bits {a b : Int} (h : OrPF a b) : bits .or .u64 (p2 a) (p2 b) = (twoV a b : Nat) := by
  have := or_pp h
  injection this with h1
  injection h1
def AnRF (F : Nat) (a b : Int) : Prop := F < 18446744073709551616 ∧ OrPF a b
theorem andNot_u {F m : Nat} (hF : F < 18446744073709551616) (hm : m < 18446744073709551616) : ∃ r : Nat, Op.intBits .andNot .u64 (F : Int) (m : Int) = pure (.int .u64 (r : Int)) ∧ r < 18446744073709551616 ∧ ∀ u, r.testBit u = (F.testBit u && !m.testBit u) := by
  refine ⟨(BitVec.ofInt 64 (F : Int) &&& ~~~ BitVec.ofInt 64 (m : Int)).toNat, ?_, ?_, ?_⟩
  · have hx : (BitVec.ofInt 64 (F : Int) &&& ~~~ BitVec.ofInt 64 (m : Int)).toNat < 2 ^ 64 := BitVec.isLt _
    show pure (Value.int .u64 (IntKind.u64.wrap ((BitVec.ofInt 64 (F : Int) &&& ~~~ BitVec.ofInt 64 (m : Int)).toNat : Int))) = _
    rw [IntKind.wrap_u64]
    generalize (BitVec.ofInt 64 (F : Int) &&& ~~~ BitVec.ofInt 64 (m : Int)).toNat = r at *
    congr 2
    omega
  · have hx : (BitVec.ofInt 64 (F : Int) &&& ~~~ BitVec.ofInt 64 (m : Int)).toNat < 2 ^ 64 := BitVec.isLt _
    omega
  · intro u
    have e1 : (BitVec.ofInt 64 (F : Int)).toNat = F := ofInt64 _ hF
    have e2 : (BitVec.ofInt 64 (m : Int)).toNat = m := ofInt64 _ hm
    have hb : (BitVec.ofInt 64 (F : Int) &&& ~~~ BitVec.ofInt 64 (m : Int)).toNat.testBit u = (BitVec.ofInt 64 (F : Int) &&& ~~~ BitVec.ofInt 64 (m : Int)).getLsbD u := rfl
    rw [hb, BitVec.getLsbD_and, BitVec.getLsbD_not]
    have g1 : (BitVec.ofInt 64 (F : Int)).getLsbD u = F.testBit u := by
      show (BitVec.ofInt 64 (F : Int)).toNat.testBit u = _
      rw [e1]
    have g2 : (BitVec.ofInt 64 (m : Int)).getLsbD u = m.testBit u := by
      show (BitVec.ofInt 64 (m : Int)).toNat.testBit u = _
      rw [e2]
    rw [g1, g2]
    by_cases h : u < 64
    · simp [h]
    · have : F.testBit u = false := by
        cases e : F.testBit u
        · rfl
        · exact absurd (bit_lt (k := 64) (by simpa using hF) e) h
      simp [this]
theorem one_bit (a u : Nat) : (1 <<< a).testBit u = decide (a = u) := by
  rw [Nat.shiftLeft_eq, Nat.one_mul, Nat.testBit_two_pow]
theorem andNot_rem {F s t : Nat} (h : AnRF F s t) : Op.intBits .andNot .u64 (F : Int) (twoV (s : Int) (t : Int) : Nat) = pure (.int .u64 (remF F s t : Nat)) := by
  obtain ⟨r, h1, h2, h3⟩ := andNot_u h.1 (twoV_lt h.2)
  rw [h1]
  congr 3
  apply bits_ext
  intro u
  rw [h3, remF_bit h.1]
  unfold twoV less
  rw [Nat.testBit_or, Int.toNat_natCast, Int.toNat_natCast, one_bit, one_bit]
  by_cases c1 : u = s
  · subst c1; simp
  · by_cases c2 : u = t
    · subst c2; simp
    · have c3 : ¬ s = u := fun e => c1 e.symm
      have c4 : ¬ t = u := fun e => c2 e.symm
      simp [c1, c2, c3, c4]
theorem rem_bits {F s t : Nat} (h : AnRF F s t) : bits .andNot .u64 (F : Int) (twoV (s : Int) (t : Int) : Nat) = (remF F s t : Nat) := by
  have := andNot_rem h
  injection this with h1
  injection h1
theorem gs_bi_nonneg (p : Nat → Bool) : ∀ N, 0 ≤ gs (fun u => bi (p u) 1) N ∧ gs (fun u => bi (p u) 1) N ≤ N := by
  intro N
  induction N with
  | zero => exact ⟨Int.le_refl 0, Int.le_refl 0⟩
  | succ N ih =>
    show 0 ≤ gs (fun u => bi (p u) 1) N + bi (p N) 1 ∧ gs (fun u => bi (p u) 1) N + bi (p N) 1 ≤ (N + 1 : Nat)
    cases p N
    · rw [show bi false 1 = 0 from rfl]; omega
    · rw [show bi true 1 = 1 from rfl]; omega
theorem FRun.len {F0 : Nat} (hF : FS F0) {l : List (Int × Int)} {G : Nat} (h : FRun F0 l G) : l.length ≤ 32 := by
  have h1 := (h.sums hF).2
  have h2 := gs_bi_nonneg F0.testBit 64
  have h3 := gs_bi_nonneg G.testBit 64
  omega
theorem flat_snoc (l : List (Int × Int)) (a b : Int) : flat (l ++ [(a, b)]) = flat l ++ [.int .i64 a, .int .i64 b] := by
  unfold flat; rw [List.flatMap_append]; rfl
theorem FRun.lt {n F0 : Nat} (hF : FS F0) (h0 : F0 < 2 ^ (2 ^ n)) {l : List (Int × Int)} {G : Nat} (h : FRun F0 l G) : G < 2 ^ (2 ^ n) := by
  induction h with
  | nil => exact h0
  | snoc hl hr ih =>
    refine lt_of_bits fun y hy => bit_lt ih ?_
    rw [remF_bit (hl.fs hF).lt] at hy
    unfold less at hy
    exact (andE (andE hy).1).1
theorem push1K {P : Program} {ops : Array Oper} {rest : List Oper} {o : Oper} {a : Act} {Q : Exit → Act → World → Prop} {t e : TypeId} {size bytes : Nat} {z : Value}
    (T : TS P t e size bytes z) (w : World) (cs : Array Value) (base n : Nat) (v : Value) (xs : List Value) (hown : w.ownsRow base e size v n xs)
    (s x : Operand) (K : Nat) (hK : w.heap.size = K) (hgd : o.guard = none) (ho : o.op = .call { callee := .builtin .append, args := #[s, x], argTypes := #[t, t] })
    (hs : a.eval s = v) (hx : a.eval x = .slice (some ⟨K, 0, none⟩) 1 1) (hcs : cs.size = size) (h1 : ∀ u ∈ cs.toList, u.oneCell' = true)
    (hn : (n + 1) * bytes ≤ 140737488355328) (hn2 : n < 1000000000000) (hb : base ≤ w.heap.size)
    (h : ∀ v' w', w'.ownsRow base e size v' (n + 1) (xs ++ cs.toList) → (w.alloc (.cells cs e)).grownBy w' v.ownBlock → wpList P ops Q rest (a.put o.dst v') w') :
    wpList P ops Q (o :: rest) a (w.alloc (.cells cs e)) := by
  subst hK
  exact push1 T w cs base n v xs hown s x hgd ho hs hx hcs h1 hn hn2 hb h
theorem TP2 : TS Tryd.prog 60 66 2 16 (.agg #[.int .i64 0, .int .i64 0]) := TP
set_option maxRecDepth 100000 in
set_option maxHeartbeats 4000000 in
theorem foldingYes (n : Nat) (A : Option Addr) (m c : Nat) (xs : List Int) (w : World) (hs : Sl w A m c (xs.map (Value.int .i64))) (hT : Tab w) (H : Fam n xs) :
    Calls Tryd.prog 49 #[.int .i64 n, .slice A m c] w fun e w' => (∃ ps G, FRun (setF xs) ps G ∧ ((Point G.testBit ∧ ∃ A' c', e = .returned (.tuple #[.slice A' ps.length c', .int .i64 0]) ∧ w'.ownsRow w.heap.size 66 2 (.slice A' ps.length c') ps.length (flat ps)) ∨ (¬ Point G.testBit ∧ (∀ s t, ¬ FR G s t) ∧ e = .returned (.tuple #[.slice none 0 0, .int .i64 4])))) ∧ Below w.heap.size w w' := by
  have HR := hid (readYes n A m c xs w hs hT H)
  have hf := fs_of H
  have hn6 := H.n6n
  have HFO := hid fun G ps (h : FRun (setF xs) ps G) x W (hb : Below w.heap.size w W) => foldF n G x W hn6 (h.lt hf H.lt) (hT.below hb)
  have HAW := hid fun G ps (h : FRun (setF xs) ps G) W (hb : Below w.heap.size w W) => awayF n G W (h.fs hf) (hT.below hb)
  have HLI := hid fun G ps (h : FRun (setF xs) ps G) W (hb : Below w.heap.size w W) => listF n G W (h.fs hf).lt (hT.below hb)
  have HLN := hid fun G ps (h : FRun (setF xs) ps G) => h.len hf
  have HFS := hid fun G ps (h : FRun (setF xs) ps G) => h.fs hf
  generalize setF xs = F0 at *
  have HHF := hid hf
  clear hs hT H hf
  go_enter Tryd.func49, Tryd.ntmps49
  go_wp2_with fail
  refine (HR.out).mono ?_; rintro e w1 ⟨rfl, b1⟩
  have hz1 := b1.size
  have HB1 := hid ((b1.alloc hz1 (.cells #[.int .i64 n, .int .u64 F0] 72)))
  have HK1 := hid (Blk.new w1 72 #[.int .i64 n, .int .u64 F0])
  go_wp2
  have HZ := hid hz1
  clear b1 hz1
  go_loopg [8, 9] 67 (fun gk v ag wr => ∃ (g : Bool) (A' : Option Addr) (c' : Nat) (ps : List (Int × Int)) (G : Nat), gk = 2 * (33 - ps.length) + (if g then 1 else 0) ∧ ag = .bool g ∧ v = .slice A' ps.length c' ∧ FRun F0 ps G ∧ Hid (wr.ownsRow (w1.heap.size + 1) 66 2 (.slice A' ps.length c') ps.length (flat ps)) ∧ Hid (Blk wr w1.heap.size 72 #[.int .i64 n, .int .u64 G]) ∧ Hid (Below w.heap.size w wr) ∧ (g = false → Point G.testBit ∨ ∀ s t, ¬ FR G s t))
  case atStart => exact ⟨true, none, 0, [], F0, rfl, rfl, rfl, .nil, hid (World.ownsRow_nil _ _ _ _), HK1, HB1, fun h => by cases h⟩
  case round =>
    obtain ⟨g, A', c', ps, G, hgk, rfl, rfl, hfr, HO, HK, HB, hst⟩ := hrel
    have f0 := HK.out.cell 0; have f1 := HK.out.cell 1
    simp only [List.getElem?_toArray, List.getElem?_cons_zero, List.getElem?_cons_succ] at f0 f1
    have HGK := hid hgk
    have HPL := hid (HLN.out G ps hfr)
    cases g
    · have hstuck := hst rfl
      clear hgk hst
      go_wp2_with fail
      refine (HAW.out G ps hfr _ HB.out).mono ?_; rintro e wz ⟨⟨bz, rfl, hbz⟩, hlz⟩
      have HBZ := hid (below_call HB.out hlz HB.out.size)
      have HOZ := hid (own_below HO.out hlz)
      cases bz
      · have HNP := hid (show ¬ Point G.testBit from fun hp => by have := hbz.2 hp; cases this)
        have HST := hid (hstuck.resolve_left HNP.out)
        clear hlz hbz
        go_wp2
        go_ret2
        exact ⟨⟨ps, G, hfr, .inr ⟨HNP.out, HST.out, rfl⟩⟩, HBZ.out⟩
      · have HP := hid (hbz.1 rfl)
        clear hlz hbz
        go_wp2
        go_ret2
        exact ⟨⟨ps, G, hfr, .inl ⟨HP.out, _, _, rfl, own_more HOZ.out (Nat.le_succ_of_le HZ.out)⟩⟩, HBZ.out⟩
    · have HG1 := hid (show gk = 2 * (33 - ps.length) + 1 from hgk)
      clear hgk hst
      go_wp2_with fail
      refine (HAW.out G ps hfr _ HB.out).mono ?_; rintro e w2 ⟨⟨b, rfl, hb⟩, hl⟩
      have HB2 := hid (below_call HB.out hl HB.out.size)
      have HO2 := hid (own_below HO.out hl)
      have HK2 := hid (HK.out.keep hl)
      have f2 := HK2.out.cell 0; have f3 := HK2.out.cell 1
      simp only [List.getElem?_toArray, List.getElem?_cons_zero, List.getElem?_cons_succ] at f2 f3
      cases b
      · have HNP := hid (show ¬ Point G.testBit from fun hp => by have := hb.2 hp; cases this)
        clear hb hl f0 f1
        go_wp2_with fail
        refine (HLI.out G ps hfr _ HB2.out).mono ?_; rintro e w3 ⟨A3, c3, rfl, ho3, hl⟩
        have HB3 := hid (below_call HB2.out hl HB2.out.size)
        have HO3 := hid (own_below HO2.out hl)
        have HK3 := hid (HK2.out.keep hl)
        have HL3 := hid (own_more ho3 (show w1.heap.size + 1 ≤ w2.heap.size from HK2.out.lt))
        have hll := famL_len 64 G.testBit
        have HM := hid fun d (hd : d < (famL 64 G.testBit).length) => mem_famL.1 (at0_mem hd)
        have HIN := hid fun s t (h : FR G s t) => (show ∃ j, j < (famL 64 G.testBit).length ∧ (at0 (famL 64 G.testBit) j).toNat = s from by
          have hm : (s : Int) ∈ famL 64 G.testBit := mem_famL.2 ⟨by omega, by have := (HFS.out G ps hfr).small s h.inS; omega, by rw [Int.toNat_natCast]; exact h.inS⟩
          obtain ⟨j, hj, hje⟩ := List.mem_iff_getElem.1 hm
          exact ⟨j, hj, by rw [at0_get ((List.getElem?_eq_getElem hj).trans (congrArg some hje))]; rfl⟩)
        generalize famL 64 G.testBit = l at *
        clear hl ho3 f2 f3
        go_wp2
        go_loopg [8, 9, 31] l.length (fun gj v ag i wr => ∃ (d : Nat) (g : Bool) (A' : Option Addr) (c' : Nat) (ps' : List (Int × Int)) (G' : Nat), gj + d = l.length ∧ i = .int .i64 d ∧ ag = .bool g ∧ v = .slice A' ps'.length c' ∧ FRun F0 ps' G' ∧ ps.length ≤ ps'.length ∧ (g = true → ps.length < ps'.length) ∧ (g = false → G' = G ∧ ∀ j, j < d → ∀ t, ¬ FR G (at0 l j).toNat t) ∧ Hid (wr.ownsRow (w1.heap.size + 1) 66 2 (.slice A' ps'.length c') ps'.length (flat ps')) ∧ Hid (wr.ownsRow (w1.heap.size + 1) 3 1 (.slice A3 l.length c3) l.length (l.map (Value.int .i64))) ∧ Hid (Blk wr w1.heap.size 72 #[.int .i64 n, .int .u64 G']) ∧ Hid (Below w.heap.size w wr))
        case atStart => exact ⟨0, false, A', c', ps, G, by omega, rfl, rfl, rfl, hfr, Nat.le_refl _, fun h => (by cases h), fun _ => ⟨rfl, fun j hj => absurd hj (by omega)⟩, HO3, HL3, HK3, HB3⟩
        case round =>
          obtain ⟨d, g, A5, c5, ps', G', hd, rfl, rfl, rfl, hfr', hle, hgt, hgf, HO, HL, HK, HB⟩ := hrel
          have HD := hid hd
          by_cases hlt : d < l.length
          · have HLT := hid hlt
            obtain ⟨b, o, hA3, lb, hdx, q1⟩ := (Sl.of_own HL.out).num hlt
            obtain ⟨m0, m1, _⟩ := HM.out d hlt
            obtain ⟨x, hx⟩ := Int.eq_ofNat_of_zero_le m0
            have hx64 : x < 64 := by omega
            have HX := hid hx
            have HX64 := hid hx64
            rw [hx] at q1
            have f0 := HK.out.cell 0; have f1 := HK.out.cell 1
            simp only [List.getElem?_toArray, List.getElem?_cons_zero, List.getElem?_cons_succ] at f0 f1
            subst hA3
            clear hd hdx m0 m1 hx lb
            go_wp2_with fail
            refine (HFO.out G' ps' hfr' _ _ HB.out).mono ?_; rintro e w5 ⟨⟨t, b5, rfl, hfo⟩, hl⟩
            have HB5 := hid (below_call HB.out hl HB.out.size)
            have HO5 := hid (own_below HO.out hl)
            have HL5 := hid (own_below HL.out hl)
            have HK5 := hid (HK.out.keep hl)
            have f2 := HK5.out.cell 0; have f3 := HK5.out.cell 1
            simp only [List.getElem?_toArray, List.getElem?_cons_zero, List.getElem?_cons_succ] at f2 f3
            cases b5
            · have HNF := hid (hfo.2 rfl)
              clear hl hfo f0 f1 q1
              go_wp2
              go_roundg (gk - 1)
              case measure => have := HD.out; have := HLT.out; omega
              case rel =>
                refine ⟨d + 1, g, A5, c5, ps', G', by have := HD.out; have := HLT.out; omega, by go_num, rfl, rfl, hfr', hle, hgt, fun hg => ?_, HO5, HL5, HK5, HB5⟩
                obtain ⟨e1, e2⟩ := hgf hg
                refine ⟨e1, fun j hj t => ?_⟩
                by_cases hjd : j = d
                · subst hjd
                  have := HNF.out x t rfl
                  rw [HX.out, Int.toNat_natCast, ← e1]
                  exact this
                · exact e2 j (by omega) t
            · obtain ⟨sn, tn, hsx, rfl, hfrr⟩ := hfo.1 rfl
              obtain rfl : sn = x := by omega
              clear hl hfo f0 f1 q1 hsx
              go_wp2_with fail
              refine (HAW.out G' ps' hfr' _ HB5.out).mono ?_; rintro e w6 ⟨⟨b6, rfl, hb6⟩, hl⟩
              have HB6 := hid (below_call HB5.out hl HB5.out.size)
              have HO6 := hid (own_below HO5.out hl)
              have HL6 := hid (own_below HL5.out hl)
              have HK6 := hid (HK5.out.keep hl)
              have f4 := HK6.out.cell 0; have f5 := HK6.out.cell 1
              have z4 := HK6.out.free 0; have z5 := HK6.out.free 1
              simp only [List.getElem?_toArray, List.getElem?_cons_zero, List.getElem?_cons_succ] at f4 f5
              cases b6
              · have HLN' := hid (HLN.out G' ps' hfr')
                have hsn := hx64
                have htn : tn < 64 := (HFS.out G' ps' hfr').small tn hfrr.inT
                have FS1 : FitF (sn : Int) := ⟨by omega, by omega⟩
                have FT1 : FitF (tn : Int) := ⟨by omega, by omega⟩
                have OP : OrPF (sn : Int) (tn : Int) := ⟨FS1, FT1⟩
                have AN : AnRF G' (sn : Int) (tn : Int) := ⟨(HFS.out G' ps' hfr').lt, OP⟩
                clear hb6 hl f2 f3
                go_wp2_with fail
                have hbv : bits .andNot .u64 (G' : Int) (bits .or .u64 (p2 (sn : Int)) (p2 (tn : Int))) = (remF G' sn tn : Nat) := by
                  rw [two_bits OP]
                  exact rem_bits AN
                have HFR2 := hid (FRun.snoc hfr' hfrr)
                go_region
                have HOS := hid ((ownsRow_setCell_below HO6.out (a := ⟨w1.heap.size, 1, none⟩) (Nat.lt_succ_self _) (.int .u64 (remF G' sn tn : Nat))).drew)
                have HLS := hid ((ownsRow_setCell_below HL6.out (a := ⟨w1.heap.size, 1, none⟩) (Nat.lt_succ_self _) (.int .u64 (remF G' sn tn : Nat))).drew)
                have HKS := hid ((HK6.out.set 1 (.int .u64 (remF G' sn tn : Nat))).drew)
                have HBS := hid ((HB6.out.setCell (p := ⟨w1.heap.size, 1, none⟩) HZ.out (.int .u64 (remF G' sn tn : Nat))).drew)
                have hsz := HK6.out.lt
                have hsz2 : (w6.setCell ⟨w1.heap.size, 1, none⟩ (.int .u64 (remF G' sn tn : Nat))).drew.heap.size = w6.heap.size := by simp [World.setCell]
                have HSZ := hid hsz2
                generalize (w6.setCell ⟨w1.heap.size, 1, none⟩ (.int .u64 (remF G' sn tn : Nat))).drew = w7 at *
                clear hbv f4 f5 z4 z5
                go_wp2_with (at_builtin; refine push1K TP2 w7 #[.int .i64 (sn : Int), .int .i64 (tn : Int)] (w1.heap.size + 1) _ _ _ HOS.out _ _ w6.heap.size HSZ.out rfl rfl rfl rfl rfl (by simp [Value.oneCell']) (by have := HLN'.out; omega) (by have := HLN'.out; omega) (by omega) ?_; intro v1 w8 hown1 hgr)
                have hb1 : Below w.heap.size w w8 := below_push HBS.out HOS.out hgr HBS.out.size (by have := HZ.out; omega)
                have HB8 := hid hb1
                have HL8 := hid (World.ownsRow.kept (HLS.out.alloc (.cells #[.int .i64 (sn : Int), .int .i64 (tn : Int)] 66)) hgr (own_apart HLS.out HOS.out (by decide)))
                have HK8 := hid ((HKS.out.alloc (.cells #[.int .i64 (sn : Int), .int .i64 (tn : Int)] 66)).grown hgr (fun e => by have := (HOS.out.lt _ e.symm).1; omega))
                obtain ⟨A8, c8, rfl⟩ := own_form hown1
                have HO8 := hid hown1
                clear hown1 hgr hb1 HOS HLS HKS HBS hsz2
                go_wp2
                go_roundg (gk - 1)
                case measure => have := HD.out; have := HLT.out; omega
                case rel =>
                  refine ⟨d + 1, true, A8, c8, ps' ++ [((sn : Int), (tn : Int))], remF G' sn tn, by have := HD.out; have := HLT.out; omega, by go_num, rfl, by simp, HFR2.out, by simp; omega, fun _ => (by simp; omega), fun h => (by cases h), ?_, HL8, HK8, HB8⟩
                  rw [List.length_append, List.length_singleton, flat_snoc]
                  exact HO8
              · have HP := hid (hb6.1 rfl)
                have HGF : Hid (g = true) := hid (by
                  cases g
                  · exfalso
                    obtain ⟨e1, _⟩ := hgf rfl
                    rw [e1] at HP
                    exact HNP.out HP.out
                  · rfl)
                clear hb6 hl f2 f3
                go_wp2
                go_roundg (gk - 1)
                case measure => have := HD.out; have := HLT.out; omega
                case rel =>
                  exact ⟨d + 1, g, A5, c5, ps', G', by have := HD.out; have := HLT.out; omega, by go_num, rfl, rfl, hfr', hle, hgt, fun hg => (by rw [HGF.out] at hg; cases hg), HO6, HL6, HK6, HB6⟩
          · obtain rfl : d = l.length := by have := HD.out; omega
            go_wp2
            go_roundg (2 * (33 - ps'.length) + (if g then 1 else 0))
            case measure =>
              have hg := HG1.out; have := HPL.out; have := HLN.out G' ps' hfr'
              cases g
              · show 2 * (33 - ps'.length) + 0 < _
                omega
              · have := hgt rfl
                show 2 * (33 - ps'.length) + 1 < _
                omega
            case rel =>
              refine ⟨g, A5, c5, ps', G', rfl, rfl, rfl, hfr', HO, HK, HB, fun hg => .inr fun s t h => ?_⟩
              obtain ⟨e1, e2⟩ := hgf hg
              rw [e1] at h
              obtain ⟨j, hj, hje⟩ := HIN.out s t h
              exact e2 j hj t (by rw [hje]; exact h)
      · have hstuck : Point G.testBit ∨ ∀ s t, ¬ FR G s t := .inl (hb.1 rfl)
        clear hb hl f0 f1
        go_wp2_with fail
        refine (HAW.out G ps hfr _ HB2.out).mono ?_; rintro e wz ⟨⟨bz, rfl, hbz⟩, hlz⟩
        have HBZ := hid (below_call HB2.out hlz HB2.out.size)
        have HOZ := hid (own_below HO2.out hlz)
        cases bz
        · have HNP := hid (show ¬ Point G.testBit from fun hp => by have := hbz.2 hp; cases this)
          have HST := hid (hstuck.resolve_left HNP.out)
          clear hlz hbz
          go_wp2
          go_ret2
          exact ⟨⟨ps, G, hfr, .inr ⟨HNP.out, HST.out, rfl⟩⟩, HBZ.out⟩
        · have HP := hid (hbz.1 rfl)
          clear hlz hbz
          go_wp2
          go_ret2
          exact ⟨⟨ps, G, hfr, .inl ⟨HP.out, _, _, rfl, own_more HOZ.out (Nat.le_succ_of_le HZ.out)⟩⟩, HBZ.out⟩
end Go.Proofs.YtjddbglbodkihaaDoor
