/- Walk of grow: it appends a tree. Condition: the dimension is at least the depth asked for. -/
import Derived.Test.YtpebglilphgamaaWorst
import Derived.Test.YtpebglilphgamaaTreeM
import Derived.Deep.AppendLies
import Derived.Deep.RegionLaw
import Derived.Deep.CutRange
namespace Go.Proofs.Ytpebglilphgamaa
open Go.RowKit Go.Maps

theorem TN : TS Try.prog 35 41 3 24 (.agg #[.int .i64 0, .int .i64 0, .int .i64 0]) := ⟨Try.underlying35, by kernel_rfl, rfl, by decide⟩
def ndV (u : Nd) : List Value := [.int .i64 u.pt, .int .i64 u.zero, .int .i64 u.one]
def flatN (ts : List Nd) : List Value := ts.flatMap ndV
theorem flatN_len (ts : List Nd) : (flatN ts).length = ts.length * 3 := by
  induction ts with
  | nil => rfl
  | cons u ts ih =>
    have : flatN (u :: ts) = ndV u ++ flatN ts := rfl
    rw [this, List.length_append, ih, List.length_cons]
    simp [ndV]; omega
theorem flatN_app (a b : List Nd) : flatN (a ++ b) = flatN a ++ flatN b := by unfold flatN; rw [List.flatMap_append]
theorem flatN_set (a b : List Nd) (u v : Nd) : (((flatN (a ++ u :: b)).set (a.length * 3) (.int .i64 v.pt)).set (a.length * 3 + 1) (.int .i64 v.zero)).set (a.length * 3 + 2) (.int .i64 v.one) = flatN (a ++ v :: b) := by
  have h := flatN_len a
  have e : ∀ w : Nd, flatN (a ++ w :: b) = flatN a ++ (.int .i64 w.pt :: .int .i64 w.zero :: .int .i64 w.one :: flatN b) := fun w => by rw [flatN_app]; rfl
  rw [e, e, List.set_append_right _ _ (by omega), List.set_append_right _ _ (by omega), List.set_append_right _ _ (by omega)]
  congr 1
  have e1 : a.length * 3 - (flatN a).length = 0 := by omega
  have e2 : a.length * 3 + 1 - (flatN a).length = 1 := by omega
  have e3 : a.length * 3 + 2 - (flatN a).length = 2 := by omega
  rw [e1, e2, e3]
  rfl
/-- The table's block, or the row's own one. -/
def Rt (B : Nat) (t : Value) : Nat → Prop := fun k => k = B ∨ t.ownBlock = some k
/-- A row's block is the same as before, or a new one. -/
def Same (w : World) (t t' : Value) : Prop := t'.ownBlock = t.ownBlock ∨ ∃ g, t'.ownBlock = some g ∧ w.heap.size ≤ g
theorem Chg.next {B : Nat} {t t1 : Value} {a b c : World} (h : Chg (Rt B t) a b) (s : Same a t t1) (k : Chg (Rt B t1) b c) : Chg (Rt B t) a c :=
  ⟨k.os.trans h.os, k.tape.trans h.tape, k.output.trans h.output, Nat.le_trans h.size k.size, fun i hi hr => (k.block i (by have := h.size; omega) (fun r => by
    rcases r with r | r
    · exact hr (.inl r)
    · rcases s with s | ⟨g, s, hg⟩
      · exact hr (.inr (s.symm.trans r))
      · rw [s] at r; cases r; omega)).trans (h.block i hi hr)⟩
theorem Same.next {a b : World} {t t1 t2 : Value} (h : Same a t t1) (k : Same b t1 t2) (hs : a.heap.size ≤ b.heap.size) : Same a t t2 := by
  rcases k with k | ⟨g, k, hg⟩
  · rcases h with h | ⟨g, h, hg⟩
    · exact .inl (k.trans h)
    · exact .inr ⟨g, k.trans h, hg⟩
  · exact .inr ⟨g, k, by omega⟩
/-- The school lies below base. -/
structure Old (base s : Nat) (A : Option Addr) (n B : Nat) : Prop where
  s : s < base
  B : B < base
  A : ∀ b o, 0 < n → A = some ⟨b, o, none⟩ → b < base
theorem St.chg {w w' : World} {s p : Nat} {A : Option Addr} {n c : Nat} {xs : List Int} {B base : Nat} (h : St w s p A n c xs B) (ho : Old base s A n B) {R : Nat → Prop} (hg : Chg R w w') (hr : ∀ k, R k → k = B ∨ base ≤ k) (hm : Memo Try.prog 3 w' B (OKd p n xs)) : St w' s p A n c xs B := by
  refine ⟨⟨?_, ?_⟩, hm, h.ne⟩
  · exact (hg.block s h.sch.blk.lt (fun r => by rcases hr s r with e | e; exact h.ne e; have := ho.s; omega)).trans h.sch.blk
  · have hsl := h.sch.sl
    refine ⟨hsl.len, hsl.cap, hsl.capm, fun hn => ?_⟩
    obtain ⟨b, o, e, hb, hc⟩ := hsl.pos hn
    refine ⟨b, o, e, Nat.lt_of_lt_of_le hb hg.size, fun j u hu => ?_⟩
    have hj := hc j u hu
    have h1 := h.memo.ne_cell hj
    exact (World.cell?_of_block (hg.block b hb (fun r => by rcases hr b r with e2 | e2; exact h1 e2; have := ho.A b o hn e; omega))).trans hj
theorem own_far {w : World} {base : Nat} {e : TypeId} {size n : Nat} {v : Value} {xs : List Value} (h : w.ownsRow base e size v n xs) {a : Addr} (ha : ∀ g, v.ownBlock = some g → a.block ≠ g) (u : Value) : (w.setCell a u).ownsRow base e size v n xs :=
  h.kept (row := some a.block) ⟨rfl, rfl, rfl, by simp, fun k _ hk => heap_setCell_other w a k u (fun e => hk (by rw [e]))⟩ (by
    cases hv : v.ownBlock with
    | none => exact .inl rfl
    | some g => exact .inr (fun e => ha g hv (by cases e; rfl)))

theorem Chg.setNew {R : Nat → Prop} {W w : World} (h : Chg R W w) {a : Addr} (ha : W.heap.size ≤ a.block) (u : Value) : Chg R W (w.setCell a u) :=
  ⟨h.os, h.tape, h.output, by have := h.size; simpa using this, fun i hi hr => (heap_setCell_other w a i u (by omega)).trans (h.block i hi hr)⟩
theorem Chg.setR {R : Nat → Prop} {W w : World} (h : Chg R W w) {a : Addr} (ha : R a.block ∨ W.heap.size ≤ a.block) (u : Value) : Chg R W (w.setCell a u) :=
  ⟨h.os, h.tape, h.output, by have := h.size; simpa using this, fun i hi hr => (heap_setCell_other w a i u (by rcases ha with e | e; exact fun e2 => hr (by rw [e2]; exact e); omega)).trans (h.block i hi hr)⟩
theorem St.far {w : World} {s p : Nat} {A : Option Addr} {n c : Nat} {xs : List Int} {B base : Nat} (h : St w s p A n c xs B) (ho : Old base s A n B) {a : Addr} (ha : base ≤ a.block) (u : Value) : St (w.setCell a u) s p A n c xs B :=
  h.chg ho (R := fun k => k = a.block) ⟨rfl, rfl, rfl, by simp, fun i _ hr => heap_setCell_other w a i u (fun e => hr (by rw [e]))⟩ (fun k hk => .inr (by rw [hk]; exact ha)) (h.memo.setCell (by have := ho.B; omega) u)

theorem St.drew {w : World} {s p : Nat} {A : Option Addr} {n c : Nat} {xs : List Int} {B : Nat} (h : St w s p A n c xs B) : St w.drew s p A n c xs B := ⟨⟨h.sch.blk.drew, h.sch.sl.drew⟩, h.memo.drew, h.ne⟩
theorem St.alloc {w : World} {s p : Nat} {A : Option Addr} {n c : Nat} {xs : List Int} {B : Nat} (h : St w s p A n c xs B) (o : Obj) : St (w.alloc o) s p A n c xs B := ⟨⟨h.sch.blk.alloc o, h.sch.sl.alloc o⟩, h.memo.alloc o, h.ne⟩
theorem Chg.drew {R : Nat → Prop} {a b : World} (h : Chg R a b) : Chg R a b.drew := ⟨h.os, h.tape, h.output, h.size, h.block⟩
theorem own_drew {w : World} {base : Nat} {e : TypeId} {size n : Nat} {v : Value} {xs : List Value} (h : w.ownsRow base e size v n xs) : w.drew.ownsRow base e size v n xs := h

def GrowTo (base s p : Nat) (A : Option Addr) (n c : Nat) (xs : List Int) (B d : Nat) : Prop :=
  ∀ (f : Nat → Bool) (W : World) (t : Value) (q : Nat) (ts : List Nd), (d : Int) ≤ dimL p (sel n f xs) → ts.length = q → q + 2 ^ d ≤ 1000 → St W s p A n c xs B → base ≤ W.heap.size → W.ownsRow base 41 3 t q (flatN ts) →
    Calls Try.prog 56 #[.pointer (some ⟨s, 0, none⟩), .int .i64 (mk n f), .int .i64 d, t] W fun e W' => ∃ t', e = .returned (.tuple #[t', .int .i64 (rootI d q)]) ∧
      W'.ownsRow base 41 3 t' (q + (2 ^ d - 1)) (flatN (ts ++ growL p d q (sel n f xs))) ∧ Same W t t' ∧ Chg (Rt B t) W W' ∧ St W' s p A n c xs B

set_option maxRecDepth 100000 in
set_option maxHeartbeats 400000 in
theorem growZero (base s p : Nat) (A : Option Addr) (n c : Nat) (xs : List Int) (B : Nat) : GrowTo base s p A n c xs B 0 := by
  intro f W t q ts hd hq hq1 hst hb ho
  have e : rootI 0 q = -1 := rfl
  rw [e]
  have HO := hid ho
  have HS := hid hst
  clear ho hst
  go_enter Try.func56, Try.ntmps56
  go_wp2
  go_ret2
  exact ⟨t, rfl, by simpa [growL] using HO.out, .inl rfl, Chg.refl _ _, HS.out⟩

set_option maxRecDepth 100000 in
set_option maxHeartbeats 4000000 in
theorem growStep (base s p : Nat) (A : Option Addr) (n c : Nat) (xs : List Int) (B d : Nat) (hp : p ≤ 60) (hn : n ≤ 16) (hd5 : d ≤ 5) (OL : Old base s A n B) (IH : GrowTo base s p A n c xs B d) : GrowTo base s p A n c xs B (d + 1) := by
  intro f W t q ts hd hq hq1 hst hb ho
  obtain ⟨x1, x2, x3⟩ := ptL_spec (p := p) (xs := sel n f xs) (d := d) (by omega)
  have HX := hid x3
  have HPT := hid fun (k : Nat) (h1 : (d : Int) ≤ dim2L p (sel n f xs) k) (h2 : k ≤ ptL p (sel n f xs) d) (h3 : ∀ j : Nat, j < k → dim2L p (sel n f xs) j < d) => show ptL p (sel n f xs) d = k from ptL_eq h1 (by omega) h3
  have HPB := hid fun (k : Nat) (h1 : dim2L p (sel n f xs) k < d) (h2 : k ≤ ptL p (sel n f xs) d) => show k < ptL p (sel n f xs) d from by
    rcases Nat.lt_or_ge k (ptL p (sel n f xs) d) with g | g
    · exact g
    · have e : k = ptL p (sel n f xs) d := by omega
      rw [← e] at x2; omega
  have hdd : (((d + 1 : Nat) : Int) - 1) = (d : Int) := by omega
  have hd0 : (((d + 1 : Nat) : Int) == 0) = false := by rw [beq_eq_false_iff_ne]; omega
  have hd00 : (((d : Int) + 1) == 0) = false := by rw [beq_eq_false_iff_ne]; omega
  have HD2 := hid fun (x : Nat) (hx : x ≤ 60) W (hW : St W s p A n c xs B) => dim2S s p A n c xs B _ (dimS s p A n c xs B hp hn _) f (Nat.le_refl _) x hx hn W hW
  have HB2 := hid fun x : Nat => dim2L_bd p (sel n f xs) x
  have HPP := hid (show ptL p (sel n f xs) d ≤ 60 by omega)
  have HO := hid ho
  have HS := hid hst
  have HL := hid (sel_len n f xs)
  have hlen16 : (sel n f xs).length ≤ 16 := by have := sel_len n f xs; omega
  obtain ⟨A0, c0, rfl⟩ := own_form ho
  have HOL := hid OL
  have HB := hid hb
  clear x1 x2 x3 hd ho hst OL hb
  go_enter Try.func56, Try.ntmps56
  go_wp2
  go_loopg [] (ptL p (sel n f xs) d) (fun gk wr => ∃ k : Nat, gk = ptL p (sel n f xs) d - k ∧ k ≤ ptL p (sel n f xs) d ∧ (∀ j : Nat, j < k → dim2L p (sel n f xs) j < d) ∧ Blk wr W.heap.size 41 #[.int .i64 k, .int .i64 0, .int .i64 0] ∧ wr.ownsRow base 41 3 (.slice A0 q c0) q (flatN ts) ∧ Chg (Rt B (.slice A0 q c0)) W wr ∧ St wr s p A n c xs B)
  case atStart =>
    have hb1 : Below W.heap.size W (W.alloc (.cells #[.int .i64 0, .int .i64 0, .int .i64 0] 41)) := (Below.refl _ _).alloc (Nat.le_refl _) _
    exact ⟨0, rfl, Nat.zero_le _, fun j h => absurd h (by omega), Blk.new _ _ _, own_below HO.out hb1, Chg.of_below hb1, HS.out.chg HOL.out (Chg.of_below (R := fun _ => False) hb1) (fun _ h => h.elim) (HS.out.memo.keep hb1)⟩
  case round =>
    obtain ⟨k, hgk, hkp, hno, hbl, hro, hcg, hsw⟩ := hrel
    have HGK := hid hgk; have HKP := hid hkp; have HNO := hid hno; have HBL := hid hbl; have HRO := hid hro; have HCG := hid hcg; have HSW := hid hsw
    have c0' := hbl.cell 0
    have c1' := hbl.cell 1
    have c2' := hbl.cell 2
    have f0' := hbl.free 0
    simp at c0' c1' c2'
    have h60 : k ≤ 60 := by have := HPP.out; omega
    have hD := hid (HD2.out k h60 wr hsw)
    have hbd := HB2.out k
    clear hgk hkp hno hbl hro hcg hsw
    by_cases hlt : dim2L p (sel n f xs) k < d
    · have hlt' : decide (dim2L p (sel n f xs) k < (d : Int)) = true := decide_eq_true hlt
      have hk1 := hid (HPB.out k hlt HKP.out)
      have HLT := hid hlt
      have hDD := hid (show ∀ w2, wr.grownBy w2 (some B) → Memo Try.prog 3 w2 B (OKd p n xs) → Blk w2 W.heap.size 41 #[.int .i64 k, .int .i64 0, .int .i64 0] ∧ w2.ownsRow base 41 3 (.slice A0 q c0) q (flatN ts) ∧ Chg (Rt B (.slice A0 q c0)) W w2 ∧ St w2 s p A n c xs B from fun w2 g2 m2 => by
        have hBW : W.heap.size ≠ B := by have := HOL.out.B; have := HB.out; omega
        refine ⟨HBL.out.grown g2 (by simpa using hBW), HRO.out.kept g2 ?_, HCG.out.trans (Chg.of_grow g2 (.inl rfl)), HSW.out.grown g2 m2⟩
        cases hv : (Value.slice A0 q c0).ownBlock with
        | none => exact .inl rfl
        | some g => exact .inr (by have := (HRO.out.lt g hv).1; have := HOL.out.B; intro e; cases e; omega))
      clear hlt c1' c2'
      go_wp2_with fail
      refine (hD.out).mono ?_; rintro e w2 ⟨rfl, g2, m2⟩
      obtain ⟨hb2, hr2, hc2, hs2⟩ := hDD.out w2 g2 m2
      have d0' := hb2.cell 0
      have e0' := hb2.free 0
      simp at d0'
      have HB3 := hid hb2; have HR3 := hid hr2; have HC3 := hid hc2; have HS3 := hid hs2
      clear g2 m2 c0' f0' hb2 hr2 hc2 hs2
      go_wp2
      go_roundg (ptL p (sel n f xs) d - (k + 1))
      case measure => have := HGK.out; have := hk1.out; omega
      case rel =>
        have hBA : ∀ g, (Value.slice A0 q c0).ownBlock = some g → W.heap.size ≠ g := fun g hg => by have := (HO.out.lt g hg).2; omega
        have hNO : ¬ Rt B (.slice A0 q c0) W.heap.size := fun r => by
          rcases r with r | r
          · have := HOL.out.B; have := HB.out; omega
          · exact hBA _ r rfl
        refine ⟨k + 1, rfl, hk1.out, fun j hj => ?_, ?_, own_far HR3.out hBA _, ?_, ?_⟩
        · by_cases e : j = k
          · subst e; exact HLT.out
          · exact HNO.out j (by omega)
        · have h := HB3.out.set 0 (.int .i64 ((k + 1 : Nat) : Int))
          exact h
        · exact HC3.out.setNew (Nat.le_refl _) _
        · exact HS3.out.far HOL.out HB.out _
    · have hlt' : decide (dim2L p (sel n f xs) k < (d : Int)) = false := decide_eq_false hlt
      have hE := HPT.out k (by omega) HKP.out HNO.out
      have HEE := hid hE
      have hDD := hid (show ∀ w2, wr.grownBy w2 (some B) → Memo Try.prog 3 w2 B (OKd p n xs) → Blk w2 W.heap.size 41 #[.int .i64 k, .int .i64 0, .int .i64 0] ∧ w2.ownsRow base 41 3 (.slice A0 q c0) q (flatN ts) ∧ Chg (Rt B (.slice A0 q c0)) W w2 ∧ St w2 s p A n c xs B from fun w2 g2 m2 => by
        have hBW : W.heap.size ≠ B := by have := HOL.out.B; have := HB.out; omega
        refine ⟨HBL.out.grown g2 (by simpa using hBW), HRO.out.kept g2 ?_, HCG.out.trans (Chg.of_grow g2 (.inl rfl)), HSW.out.grown g2 m2⟩
        cases hv : (Value.slice A0 q c0).ownBlock with
        | none => exact .inl rfl
        | some g => exact .inr (by have := (HRO.out.lt g hv).1; have := HOL.out.B; intro e; cases e; omega))
      have e0 := sel_split n f xs k false
      have e1 := sel_split n f xs k true
      have hdd0 : (d : Int) ≤ dimL p (split (sel n f xs) k false) ∧ (d : Int) ≤ dimL p (split (sel n f xs) k true) := by
        rcases dim2L_or p (sel n f xs) k with e | ⟨_, _, e⟩
        · omega
        · omega
      rw [e0, e1] at hdd0
      clear hlt c1' c2' hE
      go_wp2_with fail
      refine (hD.out).mono ?_; rintro e w2 ⟨rfl, g2, m2⟩
      obtain ⟨hb2, hr2, hc2, hs2⟩ := hDD.out w2 g2 m2
      have HB3 := hid hb2; have HR3 := hid hr2; have HC3 := hid hc2; have HS3 := hid hs2
      clear g2 m2 c0' f0' hb2 hr2 hc2 hs2
      go_wp2
      have S0 := hid fun W' (hW : St W' s p A n c xs B) => saidS s p A n c xs B f k false ⟨by omega, by omega⟩ hn W' hW.sch
      have S1 := hid fun W' (hW : St W' s p A n c xs B) => saidS s p A n c xs B f k true ⟨by omega, by omega⟩ hn W' hW.sch
      rw [show (if false = true then (1 : Int) else 0) = 0 from rfl] at S0
      rw [show (if true = true then (1 : Int) else 0) = 1 from rfl] at S1
      generalize (fun i => f i && (bitB (at0 xs i) k == false)) = f0 at *
      generalize (fun i => f i && (bitB (at0 xs i) k == true)) = f1 at *
      have hs1 : IntKind.i64.wrap ((d : Int) + 1 - 1) = (d : Int) := by rw [IntKind.wrap_i64]; omega
      have hs2 : IntKind.i64.wrap (((d + 1 : Nat) : Int) - 1) = (d : Int) := by rw [IntKind.wrap_i64]; omega
      have hb2 := HB3.out
      have y0 := hb2.cell 0
      have y1 := hb2.cell 1
      have y2 := hb2.cell 2
      simp at y0 y1 y2
      have hz2 : base ≤ w2.heap.size := by have := HC3.out.size; have := HB.out; omega
      obtain ⟨i0, hi, hz0, hz1, hzz⟩ := info_parts TN.inf
      have HS3d := hid HS3.out.drew
      have HR3d := hid (own_drew HR3.out)
      have HC3d := hid HC3.out.drew
      have HB3d := hid HB3.out.drew
      have hb2a := hb2.alloc (.cells #[.int .i64 k, .int .i64 0, .int .i64 0] 41)
      clear hb2 hlt'
      have HD0 := hid hdd0.1
      have HD1 := hid hdd0.2
      have hs3 : IntKind.i64.wrap (d : Int) = (d : Int) := by rw [IntKind.wrap_i64]; omega
      have h2d : q + 1 + 2 ^ d ≤ 1000 := by have := Nat.two_pow_pos d; rw [Nat.pow_succ] at hq1; omega
      have H2D := hid h2d
      have HTS := hid (show (ts ++ [(⟨k, 0, 0⟩ : Nd)]).length = q + 1 by simp [hq])
      clear hdd0 h2d
      have hq1000 : q ≤ 1000 := by have := Nat.two_pow_pos (d + 1); omega
      have HBA := hid (show ∀ g, (Value.slice A0 q c0).ownBlock = some g → W.heap.size ≠ g from fun g hg => by have := (HO.out.lt g hg).2; omega)
      have HP4 := hid (show ∀ g cap w4, (w2.drew.alloc (.cells #[.int .i64 k, .int .i64 0, .int .i64 0] 41)).grownBy w4 (Value.slice A0 q c0).ownBlock → ((Value.slice A0 q c0).ownBlock = some g ∨ g = (w2.drew.alloc (.cells #[.int .i64 k, .int .i64 0, .int .i64 0] 41)).heap.size) →
          Blk w4 W.heap.size 41 #[.int .i64 k, .int .i64 0, .int .i64 0] ∧ St w4 s p A n c xs B ∧ Chg (Rt B (.slice A0 q c0)) W w4 ∧ Same W (.slice A0 q c0) (.slice (some ⟨g, 0, none⟩) (q + 1) cap) ∧ base ≤ w4.heap.size ∧ W.heap.size ≠ g ∧ W.heap.size < w4.heap.size from fun g cap w4 hg hat => by
        have hal : Chg (Rt B (.slice A0 q c0)) w2 (w2.drew.alloc (.cells #[.int .i64 k, .int .i64 0, .int .i64 0] 41)) := Chg.of_below ((Below.refl w2.heap.size w2).drew.alloc (Nat.le_refl _) _)
        have hgg : Chg (Rt B (.slice A0 q c0)) (w2.drew.alloc (.cells #[.int .i64 k, .int .i64 0, .int .i64 0] 41)) w4 := ⟨hg.os, hg.tape, hg.output, hg.size, fun i hi hr => hg.block i hi (fun e => hr (.inr e.symm))⟩
        have hsz := hg.size
        have hz1 := HC3.out.size
        have hnb := HB3.out.lt
        simp at hsz
        refine ⟨(HB3d.out.alloc _).grown hg (fun e => HBA.out _ e.symm rfl), (HS3d.out.alloc _).chg HOL.out hgg (fun i hi => ?_) ((HS3d.out.alloc (.cells #[.int .i64 k, .int .i64 0, .int .i64 0] 41)).memo.grown hg (fun e => ?_)), (HC3.out.trans hal).trans hgg, ?_, by omega, ?_, by omega⟩
        · rcases hi with hi | hi
          · exact .inl hi
          · exact .inr (HO.out.lt i hi).1
        · have h1 := (HO.out.lt B e.symm).1
          have h2 := HOL.out.B
          omega
        · rcases hat with h | h
          · exact .inl h.symm
          · exact .inr ⟨g, rfl, by rw [h]; simp; omega⟩
        · rcases hat with h | h
          · exact HBA.out g h
          · rw [h]; simp; omega)
      have HG := hid fun W' t' q' ts' h1 h2 h3 h4 h5 h6 => IH f0 W' t' q' ts' h1 h2 h3 h4 h5 h6
      have HG1 := hid fun W' t' q' ts' h1 h2 h3 h4 h5 h6 => IH f1 W' t' q' ts' h1 h2 h3 h4 h5 h6
      have ya := hb2a.cell 0
      simp at ya
      go_cut [3] from 30 to 46 (fun t wx => Blk wx W.heap.size 41 #[.int .i64 k, .int .i64 (rootI d ((q : Int) + 1)), .int .i64 0] ∧ wx.ownsRow base 41 3 t (q + 1 + (2 ^ d - 1)) (flatN (ts ++ [⟨k, 0, 0⟩] ++ growL p d ((q : Int) + 1) (sel n f0 xs))) ∧ Same W (.slice A0 q c0) t ∧ Chg (Rt B (.slice A0 q c0)) W wx ∧ St wx s p A n c xs B ∧ (∀ g, t.ownBlock = some g → W.heap.size ≠ g))
      case first =>
       go_region_law
         ((first
           | (go_simp; go_at_call 75; refine (S0.out _ (by first | exact HS3d.out | exact HS3d.out.alloc _ | exact HS4.out)).mono ?_; rintro e w3 ⟨rfl, rfl⟩)
           | (refine step_append_lies _ rfl (.tmp 39) (.tmp 41) 35 rfl base 41 i0 (.agg #[.int .i64 0, .int .i64 0, .int .i64 0]) 3 24 TN.und hi hz0 hz1 hzz TN.zc TN.sz (.slice A0 q c0) q (flatN ts) rfl (HR3d.out.alloc _) ⟨w2.heap.size, 0, none⟩ 1 1 (#[.int .i64 k, .int .i64 0, .int .i64 0] : Array Value).toList rfl rfl (cells_new _ _ _) (by simp [Value.oneCell']) (by decide) (by unfold maxLen; omega) (by omega) (by simp; omega) _ rfl ?_; intro g cap w4 hown4 hgrow4 hat4 hlt4
              have hp4 := HP4.out g cap w4 hgrow4 hat4
              have hk4 : w4.cell? ⟨W.heap.size, 0, none⟩ = some (.int .i64 k) := hp4.1.cell 0
              have k0 := hp4.1.cell 0
              simp at k0
              have HS4 := hid hp4.2.1
              have HP5 := hid hp4
              have HO4 := hid hown4
              clear hp4 hown4 hgrow4 hat4 hlt4)
           | (go_simp
              go_at_call 56
              try rw [hs3]
              refine (HG.out _ _ (q + 1) (ts ++ [⟨k, 0, 0⟩]) HD0.out HTS.out H2D.out HS4.out HP5.out.2.2.2.2.1 (by rw [flatN_app]; exact HO4.out)).mono ?_
              rintro e w5 ⟨t5, rfl, ho5, hs5, hc5, hst5⟩
              have hb5 : Blk w5 W.heap.size 41 #[.int .i64 k, .int .i64 0, .int .i64 0] := (hc5.block _ HP5.out.2.2.2.2.2.2 (fun r => by
                rcases r with r | r
                · have := HOL.out.B; have := HB.out; omega
                · cases r; exact HP5.out.2.2.2.2.2.1 rfl)).trans HP5.out.1
              have hk5 : w5.cell? ⟨W.heap.size, 0, none⟩ = some (.int .i64 k) := hb5.cell 0
              have z1 := hb5.cell 1
              have g1 := hb5.free 1
              simp at z1
              have HB5 := hid hb5
              have HO5 := hid ho5
              have HS5 := hid (HP5.out.2.2.2.1.next hs5 (HP5.out.2.2.1.size))
              have HC5 := hid (HP5.out.2.2.1.next HP5.out.2.2.2.1 hc5)
              have HST5 := hid hst5
              have HN5 := hid (show ∀ g', t5.ownBlock = some g' → W.heap.size ≠ g' from fun g' hg' => by
                rcases hs5 with h | ⟨g2, h, hg2⟩
                · rw [h] at hg'; cases hg'; exact HP5.out.2.2.2.2.2.1
                · rw [h] at hg'; cases hg'; have := HP5.out.2.2.2.2.2.2; omega)
              clear hb5 ho5 hs5 hc5 hst5)))
       all_goals (go_wp2_with fail)
       all_goals go_meet
       all_goals (case rel => exact ⟨HB5.out.set 1 _, own_far HO5.out HN5.out _, HS5.out, HC5.out.setNew (Nat.le_refl _) _, HST5.out.far HOL.out HB.out _, HN5.out⟩)
      case rest =>
        obtain ⟨hb6, ho6, hs6, hc6, hst6, hn6⟩ := hcut
        have z0 := hb6.cell 0
        have z1 := hb6.cell 1
        have z2 := hb6.cell 2
        have g2 := hb6.free 2
        simp at z0 z1 z2
        have SA := hid hst6
        have HLEN0 := hid (growL_len p d ((q : Int) + 1) (sel n f0 xs))
        have HQ1 := hid hq1
        go_wp2_with fail
        refine (S1.out _ SA.out).mono ?_; rintro e w6 ⟨rfl, rfl⟩
        go_wp2_with fail
        have HTS2 := hid (show (ts ++ [(⟨k, 0, 0⟩ : Nd)] ++ growL p d ((q : Int) + 1) (sel n f0 xs)).length = q + 1 + (2 ^ d - 1) by
          rw [List.length_append, HTS.out]; have := HLEN0.out; omega)
        have h3 := hid (show q + 1 + (2 ^ d - 1) + 2 ^ d ≤ 1000 by have := HQ1.out; rw [Nat.pow_succ] at this; have := Nat.two_pow_pos d; omega)
        have hbw := hid (show base ≤ wc.heap.size by have := hc6.size; have := HB.out; omega)
        have BC := hid hb6; have SC := hid hs6; have CC := hid hc6; have NC := hid hn6
        have HLB := hid hb6.lt
        refine (HG1.out _ _ _ _ HD1.out HTS2.out h3.out SA.out hbw.out ho6).mono ?_
        rintro e w7 ⟨t7, rfl, ho7, hs7, hc7, hst7⟩
        clear z0 z1 z2 g2 hb6 ho6 hs6 hc6 hst6 hn6
        have hb7 : Blk w7 W.heap.size 41 #[.int .i64 k, .int .i64 (rootI d ((q : Int) + 1)), .int .i64 0] := (hc7.block _ HLB.out (fun r => by
          rcases r with r | r
          · have := HOL.out.B; have := HB.out; omega
          · exact NC.out _ r rfl)).trans BC.out
        have z0 := hb7.cell 0
        have z1 := hb7.cell 1
        have z2 := hb7.cell 2
        have g2 := hb7.free 2
        simp at z0 z1 z2
        obtain ⟨g7, cap7, rfl, hg7b, hg7⟩ := ho7.form (by omega)
        have hng : W.heap.size ≠ g7 := by
          rcases hs7 with h | ⟨g2, h, hg2⟩
          · exact NC.out g7 h.symm
          · have e : g7 = g2 := Option.some.inj h
            have := HLB.out; omega
        have hro : rootI d (((q + 1 + (2 ^ d - 1) : Nat) : Int)) = rootI d ((q : Int) + 2 ^ d) := by
          have := Nat.two_pow_pos d
          have e : (((q + 1 + (2 ^ d - 1) : Nat) : Int)) = (q : Int) + ((2 ^ d : Nat) : Int) := by omega
          have e2 : ((2 ^ d : Nat) : Int) = (2 : Int) ^ d := by simp
          rw [e, e2]
        rw [hro]
        have OW := hid (own_far ho7 (a := ⟨W.heap.size, 2, none⟩) (fun g hg => by cases hg; exact hng) (.int .i64 (rootI d ((q : Int) + 2 ^ d))))
        have hcells : ∀ j, j < 3 → ∃ v, w7.cell? ⟨g7, q * 3 + j, none⟩ = some v := fun j hj => by
          have hlt : q * 3 + j < (q + 1 + (2 ^ d - 1) + (2 ^ d - 1)) * 3 := by omega
          rw [ho7.cellAt _ hlt]
          have hl := ho7.1
          exact ⟨_, List.getElem?_eq_getElem (by omega)⟩
        obtain ⟨v0, y0⟩ := hcells 0 (by decide)
        obtain ⟨v1, y1⟩ := hcells 1 (by decide)
        obtain ⟨v2, y2⟩ := hcells 2 (by decide)
        have x0 := ho7.frozenAt (q * 3 + 0)
        have x1 := ho7.frozenAt (q * 3 + 1)
        have x2 := ho7.frozenAt (q * 3 + 2)
        rw [Nat.add_zero] at y0 x0
        have ST := hid hst7; have CH := hid hc7; have SM := hid hs7; have B7 := hid hb7
        have hqlt : q < q + 1 + (2 ^ d - 1) + (2 ^ d - 1) := by omega
        have hng' : g7 ≠ W.heap.size := Ne.symm hng
        clear hcells hb7 ho7 hs7 hc7 hst7 hro
        have hLL : q + 1 + (2 ^ d - 1) + (2 ^ d - 1) = q + (2 ^ (d + 1) - 1) := by have := Nat.two_pow_pos d; rw [Nat.pow_succ]; omega
        have HLL := hid hLL
        clear hLL
        generalize hL : q + 1 + (2 ^ d - 1) + (2 ^ d - 1) = L at *
        clear hL
        go_wp2
        go_ret2
        have hrt : Rt B (.slice A0 q c0) g7 ∨ W.heap.size ≤ g7 := by
          rcases SC.out.next SM.out CC.out.size with h | ⟨g2, h, hg2⟩
          · exact .inl (.inr h.symm)
          · exact .inr (by have e : g7 = g2 := Option.some.inj h; omega)
        have s1 := (OW.out.stored (q * 3) (.int .i64 k)).1
        have s2 := (s1.stored (q * 3 + 1) (.int .i64 (rootI d ((q : Int) + 1)))).1
        have s3 := (s2.stored (q * 3 + 2) (.int .i64 (rootI d ((q : Int) + 2 ^ d)))).1
        refine ⟨_, rfl, ?_, SC.out.next SM.out CC.out.size, ((((CC.out.next SC.out CH.out).setNew (Nat.le_refl _) _).setR hrt _).setR hrt _).setR hrt _, (((ST.out.far HOL.out HB.out _).far HOL.out hg7b _).far HOL.out hg7b _).far HOL.out hg7b _⟩
        rw [← HLL.out]
        have hfl : flatN (ts ++ growL p (d + 1) q (sel n f xs)) = (((flatN (ts ++ [(⟨k, 0, 0⟩ : Nd)] ++ growL p d ((q : Int) + 1) (sel n f0 xs) ++ growL p d (((q + 1 + (2 ^ d - 1) : Nat) : Int)) (sel n f1 xs))).set (q * 3) (.int .i64 k)).set (q * 3 + 1) (.int .i64 (rootI d ((q : Int) + 1)))).set (q * 3 + 2) (.int .i64 (rootI d ((q : Int) + 2 ^ d))) := by
          have hge : (((q + 1 + (2 ^ d - 1) : Nat) : Int)) = (q : Int) + 2 ^ d := by
            have := Nat.two_pow_pos d
            have e2 : ((2 ^ d : Nat) : Int) = (2 : Int) ^ d := by simp
            omega
          have hset := flatN_set ts (growL p d ((q : Int) + 1) (sel n f0 xs) ++ growL p d ((q : Int) + 2 ^ d) (sel n f1 xs)) ⟨k, 0, 0⟩ ⟨k, rootI d ((q : Int) + 1), rootI d ((q : Int) + 2 ^ d)⟩
          rw [hq] at hset
          rw [hge]
          have hassoc : ts ++ [(⟨k, 0, 0⟩ : Nd)] ++ growL p d ((q : Int) + 1) (sel n f0 xs) ++ growL p d ((q : Int) + 2 ^ d) (sel n f1 xs) = ts ++ ⟨k, 0, 0⟩ :: (growL p d ((q : Int) + 1) (sel n f0 xs) ++ growL p d ((q : Int) + 2 ^ d) (sel n f1 xs)) := by simp
          rw [hassoc, hset]
          simp only [growL]
          rw [HEE.out, e0, e1]
        rw [hfl]
        exact s3
/-- grow appends the tree. -/
theorem growS (base s p : Nat) (A : Option Addr) (n c : Nat) (xs : List Int) (B : Nat) (hp : p ≤ 60) (hn : n ≤ 16) (OL : Old base s A n B) : ∀ d, d ≤ 6 → GrowTo base s p A n c xs B d := by
  intro d
  induction d with
  | zero => intro _; exact growZero base s p A n c xs B
  | succ d ih => intro hd; exact growStep base s p A n c xs B d hp hn (by omega) OL (ih (by omega))
end Go.Proofs.Ytpebglilphgamaa
