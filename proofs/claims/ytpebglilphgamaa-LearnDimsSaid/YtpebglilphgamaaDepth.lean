/- Walk of the reference's look at a tree, and of its depth. Conditions: the slices read as a class and as nodes. -/
import Derived.Test.YtpebglilphgamaaCheckM
import Derived.Test.YtpebglilphgamaaRef
namespace Go.Proofs.Ytpebglilphgamaa
open Go.RowKit Go.Maps

/-- n flags as cells. -/
def bools (n : Nat) (f : Nat → Bool) : Array Value := ((List.range n).map fun i => Value.bool (f i)).toArray
theorem bools_get {n : Nat} {f : Nat → Bool} {i : Nat} (h : i < n) : (bools n f)[i]? = some (.bool (f i)) := by simp [bools, h]
theorem bools_size (n : Nat) (f : Nat → Bool) : (bools n f).size = n := by simp [bools]
theorem bools_set {n : Nat} {f : Nat → Bool} {i : Nat} : (bools n f).setIfInBounds i (.bool true) = bools n (updB f i) := by
  apply Array.ext_getElem?
  intro j
  rw [Array.getElem?_setIfInBounds]
  by_cases hj : j < n
  · rw [bools_get hj, bools_get hj, bools_size]
    unfold updB
    by_cases e : i = j
    · subst e; simp [hj]
    · rw [if_neg e, if_neg (Ne.symm e)]
  · have hz : ∀ g : Nat → Bool, (bools n g)[j]? = none := fun g => Array.getElem?_eq_none (by rw [bools_size]; omega)
    rw [hz, hz, bools_size]
    by_cases e : i = j
    · subst e; simp [hj]
    · rw [if_neg e]
/-- A slice lies in another block. -/
def Far (A : Option Addr) (n M : Nat) : Prop := 0 < n → ∀ b o s, A = some ⟨b, o, s⟩ → b ≠ M
theorem Sl.grownA {w w' : World} {A : Option Addr} {n c M : Nat} {xs : List Value} (h : Sl w A n c xs) (hg : w.grownBy w' (some M)) (hf : Far A n M) : Sl w' A n c xs :=
  ⟨h.len, h.cap, h.capm, fun hn => by
    obtain ⟨b, o, e, hb, hc⟩ := h.pos hn
    refine ⟨b, o, e, Nat.lt_of_lt_of_le hb hg.size, fun j u hu => ?_⟩
    exact (World.cell?_of_block (a := ⟨b, o + j, none⟩) (hg.block b hb (by have := hf hn _ _ _ e; simpa using this))).trans (hc j u hu)⟩
theorem Sl3.grownA {w w' : World} {A : Option Addr} {n c M : Nat} {ts : List Nd} (h : Sl3 w A n c ts) (hg : w.grownBy w' (some M)) (hf : Far A n M) : Sl3 w' A n c ts :=
  ⟨h.len, h.cap, h.capm, fun hn => by
    obtain ⟨b, o, e, hb, hc⟩ := h.pos hn
    have hk := hg.block b hb (by have := hf hn _ _ _ e; simpa using this)
    refine ⟨b, o, e, Nat.lt_of_lt_of_le hb hg.size, fun j u hu => ?_⟩
    exact ⟨(World.cell?_of_block (a := ⟨b, o + j * 3, none⟩) hk).trans (hc j u hu).1, (World.cell?_of_block (a := ⟨b, o + (j * 3 + 1), none⟩) hk).trans (hc j u hu).2.1, (World.cell?_of_block (a := ⟨b, o + (j * 3 + 2), none⟩) hk).trans (hc j u hu).2.2⟩⟩
theorem own_apart {w : World} {base M : Nat} {e : TypeId} {size n c : Nat} {A : Option Addr} {xs : List Value} (h : w.ownsRow base e size (.slice A n c) n xs) (hM : M < base) : Far A n M := by
  intro _ b o s hA
  rcases h.2 with ⟨hv, _⟩ | ⟨g, cap, cur, hv, hb, _⟩
  · subst hA; simp at hv
  · subst hA; simp at hv
    omega
theorem grow_set (w : World) (M i : Nat) (v : Value) : w.grownBy (w.setCell ⟨M, i, none⟩ v) (some M) :=
  ⟨rfl, rfl, rfl, by simp, fun k _ hk => Below.heap_setCell w ⟨M, i, none⟩ v k (by intro e; exact hk (by rw [e]))⟩

/-- What is met behind both parts of a node. -/
def stp (p : Nat) (ts : List Nd) (d : Nat) (r : Int) (u : Nd) (xs : List Int) (met : Nat → Bool) : Nat → Option (Nat → Bool)
  | 0 => some met
  | 1 => if badNext ts d r u.zero = true then none else fitsL p ts d u.zero (split xs u.pt false) met
  | _ => (if badNext ts d r u.zero = true then none else fitsL p ts d u.zero (split xs u.pt false) met).bind fun m => if badNext ts d r u.one = true then none else fitsL p ts d u.one (split xs u.pt true) m
theorem fitsL_stp {p : Nat} {ts : List Nd} {d : Nat} {r : Int} {xs : List Int} {met : Nat → Bool} (h : ¬ (met r.toNat = true ∨ (nd ts r).pt < 0 ∨ (p : Int) ≤ (nd ts r).pt)) :
    fitsL p ts (d + 1) r xs met = stp p ts d r (nd ts r) xs (updB met r.toNat) 2 := by
  simp only [fitsL, stp]
  rw [if_neg h]
  split <;> rfl
def FitTo (p L : Nat) (T : Option Addr) (k : Nat) (ts : List Nd) (M d : Nat) : Prop :=
  ∀ (A : Option Addr) (n c : Nat) (xs : List Int) (r : Int) (met : Nat → Bool) (W : World), n ≤ 1000 → Sl W A n c (xs.map (Value.int .i64)) → Sl3 W T L k ts → Blk W M 4 (bools L met) → Far A n M → Far T L M → (d = 0 ∨ 0 ≤ r ∧ r < L) →
    Calls Try.prog 64 #[.int .i64 p, .slice A n c, .slice T L k, .int .i64 r, .int .i64 d, .slice (some ⟨M, 0, none⟩) L L] W fun e w' =>
      e = .returned (.bool (fitsL p ts d r xs met).isSome) ∧ W.grownBy w' (some M) ∧ ∀ m, fitsL p ts d r xs met = some m → Blk w' M 4 (bools L m)

set_option maxRecDepth 100000 in
set_option maxHeartbeats 1000000 in
theorem fitZero (p L : Nat) (T : Option Addr) (k : Nat) (ts : List Nd) (M : Nat) : FitTo p L T k ts M 0 := by
  intro A n c xs r met W hn hs h3 hb hf hT hc
  have hl := hs.numlen
  have HB := hid hb
  by_cases h0 : n = 0
  · have hx : xs = [] := List.eq_nil_of_length_eq_zero (by omega)
    have g : decide ((0 : Int) < (n : Int)) = false := decide_eq_false (by omega)
    have g2 : decide (0 < n) = false := decide_eq_false (by omega)
    have hE : fitsL p ts 0 r xs met = none := by simp [fitsL, hx]
    rw [hE]
    clear hE hx h0 hb hc hl
    go_enter Try.func64, Try.ntmps64
    go_wp2
    go_ret
    exact ⟨rfl, grow_refl _ _, fun t h => by cases h⟩
  · have hx : xs ≠ [] := by rintro rfl; simp at hl; omega
    have g : decide ((0 : Int) < (n : Int)) = true := decide_eq_true (by omega)
    have g2 : decide (0 < n) = true := decide_eq_true (by omega)
    have hE : fitsL p ts 0 r xs met = some met := by simp [fitsL, hx]
    rw [hE]
    clear hE hx h0 hb hc hl
    go_enter Try.func64, Try.ntmps64
    go_wp2
    go_ret
    exact ⟨rfl, grow_refl _ _, fun t h => by cases h; exact HB.out⟩

set_option maxRecDepth 100000 in
set_option maxHeartbeats 4000000 in
theorem fitStep0 (p L : Nat) (T : Option Addr) (k : Nat) (ts : List Nd) (M d : Nat) (hp : p ≤ 60) (hd : d ≤ 60) (hd0 : d = 0) (IH : FitTo p L T k ts M d) : FitTo p L T k ts M (d + 1) := by
  intro A n c xs r met W hn hs h3 hb hf hT hc
  have hle := h3.len_le
  have hl := h3.len
  obtain ⟨i, rfl⟩ := Int.eq_ofNat_of_zero_le (show 0 ≤ r by rcases hc with a | a; omega; exact a.1)
  have hi : i < L := by rcases hc with a | a; omega; omega
  obtain ⟨b, o, rfl, lb, _, a0, a1, a2⟩ := h3.at (k := i) hi
  have a1' : W.cell? ⟨b, o + i * 3 + 1, none⟩ = some (.int .i64 (nd ts i).zero) := a1
  have a2' : W.cell? ⟨b, o + i * 3 + 2, none⟩ = some (.int .i64 (nd ts i).one) := a2
  have m0 : W.cell? ⟨M, i, none⟩ = some (.bool (met i)) := (hb.cell i).trans (bools_get hi)
  have m1 : W.frozen? ⟨M, i, none⟩ = false := hb.free i
  have e0 : (((d + 1 : Nat) : Int) == 0) = false := by rw [beq_eq_false_iff_ne]; omega
  have e00 : (((d : Int) + 1) == 0) = false := by rw [beq_eq_false_iff_ne]; omega
  have hE0 := fitsL_stp (p := p) (ts := ts) (d := d) (r := (i : Int)) (xs := xs) (met := met)
  rw [Int.toNat_natCast] at hE0
  have hN : met i = true ∨ (nd ts (i : Int)).pt < 0 ∨ (p : Int) ≤ (nd ts (i : Int)).pt → fitsL p ts (d + 1) i xs met = none := fun h => by
    simp only [fitsL]; rw [if_pos (by rw [Int.toNat_natCast]; exact h)]
  clear a1 a2 hc
  generalize hnd : nd ts (i : Int) = u at *
  obtain ⟨pt, ze, on⟩ := u
  simp only at a0 a1' a2' hE0 hN
  have HL := hid hl
  cases hm : met i with
  | true =>
    rw [hN (.inl hm)]
    rw [hm] at m0
    clear hN hE0 hm hs h3 hb hf hT hl
    go_enter Try.func64, Try.ntmps64
    go_wp2
    go_ret
    exact ⟨rfl, grow_refl _ _, fun t h => by cases h⟩
  | false =>
  rw [hm] at m0
  by_cases c1 : pt < 0
  · have c1' : decide (pt < 0) = true := decide_eq_true c1
    rw [hN (.inr (.inl c1))]
    clear hN hE0 hm hs h3 hb hf hT hl c1
    go_enter Try.func64, Try.ntmps64
    go_wp2
    go_ret
    exact ⟨rfl, grow_refl _ _, fun t h => by cases h⟩
  have c1' : decide (pt < 0) = false := decide_eq_false c1
  by_cases c2 : (p : Int) ≤ pt
  · have c2' : decide ((p : Int) ≤ pt) = true := decide_eq_true c2
    rw [hN (.inr (.inr c2))]
    clear hN hE0 hm hs h3 hb hf hT hl c2 c1
    go_enter Try.func64, Try.ntmps64
    go_wp2
    go_ret
    exact ⟨rfl, grow_refl _ _, fun t h => by cases h⟩
  obtain ⟨x, rfl⟩ := Int.eq_ofNat_of_zero_le (show 0 ≤ pt by omega)
  have c2' : decide ((p : Int) ≤ (x : Int)) = false := decide_eq_false c2
  have c2'' : decide (p ≤ x) = false := decide_eq_false (by omega)
  rw [hE0 (by rintro (a | a | a); rw [hm] at a; cases a; exact c1 a; exact c2 a)]
  have HSt := hid (show ∀ q, stp p ts d i ⟨x, ze, on⟩ xs (updB met i) q = stp p ts d i ⟨x, ze, on⟩ xs (updB met i) q from fun _ => rfl)
  have S1d : stp p ts d i ⟨x, ze, on⟩ xs (updB met i) 1 = if badNext ts d i ze = true then none else fitsL p ts d ze (split xs x false) (updB met i) := rfl
  have S2d : stp p ts d i ⟨x, ze, on⟩ xs (updB met i) 2 = (stp p ts d i ⟨x, ze, on⟩ xs (updB met i) 1).bind fun m => if badNext ts d i on = true then none else fitsL p ts d on (split xs x true) m := rfl
  have S0d : stp p ts d i ⟨x, ze, on⟩ xs (updB met i) 0 = some (updB met i) := rfl
  generalize stp p ts d i ⟨x, ze, on⟩ xs (updB met i) = st at *
  clear HSt
  have hW1 := hb.set i (.bool true)
  rw [bools_set] at hW1
  have hg1 := grow_set W M i (.bool true)
  have hMb : b ≠ M := hT (by omega) _ _ _ rfl
  have fx : Fits (x : Int) := ⟨by omega, by omega⟩
  have f0 : (W.setCell ⟨M, i, none⟩ (.bool true)).cell? ⟨b, o + i * 3, none⟩ = some (.int .i64 (x : Int)) := (World.cell?_of_block (a := ⟨b, o + i * 3, none⟩) (hg1.block b lb (by simpa using hMb))).trans a0
  have f1 : (W.setCell ⟨M, i, none⟩ (.bool true)).cell? ⟨b, o + i * 3 + 1, none⟩ = some (.int .i64 ze) := (World.cell?_of_block (a := ⟨b, o + i * 3 + 1, none⟩) (hg1.block b lb (by simpa using hMb))).trans a1'
  have f2 : (W.setCell ⟨M, i, none⟩ (.bool true)).cell? ⟨b, o + i * 3 + 2, none⟩ = some (.int .i64 on) := (World.cell?_of_block (a := ⟨b, o + i * 3 + 2, none⟩) (hg1.block b lb (by simpa using hMb))).trans a2'
  have HS := hid hs; have H3 := hid h3; have HF := hid hf; have HT := hid hT; have HN := hid hn
  have HSt := hid (show ∀ q, (W.setCell ⟨M, i, none⟩ (.bool true)).drewN q = (W.setCell ⟨M, i, none⟩ (.bool true)).drewN q from fun _ => rfl)
  have HW1 := hid (show ∀ q, Blk ((W.setCell ⟨M, i, none⟩ (.bool true)).drewN q) M 4 (bools L (updB met i)) from fun q => hW1.drewN q)
  have HG1 := hid (show ∀ q, W.grownBy ((W.setCell ⟨M, i, none⟩ (.bool true)).drewN q) (some M) from fun q => ⟨hg1.os, hg1.tape, hg1.output, hg1.size, hg1.block⟩)
  have HS0 := hid S0d; have HS1 := hid S1d; have HS2 := hid S2d
  have HMB := hid hMb
  have hsub : IntKind.i64.wrap (((d + 1 : Nat) : Int) - 1) = (d : Int) := by rw [IntKind.wrap_i64]; omega
  have hsub2 : IntKind.i64.wrap ((d : Int) + 1 - 1) = (d : Int) := by rw [IntKind.wrap_i64]; omega
  have hML : M < W.heap.size := hb.lt
  have HML := hid hML
  have d1 : (((d + 1 : Nat) : Int) == 1) = true := by rw [beq_iff_eq]; omega
  have d2 : (((d : Int) + 1) == 1) = true := by rw [beq_iff_eq]; omega
  have d3 : decide (1 < (d : Int) + 1) = false := decide_eq_false (by omega)
  have d4 : decide (1 < ((d + 1 : Nat) : Int)) = false := decide_eq_false (by omega)
  have d5 : decide (0 < (d : Int)) = false := decide_eq_false (by omega)
  have HD0 := hid hd0
  clear hN hE0 hs h3 hb hf hT hl hnd hm c1 c2 hg1 hW1 hn S0d S1d S2d HSt hMb hML hd0
  go_enter Try.func64, Try.ntmps64
  go_wp2_with fail
  go_quiet (fail)
  go_wp2
  have HWq := hid (HW1.out nq)
  have HGq := hid (HG1.out nq)
  have f0' : ((W.setCell ⟨M, i, none⟩ (.bool true)).drewN nq).cell? ⟨b, o + i * 3, none⟩ = some (.int .i64 (x : Int)) := f0
  go_loopg [55] 2 (fun gk j wr => ∃ q : Nat, gk + q = 2 ∧ j = .int .i64 q ∧ (∃ m, st q = some m ∧ Blk wr M 4 (bools L m)) ∧ W.grownBy wr (some M))
  case atStart => exact ⟨0, rfl, rfl, ⟨_, HS0.out, HWq.out⟩, HGq.out⟩
  case round =>
    obtain ⟨q, hq, rfl, ⟨m, hst, hbm⟩, hgr⟩ := hrel
    have HQ := hid hq; have HST := hid hst; have HBM := hid hbm; have HGR := hid hgr
    have hSr := HS.out.grownA hgr HF.out
    have h3r := H3.out.grownA hgr HT.out
    have fr0 : wr.cell? ⟨b, o + i * 3, none⟩ = some (.int .i64 (x : Int)) := (World.cell?_of_block (a := ⟨b, o + i * 3, none⟩) (hgr.block b lb (by simpa using HMB.out))).trans a0
    have hMr : M < wr.heap.size := by have := hgr.size; have := HML.out; omega
    have h3q : q = 0 ∨ q = 1 ∨ q = 2 := by omega
    clear hst hbm hgr
    rcases h3q with rfl | rfl | rfl
    · clear hq
      have xq : ∀ w : World, (Instr.index 42 (.agg #[.int .i64 ze, .int .i64 on]) (.int .i64 0)).run Try.prog w = .ok (.int .i64 ze) w := fun _ => by kernel_rfl
      have SP := hid (refSplit A n c xs x false fx HN.out wr hSr)
      rw [show (if false = true then (1 : Int) else 0) = 0 from rfl] at SP
      obtain rfl : m = updB met i := by have := HST.out; rw [HS0.out] at this; exact (Option.some.inj this).symm
      have hnone : ∀ (h : st 1 = none), st 2 = none := fun h => by rw [HS2.out, h]; rfl
      by_cases hbad : ze = -1
      case neg =>
        have q1 : (ze != -1) = true := by rw [bne_iff_ne]; exact hbad
        have hz : st 2 = none := hnone (by rw [HS1.out, if_pos (by unfold badNext; rw [if_pos HD0.out]; exact q1)])
        have HZ := hid hz
        clear hz SP
        go_wp2
        go_ret
        exact ⟨by rw [HZ.out]; rfl, HGR.out, fun t h => by rw [HZ.out] at h; cases h⟩
      case pos =>
        have q1 : (ze != -1) = false := by rw [bne_eq_false_iff_eq]; exact hbad
        have hok : badNext ts d (i : Int) ze = false := by unfold badNext; rw [if_pos HD0.out]; exact q1
        have hin : d = 0 ∨ 0 ≤ ze ∧ ze < L := .inl HD0.out
        clear hbad
        have I0 := hid fun A2 q2 c2 W' (h1 : q2 ≤ 1000) h2 h3 h4 h5 => IH A2 q2 c2 (split xs x false) ze (updB met i) W' h1 h2 h3 h4 h5 HT.out hin
        have hs1 := HS1.out
        rw [hok, if_neg (by decide)] at hs1
        rw [← hs1] at I0
        have HK := hid hs1
        clear hs1 hok hin
        cases hr : st 1 with
        | none =>
          rw [hr] at I0
          simp only [Option.isSome_none] at I0
          have HZ := hid (hnone hr)
          clear hr
          go_wp2_with fail
          refine (SP.out).mono ?_; rintro e w2 ⟨A2, q2, c2, rfl, o2, b2⟩
          have hq2 : q2 ≤ 1000 := by have h1 := (Sl.of_own o2).numlen; have h2 := (split_self xs x false).length_le; have h3 := hSr.numlen; have := HN.out; omega
          have ss := Sl.of_own o2
          have hfar := own_apart o2 hMr
          have h32 := h3r.below b2
          have hb2 := HBM.out.keep b2
          have HG2 := hid (grow_trans HGR.out (grow_below b2 (r := some M)))
          clear o2 b2
          go_wp2_with fail
          refine (I0.out _ _ _ _ hq2 ss h32 hb2 hfar).mono ?_; rintro e w3 ⟨rfl, g3, k3⟩
          have HG3 := hid (grow_trans HG2.out g3)
          have HK3 := hid k3
          clear ss h32 hb2 hfar g3 k3 HG2
          go_wp2
          go_ret
          exact ⟨by rw [HZ.out]; rfl, HG3.out, fun t h => by rw [HZ.out] at h; cases h⟩
        | some m2 =>
          rw [hr] at I0
          simp only [Option.isSome_some] at I0
          have HR := hid hr
          clear hr
          go_wp2_with fail
          refine (SP.out).mono ?_; rintro e w2 ⟨A2, q2, c2, rfl, o2, b2⟩
          have hq2 : q2 ≤ 1000 := by have h1 := (Sl.of_own o2).numlen; have h2 := (split_self xs x false).length_le; have h3 := hSr.numlen; have := HN.out; omega
          have ss := Sl.of_own o2
          have hfar := own_apart o2 hMr
          have h32 := h3r.below b2
          have hb2 := HBM.out.keep b2
          have HG2 := hid (grow_trans HGR.out (grow_below b2 (r := some M)))
          clear o2 b2
          go_wp2_with fail
          refine (I0.out _ _ _ _ hq2 ss h32 hb2 hfar).mono ?_; rintro e w3 ⟨rfl, g3, k3⟩
          have HG3 := hid (grow_trans HG2.out g3)
          have HK3 := hid k3
          clear ss h32 hb2 hfar g3 k3 HG2
          go_wp2
          go_roundg 1
          case measure => have := HQ.out; omega
          case rel => exact ⟨1, by rfl, by go_num, ⟨m2, HR.out, HK3.out m2 rfl⟩, HG3.out⟩
    · clear hq
      have xq : ∀ w : World, (Instr.index 42 (.agg #[.int .i64 ze, .int .i64 on]) (.int .i64 1)).run Try.prog w = .ok (.int .i64 on) w := fun _ => by kernel_rfl
      have SP := hid (refSplit A n c xs x true fx HN.out wr hSr)
      rw [show (if true = true then (1 : Int) else 0) = 1 from rfl] at SP
      by_cases hbad : on = -1
      case neg =>
        have q1 : (on != -1) = true := by rw [bne_iff_ne]; exact hbad
        have hz : st 2 = none := by rw [HS2.out, HST.out]; simp only [Option.bind_some]; rw [if_pos (by unfold badNext; rw [if_pos HD0.out]; exact q1)]
        have HZ := hid hz
        clear hz SP
        go_wp2
        go_ret
        exact ⟨by rw [HZ.out]; rfl, HGR.out, fun t h => by rw [HZ.out] at h; cases h⟩
      case pos =>
        have q1 : (on != -1) = false := by rw [bne_eq_false_iff_eq]; exact hbad
        have hok : badNext ts d (i : Int) on = false := by unfold badNext; rw [if_pos HD0.out]; exact q1
        have hin : d = 0 ∨ 0 ≤ on ∧ on < L := .inl HD0.out
        clear hbad
        have I0 := hid fun A2 q2 c2 W' (h1 : q2 ≤ 1000) h2 h3 h4 h5 => IH A2 q2 c2 (split xs x true) on m W' h1 h2 h3 h4 h5 HT.out hin
        have hs1 := HS2.out
        rw [HST.out] at hs1
        simp only [Option.bind_some] at hs1
        rw [hok, if_neg (by decide)] at hs1
        rw [← hs1] at I0
        have HK := hid hs1
        clear hs1 hok hin
        cases hr : st 2 with
        | none =>
          rw [hr] at I0
          simp only [Option.isSome_none] at I0
          have HZ := hid hr
          clear hr
          go_wp2_with fail
          refine (SP.out).mono ?_; rintro e w2 ⟨A2, q2, c2, rfl, o2, b2⟩
          have hq2 : q2 ≤ 1000 := by have h1 := (Sl.of_own o2).numlen; have h2 := (split_self xs x true).length_le; have h3 := hSr.numlen; have := HN.out; omega
          have ss := Sl.of_own o2
          have hfar := own_apart o2 hMr
          have h32 := h3r.below b2
          have hb2 := HBM.out.keep b2
          have HG2 := hid (grow_trans HGR.out (grow_below b2 (r := some M)))
          clear o2 b2
          go_wp2_with fail
          refine (I0.out _ _ _ _ hq2 ss h32 hb2 hfar).mono ?_; rintro e w3 ⟨rfl, g3, k3⟩
          have HG3 := hid (grow_trans HG2.out g3)
          have HK3 := hid k3
          clear ss h32 hb2 hfar g3 k3 HG2
          go_wp2
          go_ret
          exact ⟨by rw [HZ.out]; rfl, HG3.out, fun t h => by rw [HZ.out] at h; cases h⟩
        | some m2 =>
          rw [hr] at I0
          simp only [Option.isSome_some] at I0
          have HR := hid hr
          clear hr
          go_wp2_with fail
          refine (SP.out).mono ?_; rintro e w2 ⟨A2, q2, c2, rfl, o2, b2⟩
          have hq2 : q2 ≤ 1000 := by have h1 := (Sl.of_own o2).numlen; have h2 := (split_self xs x true).length_le; have h3 := hSr.numlen; have := HN.out; omega
          have ss := Sl.of_own o2
          have hfar := own_apart o2 hMr
          have h32 := h3r.below b2
          have hb2 := HBM.out.keep b2
          have HG2 := hid (grow_trans HGR.out (grow_below b2 (r := some M)))
          clear o2 b2
          go_wp2_with fail
          refine (I0.out _ _ _ _ hq2 ss h32 hb2 hfar).mono ?_; rintro e w3 ⟨rfl, g3, k3⟩
          have HG3 := hid (grow_trans HG2.out g3)
          have HK3 := hid k3
          clear ss h32 hb2 hfar g3 k3 HG2
          go_wp2
          go_roundg 0
          case measure => have := HQ.out; omega
          case rel => exact ⟨2, by rfl, by go_num, ⟨m2, HR.out, HK3.out m2 rfl⟩, HG3.out⟩
    · have HZ := hid HST.out
      go_wp2
      go_ret
      exact ⟨by rw [HZ.out]; rfl, HGR.out, fun t h => by rw [HZ.out] at h; cases h; exact HBM.out⟩

set_option maxRecDepth 100000 in
set_option maxHeartbeats 4000000 in
theorem fitStep1 (p L : Nat) (T : Option Addr) (k : Nat) (ts : List Nd) (M d : Nat) (hp : p ≤ 60) (hd : d ≤ 60) (hd0 : 0 < d) (IH : FitTo p L T k ts M d) : FitTo p L T k ts M (d + 1) := by
  intro A n c xs r met W hn hs h3 hb hf hT hc
  have hle := h3.len_le
  have hl := h3.len
  obtain ⟨i, rfl⟩ := Int.eq_ofNat_of_zero_le (show 0 ≤ r by rcases hc with a | a; omega; exact a.1)
  have hi : i < L := by rcases hc with a | a; omega; omega
  obtain ⟨b, o, rfl, lb, _, a0, a1, a2⟩ := h3.at (k := i) hi
  have a1' : W.cell? ⟨b, o + i * 3 + 1, none⟩ = some (.int .i64 (nd ts i).zero) := a1
  have a2' : W.cell? ⟨b, o + i * 3 + 2, none⟩ = some (.int .i64 (nd ts i).one) := a2
  have m0 : W.cell? ⟨M, i, none⟩ = some (.bool (met i)) := (hb.cell i).trans (bools_get hi)
  have m1 : W.frozen? ⟨M, i, none⟩ = false := hb.free i
  have e0 : (((d + 1 : Nat) : Int) == 0) = false := by rw [beq_eq_false_iff_ne]; omega
  have e00 : (((d : Int) + 1) == 0) = false := by rw [beq_eq_false_iff_ne]; omega
  have hE0 := fitsL_stp (p := p) (ts := ts) (d := d) (r := (i : Int)) (xs := xs) (met := met)
  rw [Int.toNat_natCast] at hE0
  have hN : met i = true ∨ (nd ts (i : Int)).pt < 0 ∨ (p : Int) ≤ (nd ts (i : Int)).pt → fitsL p ts (d + 1) i xs met = none := fun h => by
    simp only [fitsL]; rw [if_pos (by rw [Int.toNat_natCast]; exact h)]
  clear a1 a2 hc
  generalize hnd : nd ts (i : Int) = u at *
  obtain ⟨pt, ze, on⟩ := u
  simp only at a0 a1' a2' hE0 hN
  have HL := hid hl
  cases hm : met i with
  | true =>
    rw [hN (.inl hm)]
    rw [hm] at m0
    clear hN hE0 hm hs h3 hb hf hT hl
    go_enter Try.func64, Try.ntmps64
    go_wp2
    go_ret
    exact ⟨rfl, grow_refl _ _, fun t h => by cases h⟩
  | false =>
  rw [hm] at m0
  by_cases c1 : pt < 0
  · have c1' : decide (pt < 0) = true := decide_eq_true c1
    rw [hN (.inr (.inl c1))]
    clear hN hE0 hm hs h3 hb hf hT hl c1
    go_enter Try.func64, Try.ntmps64
    go_wp2
    go_ret
    exact ⟨rfl, grow_refl _ _, fun t h => by cases h⟩
  have c1' : decide (pt < 0) = false := decide_eq_false c1
  by_cases c2 : (p : Int) ≤ pt
  · have c2' : decide ((p : Int) ≤ pt) = true := decide_eq_true c2
    rw [hN (.inr (.inr c2))]
    clear hN hE0 hm hs h3 hb hf hT hl c2 c1
    go_enter Try.func64, Try.ntmps64
    go_wp2
    go_ret
    exact ⟨rfl, grow_refl _ _, fun t h => by cases h⟩
  obtain ⟨x, rfl⟩ := Int.eq_ofNat_of_zero_le (show 0 ≤ pt by omega)
  have c2' : decide ((p : Int) ≤ (x : Int)) = false := decide_eq_false c2
  have c2'' : decide (p ≤ x) = false := decide_eq_false (by omega)
  rw [hE0 (by rintro (a | a | a); rw [hm] at a; cases a; exact c1 a; exact c2 a)]
  have HSt := hid (show ∀ q, stp p ts d i ⟨x, ze, on⟩ xs (updB met i) q = stp p ts d i ⟨x, ze, on⟩ xs (updB met i) q from fun _ => rfl)
  have S1d : stp p ts d i ⟨x, ze, on⟩ xs (updB met i) 1 = if badNext ts d i ze = true then none else fitsL p ts d ze (split xs x false) (updB met i) := rfl
  have S2d : stp p ts d i ⟨x, ze, on⟩ xs (updB met i) 2 = (stp p ts d i ⟨x, ze, on⟩ xs (updB met i) 1).bind fun m => if badNext ts d i on = true then none else fitsL p ts d on (split xs x true) m := rfl
  have S0d : stp p ts d i ⟨x, ze, on⟩ xs (updB met i) 0 = some (updB met i) := rfl
  generalize stp p ts d i ⟨x, ze, on⟩ xs (updB met i) = st at *
  clear HSt
  have hW1 := hb.set i (.bool true)
  rw [bools_set] at hW1
  have hg1 := grow_set W M i (.bool true)
  have hMb : b ≠ M := hT (by omega) _ _ _ rfl
  have fx : Fits (x : Int) := ⟨by omega, by omega⟩
  have f0 : (W.setCell ⟨M, i, none⟩ (.bool true)).cell? ⟨b, o + i * 3, none⟩ = some (.int .i64 (x : Int)) := (World.cell?_of_block (a := ⟨b, o + i * 3, none⟩) (hg1.block b lb (by simpa using hMb))).trans a0
  have f1 : (W.setCell ⟨M, i, none⟩ (.bool true)).cell? ⟨b, o + i * 3 + 1, none⟩ = some (.int .i64 ze) := (World.cell?_of_block (a := ⟨b, o + i * 3 + 1, none⟩) (hg1.block b lb (by simpa using hMb))).trans a1'
  have f2 : (W.setCell ⟨M, i, none⟩ (.bool true)).cell? ⟨b, o + i * 3 + 2, none⟩ = some (.int .i64 on) := (World.cell?_of_block (a := ⟨b, o + i * 3 + 2, none⟩) (hg1.block b lb (by simpa using hMb))).trans a2'
  have HS := hid hs; have H3 := hid h3; have HF := hid hf; have HT := hid hT; have HN := hid hn
  have HSt := hid (show ∀ q, (W.setCell ⟨M, i, none⟩ (.bool true)).drewN q = (W.setCell ⟨M, i, none⟩ (.bool true)).drewN q from fun _ => rfl)
  have HW1 := hid (show ∀ q, Blk ((W.setCell ⟨M, i, none⟩ (.bool true)).drewN q) M 4 (bools L (updB met i)) from fun q => hW1.drewN q)
  have HG1 := hid (show ∀ q, W.grownBy ((W.setCell ⟨M, i, none⟩ (.bool true)).drewN q) (some M) from fun q => ⟨hg1.os, hg1.tape, hg1.output, hg1.size, hg1.block⟩)
  have HS0 := hid S0d; have HS1 := hid S1d; have HS2 := hid S2d
  have HMB := hid hMb
  have hsub : IntKind.i64.wrap (((d + 1 : Nat) : Int) - 1) = (d : Int) := by rw [IntKind.wrap_i64]; omega
  have hsub2 : IntKind.i64.wrap ((d : Int) + 1 - 1) = (d : Int) := by rw [IntKind.wrap_i64]; omega
  have hML : M < W.heap.size := hb.lt
  have HML := hid hML
  have d1 : (((d + 1 : Nat) : Int) == 1) = false := by rw [beq_eq_false_iff_ne]; omega
  have d2 : (((d : Int) + 1) == 1) = false := by rw [beq_eq_false_iff_ne]; omega
  have d3 : decide (1 < (d : Int) + 1) = true := decide_eq_true (by omega)
  have d4 : decide (1 < ((d + 1 : Nat) : Int)) = true := decide_eq_true (by omega)
  have d5 : decide (0 < (d : Int)) = true := decide_eq_true (by omega)
  have HD0 := hid hd0
  clear hN hE0 hs h3 hb hf hT hl hnd hm c1 c2 hg1 hW1 hn S0d S1d S2d HSt hMb hML hd0
  go_enter Try.func64, Try.ntmps64
  go_wp2_with fail
  go_quiet (fail)
  go_wp2
  have HWq := hid (HW1.out nq)
  have HGq := hid (HG1.out nq)
  have f0' : ((W.setCell ⟨M, i, none⟩ (.bool true)).drewN nq).cell? ⟨b, o + i * 3, none⟩ = some (.int .i64 (x : Int)) := f0
  go_loopg [55] 2 (fun gk j wr => ∃ q : Nat, gk + q = 2 ∧ j = .int .i64 q ∧ (∃ m, st q = some m ∧ Blk wr M 4 (bools L m)) ∧ W.grownBy wr (some M))
  case atStart => exact ⟨0, rfl, rfl, ⟨_, HS0.out, HWq.out⟩, HGq.out⟩
  case round =>
    obtain ⟨q, hq, rfl, ⟨m, hst, hbm⟩, hgr⟩ := hrel
    have HQ := hid hq; have HST := hid hst; have HBM := hid hbm; have HGR := hid hgr
    have hSr := HS.out.grownA hgr HF.out
    have h3r := H3.out.grownA hgr HT.out
    have fr0 : wr.cell? ⟨b, o + i * 3, none⟩ = some (.int .i64 (x : Int)) := (World.cell?_of_block (a := ⟨b, o + i * 3, none⟩) (hgr.block b lb (by simpa using HMB.out))).trans a0
    have hMr : M < wr.heap.size := by have := hgr.size; have := HML.out; omega
    have h3q : q = 0 ∨ q = 1 ∨ q = 2 := by omega
    clear hst hbm hgr
    rcases h3q with rfl | rfl | rfl
    · clear hq
      have xq : ∀ w : World, (Instr.index 42 (.agg #[.int .i64 ze, .int .i64 on]) (.int .i64 0)).run Try.prog w = .ok (.int .i64 ze) w := fun _ => by kernel_rfl
      have SP := hid (refSplit A n c xs x false fx HN.out wr hSr)
      rw [show (if false = true then (1 : Int) else 0) = 0 from rfl] at SP
      obtain rfl : m = updB met i := by have := HST.out; rw [HS0.out] at this; exact (Option.some.inj this).symm
      have hnone : ∀ (h : st 1 = none), st 2 = none := fun h => by rw [HS2.out, h]; rfl
      by_cases hbad : ze ≤ (i : Int)
      case pos =>
        have q1 : decide (ze ≤ (i : Int)) = true := decide_eq_true hbad
        have hz : st 2 = none := hnone (by rw [HS1.out, if_pos (by unfold badNext; rw [if_neg (by have := HD0.out; omega), q1]; rfl)])
        have HZ := hid hz
        clear hz SP
        go_wp2
        go_ret
        exact ⟨by rw [HZ.out]; rfl, HGR.out, fun t h => by rw [HZ.out] at h; cases h⟩
      case neg =>
      have q1 : decide (ze ≤ (i : Int)) = false := decide_eq_false hbad
      by_cases hbad2 : (L : Int) ≤ ze
      case pos =>
        have q2 : decide ((L : Int) ≤ ze) = true := decide_eq_true hbad2
        have hz : st 2 = none := hnone (by rw [HS1.out, if_pos (by unfold badNext; rw [if_neg (by have := HD0.out; omega), q1, HL.out, q2]; rfl)])
        have HZ := hid hz
        clear hz SP
        go_wp2
        go_ret
        exact ⟨by rw [HZ.out]; rfl, HGR.out, fun t h => by rw [HZ.out] at h; cases h⟩
      case neg =>
        have q2 : decide ((L : Int) ≤ ze) = false := decide_eq_false hbad2
        have hok : badNext ts d (i : Int) ze = false := by unfold badNext; rw [if_neg (by have := HD0.out; omega), q1, HL.out, q2]; rfl
        have hin : d = 0 ∨ 0 ≤ ze ∧ ze < L := .inr ⟨by omega, by omega⟩
        clear hbad hbad2
        have I0 := hid fun A2 q2 c2 W' (h1 : q2 ≤ 1000) h2 h3 h4 h5 => IH A2 q2 c2 (split xs x false) ze (updB met i) W' h1 h2 h3 h4 h5 HT.out hin
        have hs1 := HS1.out
        rw [hok, if_neg (by decide)] at hs1
        rw [← hs1] at I0
        have HK := hid hs1
        clear hs1 hok hin
        cases hr : st 1 with
        | none =>
          rw [hr] at I0
          simp only [Option.isSome_none] at I0
          have HZ := hid (hnone hr)
          clear hr
          go_wp2_with fail
          refine (SP.out).mono ?_; rintro e w2 ⟨A2, q2, c2, rfl, o2, b2⟩
          have hq2 : q2 ≤ 1000 := by have h1 := (Sl.of_own o2).numlen; have h2 := (split_self xs x false).length_le; have h3 := hSr.numlen; have := HN.out; omega
          have ss := Sl.of_own o2
          have hfar := own_apart o2 hMr
          have h32 := h3r.below b2
          have hb2 := HBM.out.keep b2
          have HG2 := hid (grow_trans HGR.out (grow_below b2 (r := some M)))
          clear o2 b2
          go_wp2_with fail
          refine (I0.out _ _ _ _ hq2 ss h32 hb2 hfar).mono ?_; rintro e w3 ⟨rfl, g3, k3⟩
          have HG3 := hid (grow_trans HG2.out g3)
          have HK3 := hid k3
          clear ss h32 hb2 hfar g3 k3 HG2
          go_wp2
          go_ret
          exact ⟨by rw [HZ.out]; rfl, HG3.out, fun t h => by rw [HZ.out] at h; cases h⟩
        | some m2 =>
          rw [hr] at I0
          simp only [Option.isSome_some] at I0
          have HR := hid hr
          clear hr
          go_wp2_with fail
          refine (SP.out).mono ?_; rintro e w2 ⟨A2, q2, c2, rfl, o2, b2⟩
          have hq2 : q2 ≤ 1000 := by have h1 := (Sl.of_own o2).numlen; have h2 := (split_self xs x false).length_le; have h3 := hSr.numlen; have := HN.out; omega
          have ss := Sl.of_own o2
          have hfar := own_apart o2 hMr
          have h32 := h3r.below b2
          have hb2 := HBM.out.keep b2
          have HG2 := hid (grow_trans HGR.out (grow_below b2 (r := some M)))
          clear o2 b2
          go_wp2_with fail
          refine (I0.out _ _ _ _ hq2 ss h32 hb2 hfar).mono ?_; rintro e w3 ⟨rfl, g3, k3⟩
          have HG3 := hid (grow_trans HG2.out g3)
          have HK3 := hid k3
          clear ss h32 hb2 hfar g3 k3 HG2
          go_wp2
          go_roundg 1
          case measure => have := HQ.out; omega
          case rel => exact ⟨1, by rfl, by go_num, ⟨m2, HR.out, HK3.out m2 rfl⟩, HG3.out⟩
    · clear hq
      have xq : ∀ w : World, (Instr.index 42 (.agg #[.int .i64 ze, .int .i64 on]) (.int .i64 1)).run Try.prog w = .ok (.int .i64 on) w := fun _ => by kernel_rfl
      have SP := hid (refSplit A n c xs x true fx HN.out wr hSr)
      rw [show (if true = true then (1 : Int) else 0) = 1 from rfl] at SP
      by_cases hbad : on ≤ (i : Int)
      case pos =>
        have q1 : decide (on ≤ (i : Int)) = true := decide_eq_true hbad
        have hz : st 2 = none := by rw [HS2.out, HST.out]; simp only [Option.bind_some]; rw [if_pos (by unfold badNext; rw [if_neg (by have := HD0.out; omega), q1]; rfl)]
        have HZ := hid hz
        clear hz SP
        go_wp2
        go_ret
        exact ⟨by rw [HZ.out]; rfl, HGR.out, fun t h => by rw [HZ.out] at h; cases h⟩
      case neg =>
      have q1 : decide (on ≤ (i : Int)) = false := decide_eq_false hbad
      by_cases hbad2 : (L : Int) ≤ on
      case pos =>
        have q2 : decide ((L : Int) ≤ on) = true := decide_eq_true hbad2
        have hz : st 2 = none := by rw [HS2.out, HST.out]; simp only [Option.bind_some]; rw [if_pos (by unfold badNext; rw [if_neg (by have := HD0.out; omega), q1, HL.out, q2]; rfl)]
        have HZ := hid hz
        clear hz SP
        go_wp2
        go_ret
        exact ⟨by rw [HZ.out]; rfl, HGR.out, fun t h => by rw [HZ.out] at h; cases h⟩
      case neg =>
        have q2 : decide ((L : Int) ≤ on) = false := decide_eq_false hbad2
        have hok : badNext ts d (i : Int) on = false := by unfold badNext; rw [if_neg (by have := HD0.out; omega), q1, HL.out, q2]; rfl
        have hin : d = 0 ∨ 0 ≤ on ∧ on < L := .inr ⟨by omega, by omega⟩
        clear hbad hbad2
        have I0 := hid fun A2 q2 c2 W' (h1 : q2 ≤ 1000) h2 h3 h4 h5 => IH A2 q2 c2 (split xs x true) on m W' h1 h2 h3 h4 h5 HT.out hin
        have hs1 := HS2.out
        rw [HST.out] at hs1
        simp only [Option.bind_some] at hs1
        rw [hok, if_neg (by decide)] at hs1
        rw [← hs1] at I0
        have HK := hid hs1
        clear hs1 hok hin
        cases hr : st 2 with
        | none =>
          rw [hr] at I0
          simp only [Option.isSome_none] at I0
          have HZ := hid hr
          clear hr
          go_wp2_with fail
          refine (SP.out).mono ?_; rintro e w2 ⟨A2, q2, c2, rfl, o2, b2⟩
          have hq2 : q2 ≤ 1000 := by have h1 := (Sl.of_own o2).numlen; have h2 := (split_self xs x true).length_le; have h3 := hSr.numlen; have := HN.out; omega
          have ss := Sl.of_own o2
          have hfar := own_apart o2 hMr
          have h32 := h3r.below b2
          have hb2 := HBM.out.keep b2
          have HG2 := hid (grow_trans HGR.out (grow_below b2 (r := some M)))
          clear o2 b2
          go_wp2_with fail
          refine (I0.out _ _ _ _ hq2 ss h32 hb2 hfar).mono ?_; rintro e w3 ⟨rfl, g3, k3⟩
          have HG3 := hid (grow_trans HG2.out g3)
          have HK3 := hid k3
          clear ss h32 hb2 hfar g3 k3 HG2
          go_wp2
          go_ret
          exact ⟨by rw [HZ.out]; rfl, HG3.out, fun t h => by rw [HZ.out] at h; cases h⟩
        | some m2 =>
          rw [hr] at I0
          simp only [Option.isSome_some] at I0
          have HR := hid hr
          clear hr
          go_wp2_with fail
          refine (SP.out).mono ?_; rintro e w2 ⟨A2, q2, c2, rfl, o2, b2⟩
          have hq2 : q2 ≤ 1000 := by have h1 := (Sl.of_own o2).numlen; have h2 := (split_self xs x true).length_le; have h3 := hSr.numlen; have := HN.out; omega
          have ss := Sl.of_own o2
          have hfar := own_apart o2 hMr
          have h32 := h3r.below b2
          have hb2 := HBM.out.keep b2
          have HG2 := hid (grow_trans HGR.out (grow_below b2 (r := some M)))
          clear o2 b2
          go_wp2_with fail
          refine (I0.out _ _ _ _ hq2 ss h32 hb2 hfar).mono ?_; rintro e w3 ⟨rfl, g3, k3⟩
          have HG3 := hid (grow_trans HG2.out g3)
          have HK3 := hid k3
          clear ss h32 hb2 hfar g3 k3 HG2
          go_wp2
          go_roundg 0
          case measure => have := HQ.out; omega
          case rel => exact ⟨2, by rfl, by go_num, ⟨m2, HR.out, HK3.out m2 rfl⟩, HG3.out⟩
    · have HZ := hid HST.out
      go_wp2
      go_ret
      exact ⟨by rw [HZ.out]; rfl, HGR.out, fun t h => by rw [HZ.out] at h; cases h; exact HBM.out⟩

theorem fitS (p L : Nat) (T : Option Addr) (k : Nat) (ts : List Nd) (M : Nat) (hp : p ≤ 60) : ∀ d, d ≤ 60 → FitTo p L T k ts M d := by
  intro d
  induction d with
  | zero => intro _; exact fitZero p L T k ts M
  | succ d ih =>
    intro hd
    by_cases h0 : d = 0
    · exact fitStep0 p L T k ts M d hp (by omega) h0 (ih (by omega))
    · exact fitStep1 p L T k ts M d hp (by omega) (by omega) (ih (by omega))

theorem made_bools (n : Nat) : madeCells (Value.bool false).cells (n * 1) = bools n fun _ => false := by
  apply Array.ext_getElem?
  intro j
  by_cases hj : j < n
  · rw [bools_get hj]
    simp [madeCells, Value.cells, hj, Nat.mod_one]
  · have h1 : (bools n fun _ => false)[j]? = none := Array.getElem?_eq_none (by rw [bools_size]; omega)
    rw [h1]
    simp [madeCells]
    omega
theorem make_bools (n : Nat) (hn : n ≤ 140737488355328) (w : World) : (Instr.makeSlice 88 (.int .i64 n) (.int .i64 n)).run Try.prog w = .ok (.slice (some ⟨w.heap.size, 0, none⟩) n n) (w.alloc (.cells (bools n fun _ => false) 4)) := by
  have TB : TS Try.prog 88 4 1 1 (.bool false) := ⟨Try.underlying88, by kernel_rfl, rfl, by decide⟩
  obtain ⟨i, hi, hz0, hz1, hz2⟩ := info_parts TB.inf
  have h := run_make (P := Try.prog) w 88 4 i (.bool false) TB.und hi hz0 .i64 .i64 (n : Int) (n : Int) (by omega) (Int.le_refl _) (by rw [hz2]; omega) (by omega)
  rw [hz1, Int.toNat_natCast, made_bools] at h
  exact h

attribute [local go_sem ↓] shl_p2

set_option maxRecDepth 100000 in
set_option maxHeartbeats 2000000 in
theorem depthS (p : Nat) (A : Option Addr) (n c : Nat) (xs : List Int) (T : Option Addr) (L k : Nat) (ts : List Nd) (hL : L ≤ 140737488355327) (hn : n ≤ 1000) (hp : p ≤ 60) (w : World) (hs : Sl w A n c (xs.map (Value.int .i64))) (h3 : Sl3 w T L k ts) :
    Calls Try.prog 30 #[.int .i64 p, .slice A n c, .slice T L k] w fun e w' =>
      e = .returned (.tuple #[.int .i64 (((checkL p xs ts).getD 0 : Nat) : Int), .bool (checkL p xs ts).isSome]) ∧ Below w.heap.size w w' := by
  have hl3 := h3.len
  obtain ⟨B1, B2⟩ := bitLen_spec (m := L) (by omega)
  have hbl := bitLen_le (m := L) (k := 47) (by omega) (by omega)
  have hb0 : 0 < L → 0 < Lib.bitLen L := fun h => bitLen_pos h (by omega)
  have hE : checkL p xs ts = if L + 1 = 2 ^ Lib.bitLen L ∧ (fitsL p ts (Lib.bitLen L) 0 xs fun _ => false).isSome = true then some (Lib.bitLen L) else none := by
    unfold checkL
    rw [hl3]
    have e : fitsL p ts (Lib.bitLen L) (rootI (Lib.bitLen L) 0) xs (fun _ => false) = fitsL p ts (Lib.bitLen L) 0 xs fun _ => false := by
      unfold rootI
      by_cases h : Lib.bitLen L = 0
      · rw [if_pos h, h]; rfl
      · rw [if_neg h]
    rw [e]
  have HE := hid hE
  have hL0 : Lib.bitLen L = 0 ∨ 0 < L := by
    rcases Nat.eq_zero_or_pos L with z | z
    · left; rw [z]; exact bitLen_zero
    · exact .inr z
  have HF := hid (fitS p L T k ts w.heap.size hp (Lib.bitLen L) (by omega))
  have hLL := h3.len_le
  have HL0 := hid hL0
  have HS := hid hs; have H3 := hid h3
  generalize Lib.bitLen L = d at *
  have HB1 := hid B1; have HB2 := hid B2
  have hmk := make_bools L (by omega)
  have HPT := hid (Nat.pow_le_pow_right (show 0 < 2 by decide) hbl)
  clear hs h3 hE hL0 hl3 hb0 B1 B2
  go_enter Try.func30, Try.ntmps30
  go_wp2
  go_loopg [8] d (fun gk j wr => ∃ q : Nat, gk + q = d ∧ j = .int .i64 q ∧ w = wr)
  case atStart => exact ⟨0, by omega, rfl, rfl⟩
  case round =>
    obtain ⟨q, hq, rfl, rfl⟩ := hrel
    have HQ := hid hq
    have fq : Fits (q : Int) := ⟨by omega, by omega⟩
    have hq47 : q ≤ 47 := by omega
    have p2b : p2 (q : Int) ≤ 140737488355328 := by
      have h1 := Nat.pow_le_pow_right (show 0 < 2 by decide) hq47
      rw [p2_nat]; omega
    have p2a := p2_pos (q : Int)
    clear hq
    by_cases hlt : q < d
    · have g : decide (p2 (q : Int) - 1 < (L : Int)) = true := decide_eq_true (by have := HB2.out q hlt; rw [p2_nat]; omega)
      have HLT := hid hlt
      clear hlt
      go_wp2
      go_roundg (gk - 1)
      case measure => have := HQ.out; have := HLT.out; omega
      case rel => exact ⟨q + 1, by have := HQ.out; have := HLT.out; omega, by go_num, rfl⟩
    · obtain rfl : q = d := by have := HQ.out; omega
      have g : decide (p2 (q : Int) - 1 < (L : Int)) = false := decide_eq_false (by have := HB1.out; rw [p2_nat]; omega)
      clear hlt
      by_cases h1 : L + 1 = 2 ^ q
      · have g1 : ((L : Int) != p2 (q : Int) - 1) = false := by rw [bne_eq_false_iff_eq, p2_nat]; omega
        have HB := hid (show Blk (w.alloc (.cells (bools L fun _ => false) 4)) w.heap.size 4 (bools L fun _ => false) from Blk.new _ _ _)
        have HBW := hid ((Below.refl w.heap.size w).alloc (Nat.le_refl _) (.cells (bools L fun _ => false) 4))
        have HFA := hid (show Far A n w.heap.size from fun h b o s e => by
          obtain ⟨b', o', e', hlt, _⟩ := HS.out.pos h
          rw [e] at e'; cases e'; exact Nat.ne_of_lt hlt)
        have HFT := hid (show Far T L w.heap.size from fun h b o s e => by
          obtain ⟨b', o', e', hlt, _⟩ := H3.out.pos h
          rw [e] at e'; cases e'; exact Nat.ne_of_lt hlt)
        have HC := hid (HF.out A n c xs 0 (fun _ => false) _ hn (HS.out.alloc _) (H3.out.alloc _) HB.out HFA.out HFT.out (by rcases HL0.out with a | a; exact .inl a; exact .inr ⟨by omega, by omega⟩))
        cases hr : (fitsL p ts q 0 xs fun _ => false).isSome with
        | true =>
          have HZ := hid (show checkL p xs ts = some q by rw [HE.out, if_pos ⟨h1, hr⟩])
          rw [hr] at HC
          clear hr h1 HF HFA HFT HB
          go_wp2_with fail
          refine (HC.out).mono ?_; rintro e w3 ⟨rfl, g3, _⟩
          have HB3 := hid (HBW.out.grown g3 (by have := HBW.out.size; omega) fun k hk => by cases hk; exact Nat.le_refl _)
          clear g3
          go_wp2
          go_ret2
          exact ⟨by rw [HZ.out]; rfl, HB3.out⟩
        | false =>
          have HZ := hid (show checkL p xs ts = none by rw [HE.out, if_neg (fun h => by rw [hr] at h; cases h.2)])
          rw [hr] at HC
          clear hr h1 HF HFA HFT HB
          go_wp2_with fail
          refine (HC.out).mono ?_; rintro e w3 ⟨rfl, g3, _⟩
          have HB3 := hid (HBW.out.grown g3 (by have := HBW.out.size; omega) fun k hk => by cases hk; exact Nat.le_refl _)
          clear g3
          go_wp2
          go_ret2
          exact ⟨by rw [HZ.out]; rfl, HB3.out⟩
      · have g1 : ((L : Int) != p2 (q : Int) - 1) = true := by rw [bne_iff_ne, p2_nat]; omega
        have HZ := hid (show checkL p xs ts = none by rw [HE.out, if_neg (fun h => h1 h.1)])
        clear h1 HF
        go_wp2
        go_ret2
        exact ⟨by rw [HZ.out]; rfl, Below.refl _ _⟩
end Go.Proofs.Ytpebglilphgamaa
