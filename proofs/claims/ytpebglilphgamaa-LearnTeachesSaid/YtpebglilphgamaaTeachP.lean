/- The plain law of keys: a key leaves its concept alone, and no part of it does; the walk of the closure that counts what is left. Condition: the slice reads as a class. -/
import Derived.Test.YtpebglilphgamaaLeft
import Derived.Test.YtpebglilphgamaaTeach
import Derived.Deep.RegionHeld3
namespace Go.Proofs.Ytpebglilphgamaa
open Go.RowKit

/-- The examples that a set of points makes of a concept. -/
def exL (s : Nat) (con : Int) : Nat → List (Int × Int)
  | 0 => []
  | k+1 => exL s con k ++ (if s.testBit k = true then [((k : Int), bitV con k)] else [])
theorem exL_len (s : Nat) (con : Int) : ∀ k, (exL s con k).length ≤ k := by
  intro k
  induction k with
  | zero => exact Nat.le_refl _
  | succ k ih =>
    simp only [exL, List.length_append]
    split <;> simp <;> omega
theorem exL_bad {p : Nat} (s : Nat) (con : Int) : ∀ k, k ≤ p → ∀ u ∈ exL s con k, exBad p u = false := by
  intro k
  induction k with
  | zero => intro _ u hu; simp [exL] at hu
  | succ k ih =>
    intro hk u hu
    simp only [exL, List.mem_append] at hu
    rcases hu with hu | hu
    · exact ih (by omega) u hu
    · split at hu
      · simp at hu
        subst hu
        have hb := bitV_bd con k
        have e1 : ¬ ((k : Int) < 0) := by omega
        have e2 : ¬ ((p : Int) ≤ (k : Int)) := by omega
        unfold exBad
        rcases (show bitV con k = 0 ∨ bitV con k = 1 by omega) with e | e <;> simp [e, e1, e2]
      · cases hu
theorem exL_exs {p : Nat} (hp : p ≤ 5) (s : Nat) (con : Int) : Exs p (exL s con p) :=
  ⟨by have := exL_len s con p; omega, fun _ u hu => exL_bad s con p (Nat.le_refl _) u (List.mem_of_getElem? hu)⟩
theorem leftL_sub (xs : List Int) (l : List (Int × Int)) : (leftL xs l).Sublist xs := by
  unfold leftL
  induction l generalizing xs with
  | nil => exact List.Sublist.refl _
  | cons u l ih => exact (ih _).trans List.filter_sublist
theorem mem_left {xs : List Int} {s : Nat} {con d : Int} : ∀ k, d ∈ leftL xs (exL s con k) ↔ d ∈ xs ∧ ∀ i, i < k → s.testBit i = true → bitB d i = bitB con i := by
  intro k
  induction k with
  | zero =>
    show d ∈ xs ↔ _
    exact ⟨fun h => ⟨h, fun i hi => absurd hi (by omega)⟩, fun h => h.1⟩
  | succ k ih =>
    simp only [exL]
    by_cases hb : s.testBit k = true
    · rw [if_pos hb, leftL_snoc, split_mem, ih]
      have e : ((bitV con k) == 1) = bitB con k := rfl
      rw [e]
      constructor
      · rintro ⟨⟨h1, h2⟩, h3⟩
        refine ⟨h1, fun i hi ht => ?_⟩
        rcases Nat.lt_or_ge i k with g | g
        · exact h2 i g ht
        · obtain rfl : i = k := by omega
          exact h3
      · rintro ⟨h1, h2⟩
        exact ⟨⟨h1, fun i hi ht => h2 i (by omega) ht⟩, h2 k (by omega) hb⟩
    · rw [if_neg hb, List.append_nil, ih]
      constructor
      · rintro ⟨h1, h2⟩
        refine ⟨h1, fun i hi ht => ?_⟩
        rcases Nat.lt_or_ge i k with g | g
        · exact h2 i g ht
        · obtain rfl : i = k := by omega
          exact absurd ht hb
      · rintro ⟨h1, h2⟩
        exact ⟨h1, fun i hi ht => h2 i (by omega) ht⟩
/-- How many are left. -/
def lenL (p : Nat) (xs : List Int) (con : Int) (s : Nat) : Nat := (leftL xs (exL s con p)).length
theorem testBit_lt {p k i : Nat} (h : k < 2 ^ p) (hi : k.testBit i = true) : i < p := by
  rcases Nat.lt_or_ge i p with g | g
  · exact g
  · rw [Nat.testBit_lt_two_pow (Nat.lt_of_lt_of_le h (Nat.pow_le_pow_right (by decide) g))] at hi
    cases hi
theorem mem_agree {p s : Nat} {xs : List Int} {con d : Int} (hi : InP p xs) (hc : 0 ≤ con) (hs : s < 2 ^ p) : d ∈ leftL xs (exL s con p) ↔ d ∈ xs ∧ agree s d con = true := by
  rw [mem_left, agree_iff]
  constructor
  · rintro ⟨h1, h2⟩
    refine ⟨h1, fun i ht => ?_⟩
    have := h2 i (testBit_lt hs ht) ht
    rwa [bitB_nat (hi d h1).1, bitB_nat hc] at this
  · rintro ⟨h1, h2⟩
    refine ⟨h1, fun i _ ht => ?_⟩
    rw [bitB_nat (hi d h1).1, bitB_nat hc]
    exact h2 i ht
theorem nodup_one {l : List Int} {c : Int} (h : l.Nodup) (hc : c ∈ l) (ha : ∀ d ∈ l, d = c) : l.length = 1 := by
  match l, h, hc, ha with
  | [_], _, _, _ => rfl
  | a :: b :: l, h, _, ha =>
    have e1 := ha a (by simp)
    have e2 := ha b (by simp)
    simp [e1, e2] at h
theorem lenL_key {p : Nat} (hp : p < 6) {xs : List Int} (hi : InP p xs) (hpw : xs.Pairwise (· < ·)) {con : Int} (hc : con ∈ xs) : lenL p xs con (keyL p xs con) = 1 := by
  have hlt := keyL_lt hp hi (hi con hc)
  have hok := keyOK_iff.1 (keyL_ok hp hi (hi con hc))
  have hnd : xs.Nodup := hpw.imp fun h => by omega
  refine nodup_one (c := con) (hnd.sublist (leftL_sub _ _)) ?_ ?_
  · exact (mem_agree hi (hi con hc).1 hlt).2 ⟨hc, agree_self _ _⟩
  · intro d hd
    obtain ⟨h1, h2⟩ := (mem_agree hi (hi con hc).1 hlt).1 hd
    by_cases e : d = con
    · exact e
    · have := hok d h1 e
      rw [h2] at this; cases this
/-- A set without one of its points. -/
def clr (k x : Nat) : Nat := k &&& (18446744073709551615 - 2 ^ x)
theorem clr_sz : ∀ k, k < 32 → ∀ x, x < 5 → k.testBit x = true → sz (clr k x) + 1 = sz k ∧ clr k x < k := by decide +kernel
theorem lenL_part {p : Nat} (hp : p < 6) {xs : List Int} (hi : InP p xs) {con : Int} (hc : con ∈ xs) {x : Nat} (hx : x < p) (hb : (keyL p xs con).testBit x = true) : 2 ≤ lenL p xs con (clr (keyL p xs con) x) := by
  have hlt := keyL_lt hp hi (hi con hc)
  have h32 := le32 hp hlt
  obtain ⟨h1, h2⟩ := clr_sz _ h32 x (by omega) hb
  have hcl : clr (keyL p xs con) x < 2 ^ p := by omega
  have hcm : con ∈ leftL xs (exL (clr (keyL p xs con) x) con p) := (mem_agree hi (hi con hc).1 hcl).2 ⟨hc, agree_self _ _⟩
  rcases Nat.lt_or_ge (lenL p xs con (clr (keyL p xs con) x)) 2 with g | g
  · exfalso
    have hall : ∀ d ∈ leftL xs (exL (clr (keyL p xs con) x) con p), d = con := by
      unfold lenL at g
      generalize leftL xs (exL (clr (keyL p xs con) x) con p) = l at *
      match l, hcm, g with
      | [], hcm, _ => cases hcm
      | [a], hcm, _ => intro d hd; simp at hd hcm; rw [hd, hcm]
    have hok : keyOK xs con (clr (keyL p xs con) x) = true := by
      rw [keyOK_iff]
      intro d hd hne
      cases ha : agree (clr (keyL p xs con) x) d con
      · rfl
      · exact absurd (hall d ((mem_agree hi (hi con hc).1 hcl).2 ⟨hd, ha⟩)) hne
    have := (keyL_min hp hi (hi con hc) hcl hok).1
    omega
  · exact g

theorem below_drew1 {B : Nat} {a w : World} (h : Below B a w) : Below B a w.drew := ⟨h.os, h.tape, h.output, h.size, h.block⟩
theorem flat_snoc2 (l : List (Int × Int)) (u : Int × Int) : flat (l ++ [u]) = flat l ++ [.int .i64 u.1, .int .i64 u.2] := by
  unfold flat; rw [List.flatMap_append]; rfl

attribute [local go_sem ↓] shr_v and_shr

set_option maxRecDepth 100000 in
set_option maxHeartbeats 4000000 in
theorem leftCl (p : Nat) (A : Option Addr) (n c : Nat) (xs : List Int) (H : Cls p xs) (con : Int) (s B0 B1 B2 : Nat) (W : World) (h0 : Blk W B0 3 #[.int .i64 p]) (h1 : Blk W B1 22 #[.slice A n c]) (h2 : Blk W B2 3 #[.int .i64 con]) (hs : Sl W A n c (xs.map (Value.int .i64))) :
    Calls Try.prog 48 #[.int .i64 s, .pointer (some ⟨B0, 0, none⟩), .pointer (some ⟨B2, 0, none⟩), .pointer (some ⟨B1, 0, none⟩)] W fun e w' => e = .returned (.int .i64 ((lenL p xs con s : Nat) : Int)) ∧ Below W.heap.size W w' := by
  have hn := hs.numlen
  have hp5 : p ≤ 5 := by have := H.p5; omega
  have e1 := take_min20 hn (by have := H.n16; omega)
  have e3 : min n 20 = n := Nat.min_eq_left (by have := H.n16; omega)
  have HL := hid fun W' (hb : Below W.heap.size W W') => lawList A n c xs W' (hs.below hb)
  rw [e1, e3] at HL
  have HLF := hid fun A' c' E m' d' W' (s1 : Sl W' A' n c' (xs.map (Value.int .i64))) (s2 : Sl2 W' E m' d' (exL s con p)) => leftOk p A' n c' xs H E m' d' _ (exL_exs hp5 s con) W' s1 s2
  have HLN := hid (show ∀ k, exL s con (k + 1) = exL s con k ++ (if s.testBit k = true then [((k : Int), bitV con k)] else []) from fun _ => rfl)
  have HLE := hid fun k => exL_len s con k
  have HLL := hid (show lenL p xs con s = (leftL xs (exL s con p)).length from rfl)
  generalize lenL p xs con s = N at *
  have y0 := h0.cell 0
  have y1 := h1.cell 0
  have y2 := h2.cell 0
  simp at y0 y1 y2
  have l0 := h0.lt; have l1 := h1.lt; have l2 := h2.lt
  have HC := hid (show ∀ W', Below W.heap.size W W' → W'.cell? ⟨B0, 0, none⟩ = some (.int .i64 p) ∧ W'.cell? ⟨B1, 0, none⟩ = some (.slice A n c) ∧ W'.cell? ⟨B2, 0, none⟩ = some (.int .i64 con) from fun W' hb =>
    ⟨(hb.cell (p := ⟨B0, 0, none⟩) l0).trans y0, (hb.cell (p := ⟨B1, 0, none⟩) l1).trans y1, (hb.cell (p := ⟨B2, 0, none⟩) l2).trans y2⟩)
  clear h0 h1 h2 hs hn e1 e3 H l0 l1 l2 y1 y2
  go_enter Try.func48, Try.ntmps48
  go_wp2
  clear y0
  go_loopg [6, 11] p (fun gk o i wr => ∃ k : Nat, gk + k = p ∧ i = .int .i64 k ∧ (∃ A' m c', o = .slice A' m c' ∧ wr.ownsRow W.heap.size 42 2 (.slice A' m c') m (flat (exL s con k))) ∧ Below W.heap.size W wr)
  case atStart => exact ⟨0, by omega, rfl, ⟨none, 0, 0, rfl, World.ownsRow_nil _ _ _ _⟩, Below.refl _ _⟩
  case round =>
    obtain ⟨k, hk, rfl, ⟨A', m, c', rfl, ho⟩, hb⟩ := hrel
    have HK := hid hk; clear hk
    have hz := hid hb.size
    have HO := hid ho
    have hm : m ≤ 5 := by
      have h1 := HLE.out k
      have h2 : (exL s con k).length = m := by have h3 := ho.1; have h4 := flat_len (exL s con k); omega
      have := HK.out; omega
    have HB := hid hb
    clear ho hb
    by_cases hlt : k < p
    · have hf : Fits (k : Int) := ⟨by omega, by omega⟩
      have h5 : k < 5 := by omega
      have hbit : (bitV (s : Int) k == 1) = s.testBit k := by
        have := bitB_nat (c := (s : Int)) (by omega) k
        rw [Int.toNat_natCast] at this
        exact this
      have hS := hid (HLN.out k)
      cases hv : s.testBit k with
      | true =>
        rw [hv] at hbit hS
        have y2 := (HC.out wr HB.out).2.2
        have HSN := hid (flat_snoc2 (exL s con k) ((k : Int), bitV con k))
        clear hv
        go_wp2_with (at_builtin; refine push1 TP wr #[.int .i64 (k : Int), .int .i64 (bitV con k)] _ m _ _ HO.out _ _ rfl rfl rfl rfl rfl (by simp [Value.oneCell']) (by omega) (by omega) hz.out ?_; intro v1 w1 hown1 hgr; have hb1 : Below W.heap.size W w1 := below_push HB.out HO.out hgr hz.out (Nat.le_refl _))
        obtain ⟨A1, c1, rfl⟩ := own_form hown1
        clear hgr y2
        go_wp2
        go_roundg (gk - 1)
        case measure => have := HK.out; omega
        case rel => exact ⟨k + 1, by have := HK.out; omega, by go_num, ⟨A1, m + 1, c1, rfl, by rw [hS.out, if_pos trivial, HSN.out]; simpa using hown1⟩, hb1⟩
      | false =>
        rw [hv] at hbit hS
        clear hv
        go_wp2
        go_roundg (gk - 1)
        case measure => have := HK.out; omega
        case rel => exact ⟨k + 1, by have := HK.out; omega, by go_num, ⟨A', m, c', rfl, by rw [hS.out, if_neg (by decide), List.append_nil]; exact HO.out⟩, HB.out⟩
    · obtain rfl : k = p := by have := HK.out; omega
      have yy := HC.out wr HB.out
      have y0 := yy.1
      have y1 := yy.2.1
      have HE := hid (Sl2.of_own HO.out)
      clear yy hlt
      go_wp2
      have HBd := hid (below_drew1 HB.out)
      have HEd := hid (show Sl2 wr.drew A' m c' (exL s con k) from ⟨HE.out.len, HE.out.cap, HE.out.capm, HE.out.pos⟩)
      go_region_held3 (fun w' => w'.cell? ⟨B0, 0, none⟩ = some (.int .i64 (k : Int)) ∧ w'.cell? ⟨B1, 0, none⟩ = some (.slice A n c)) (first | assumption | go_keep)
        ((first
          | (go_at_call 17
             refine (HL.out _ HBd.out).mono ?_
             rintro e w2 ⟨A2, c2, rfl, o2, b2⟩
             have B2w := hid (below_call HBd.out b2 HBd.out.size)
             have k2 : w2.cell? ⟨B0, 0, none⟩ = some (.int .i64 (k : Int)) ∧ w2.cell? ⟨B1, 0, none⟩ = some (.slice A n c) := ⟨(HC.out w2 B2w.out).1, (HC.out w2 B2w.out).2.1⟩
             have S2 := hid (Sl.of_own o2)
             have E2 := hid (show Sl2 w2 A' m c' (exL s con k) from HEd.out.below b2)
             clear o2 b2)
          | (have _h := S2.out
             go_at_call 16
             refine (HLF.out _ _ _ _ _ _ S2.out E2.out).mono ?_
             rintro e w3 ⟨A3, k3, c3, rfl, s3, b3⟩
             have B3w := hid (below_call B2w.out b3 B2w.out.size)
             have k3' : w3.cell? ⟨B0, 0, none⟩ = some (.int .i64 (k : Int)) ∧ w3.cell? ⟨B1, 0, none⟩ = some (.slice A n c) := ⟨(HC.out w3 B3w.out).1, (HC.out w3 B3w.out).2.1⟩
             have L3 := hid s3.numlen
             clear s3 b3)))
      go_wp2
      go_ret
      exact ⟨ret_i (by rw [show N = k3 from HLL.out.trans L3.out]), B3w.out⟩
end Go.Proofs.Ytpebglilphgamaa
