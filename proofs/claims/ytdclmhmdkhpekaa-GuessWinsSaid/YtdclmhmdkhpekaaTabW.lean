/- The reference's table in memory: what it is, how it is kept, where a key is found. Conditions: keys below a bound. -/
import Derived.Test.YtdclmhmdkhpekaaTab
import Derived.Test.YtdclmhmdkhpekaaWalkAfter
namespace Go.Proofs.Ytdclmhmdkhpekaa
open Go.RowKit

def barr (n : Nat) (f : Nat → Bool) : Array Value := ((List.range n).map fun i => Value.bool (f i)).toArray
theorem barr_get {n : Nat} {f : Nat → Bool} {i : Nat} (h : i < n) : (barr n f)[i]? = some (.bool (f i)) := by simp [barr, h]
theorem barr_size (n : Nat) (f : Nat → Bool) : (barr n f).size = n := by simp [barr]
theorem barr_upd {n : Nat} {f : Nat → Bool} {i : Nat} (v : Bool) : (barr n f).setIfInBounds i (.bool v) = barr n (upd f i v) := by
  apply Array.ext_getElem?
  intro j
  rw [Array.getElem?_setIfInBounds]
  by_cases hj : j < n
  · rw [barr_get hj]
    by_cases e : i = j
    · subst e; rw [if_pos rfl, if_pos (by rw [barr_size]; exact hj), barr_get hj]; simp [upd]
    · rw [if_neg e, barr_get hj]; simp [upd, show ¬ j = i from fun a => e a.symm]
  · have h1 : (barr n (upd f i v))[j]? = none := Array.getElem?_eq_none (by rw [barr_size]; omega)
    have h2 : (barr n f)[j]? = none := Array.getElem?_eq_none (by rw [barr_size]; omega)
    rw [h1]
    by_cases e : i = j
    · subst e; simp [barr_size, hj]
    · rw [if_neg e, h2]
theorem arr_upd {n : Nat} {f : Nat → Int} {i : Nat} (v : Int) : (arr n f).setIfInBounds i (.int .i64 v) = arr n (upd f i v) := arr_set v
theorem made_barr (n : Nat) : (madeCells (Value.bool false).cells (n * 1)).toList.toArray = barr n fun _ => false := by
  apply Array.ext_getElem?
  intro j
  by_cases hj : j < n
  · rw [barr_get hj]
    simp [madeCells, Value.cells, hj, Nat.mod_one]
  · have h1 : (barr n fun _ => false)[j]? = none := Array.getElem?_eq_none (by rw [barr_size]; omega)
    rw [h1]
    simp [madeCells, Value.cells]
    omega

/-- How big a key is at most. -/
def kMax : Nat := 305000000
structure TabA (OK : Int → Bool → Prop) (w : World) (mb g1 g2 N : Nat) (ks : Nat → Int) (ws : Nat → Bool) (L : List Int) : Prop where
  bm : Blk w mb 114 #[.slice (some ⟨g1, 0, none⟩) N N, .slice (some ⟨g2, 0, none⟩) N N, .int .i64 (L.length : Nat)]
  bk : Blk w g1 3 (arr N ks)
  bw : Blk w g2 4 (barr N ws)
  pw : ∃ e, 10 ≤ e ∧ e ≤ 30 ∧ N = 2 ^ e
  half : 2 * L.length ≤ N
  good : Good N ks L
  tru : ∀ i, i < N → ks i ≠ 0 → OK (ks i) (ws i)
/-- What is true of a key is true of keys in bounds. -/
def Bounds (OK : Int → Bool → Prop) : Prop := ∀ k b, OK k b → 0 < k ∧ k < kMax
section
variable {OK : Int → Bool → Prop} {w w' : World} {mb g1 g2 N : Nat} {ks : Nat → Int} {ws : Nat → Bool} {L : List Int}
theorem blk_ne {b c : Nat} {t t' : TypeId} {cs cs' : Array Value} (h : Blk w b t cs) (h' : Blk w c t' cs') (ht : t ≠ t') : b ≠ c := by
  intro e
  subst e
  unfold Blk at h h'
  rw [h] at h'
  injection h' with h'
  injection h' with _ h' _
  exact ht h'
theorem TabA.m1 (h : TabA OK w mb g1 g2 N ks ws L) : mb ≠ g1 := blk_ne h.bm h.bk (by decide)
theorem TabA.m2 (h : TabA OK w mb g1 g2 N ks ws L) : mb ≠ g2 := blk_ne h.bm h.bw (by decide)
theorem TabA.k2 (h : TabA OK w mb g1 g2 N ks ws L) : g1 ≠ g2 := blk_ne h.bk h.bw (by decide)
theorem TabA.nbd (h : TabA OK w mb g1 g2 N ks ws L) : 1024 ≤ N ∧ N ≤ 1073741824 := by
  obtain ⟨e, h1, h2, rfl⟩ := h.pw
  have a := Nat.pow_le_pow_right (show 0 < 2 by decide) h1
  have b := Nat.pow_le_pow_right (show 0 < 2 by decide) h2
  have c : 2 ^ 10 = 1024 := by decide
  have d : 2 ^ 30 = 1073741824 := by decide
  omega
theorem TabA.keep (h : TabA OK w mb g1 g2 N ks ws L) (hb : Below w.heap.size w w') : TabA OK w' mb g1 g2 N ks ws L := ⟨h.bm.keep hb, h.bk.keep hb, h.bw.keep hb, h.pw, h.half, h.good, h.tru⟩
theorem TabA.drewN (h : TabA OK w mb g1 g2 N ks ws L) (k : Nat) : TabA OK (w.drewN k) mb g1 g2 N ks ws L := ⟨h.bm.drewN k, h.bk.drewN k, h.bw.drewN k, h.pw, h.half, h.good, h.tru⟩
end
theorem wrap_nat {x : Nat} (h : x < 9223372036854775808) : IntKind.i64.wrap (x : Int) = x := by
  rw [IntWalk.i64_in _ (by omega)]
theorem ofInt64 (a : Nat) (ha : a < 18446744073709551616) : (BitVec.ofInt 64 (a : Int)).toNat = a := by
  rw [BitVec.ofInt_natCast, BitVec.toNat_ofNat]; exact Nat.mod_eq_of_lt (by omega)
theorem i64_and (a b : Nat) (ha : a < 9223372036854775808) (hb : b < 9223372036854775808) : bits .and .i64 (a : Int) (b : Int) = ((a &&& b : Nat) : Int) := by
  have hx : a &&& b < 2 ^ 63 := Nat.and_lt_two_pow _ (by omega)
  show IntKind.i64.wrap ((BitVec.ofInt 64 (a : Int) &&& BitVec.ofInt 64 (b : Int)).toNat : Int) = _
  rw [BitVec.toNat_and, ofInt64 a (by omega), ofInt64 b (by omega), wrap_nat (by omega)]
theorem mask {a e : Nat} (ha : a < 9223372036854775808) (he : e ≤ 30) : bits .and .i64 (a : Int) (((2 ^ e : Nat) : Int) - 1) = ((a % 2 ^ e : Nat) : Int) := by
  have h1 := Nat.one_le_two_pow (n := e)
  have h2 := Nat.pow_le_pow_right (show 0 < 2 by decide) he
  have d : 2 ^ 30 = 1073741824 := by decide
  rw [show ((2 ^ e : Nat) : Int) - 1 = ((2 ^ e - 1 : Nat) : Int) by omega, i64_and _ _ ha (by omega), Nat.and_two_pow_sub_one_eq_mod]

set_option maxRecDepth 100000 in
set_option maxHeartbeats 2000000 in
theorem placeS (OK : Int → Bool → Prop) (mb g1 g2 N : Nat) (ks : Nat → Int) (ws : Nat → Bool) (L : List Int) (k : Int) (hk : 0 < k) (hkm : k < kMax) (w : World) (h : TabA OK w mb g1 g2 N ks ws L) :
    Calls Try.prog 87 #[.pointer (some ⟨mb, 0, none⟩), .int .i64 k] w fun e w' => (∃ t, Found N ks k t ∧ e = .returned (.int .i64 (slot N k t : Nat))) ∧ w = w' := by
  obtain ⟨T, hT, hz⟩ := h.good.stop (by have := h.half; have := h.nbd; omega) k
  have c0 := h.bm.cell 0
  simp only [List.getElem?_toArray, List.getElem?_cons_zero] at c0
  have hN := h.nbd
  have hkm' : k < 305000000 := hkm
  obtain ⟨e, he1, he2, hNe⟩ := h.pw
  have hm1 : bits .and .i64 (k * 2654435761) ((N : Int) - 1) = ((slot N k 0 : Nat) : Int) := by
    clear hkm
    obtain ⟨n, rfl⟩ := Int.eq_ofNat_of_zero_le (show 0 ≤ k by omega)
    have hn : n < 305000000 := by omega
    have e1 : ((n : Int) * 2654435761) = ((n * 2654435761 : Nat) : Int) := by rw [Int.natCast_mul]; rfl
    rw [e1, hNe, mask (by omega) he2]
    unfold slot
    rw [e1, Int.toNat_natCast, Nat.add_zero]
  have hm2 := hid fun t => (show bits .and .i64 ((slot N k t : Nat) + 1) ((N : Int) - 1) = ((slot N k (t + 1) : Nat) : Int) by
    have hlt := slot_lt (show 0 < N by omega) k t
    rw [← slot_succ, show ((slot N k t : Nat) : Int) + 1 = ((slot N k t + 1 : Nat) : Int) by omega]
    generalize slot N k t = s at *
    subst hNe
    exact mask (by omega) he2)
  have HC := hid fun t => (show w.cell? ⟨g1, slot N k t, none⟩ = some (.int .i64 (ks (slot N k t))) by
    rw [h.bk.cell, arr_get (slot_lt (by omega) k t)])
  have HS := hid fun t => slot_lt (show 0 < N by omega) k t
  have HZ := hid hz
  clear h hz hNe
  go_enter Try.func87, Try.ntmps87
  go_wp2
  go_loopg [5] T (fun gk i wr => ∃ t : Nat, gk + t = T ∧ i = .int .i64 (slot N k t : Nat) ∧ (∀ s, s < t → ks (slot N k s) ≠ 0 ∧ ks (slot N k s) ≠ k) ∧ w = wr)
  case atStart => exact ⟨0, by omega, rfl, fun s h => absurd h (by omega), rfl⟩
  case round =>
    obtain ⟨t, ht, rfl, hno, rfl⟩ := hrel
    have HT := hid ht
    have HO := hid hno
    have cc := HC.out t
    have hs := HS.out t
    have h2 := hm2.out t
    clear ht hno
    by_cases h0 : ks (slot N k t) = 0
    · have F := hid (Found.mk HO.out (.inl h0))
      rw [h0] at cc
      clear h0
      go_wp2
      go_ret
      exact ⟨⟨t, F.out, rfl⟩, rfl⟩
    · have hn0 : (ks (slot N k t) != 0) = true := by rw [bne_iff_ne]; exact h0
      by_cases hkk : ks (slot N k t) = k
      · have hnk : (ks (slot N k t) != k) = false := by rw [hkk]; simp
        have F := hid (Found.mk HO.out (.inr hkk))
        clear h0 hkk
        go_wp2
        go_ret
        exact ⟨⟨t, F.out, rfl⟩, rfl⟩
      · have hnk : (ks (slot N k t) != k) = true := by rw [bne_iff_ne]; exact hkk
        have H0 := hid h0
        have HK := hid hkk
        have hne : t ≠ T := by intro e; subst e; exact h0 HZ.out
        have HN := hid hne
        clear h0 hkk hne
        go_wp2
        go_roundg (gk - 1)
        case measure => have := HT.out; have := HN.out; omega
        case rel =>
          refine ⟨t + 1, by have := HT.out; have := HN.out; omega, rfl, fun s hs => ?_, rfl⟩
          by_cases e : s = t
          · subst e; exact ⟨H0.out, HK.out⟩
          · exact HO.out s (by omega)
end Go.Proofs.Ytdclmhmdkhpekaa
