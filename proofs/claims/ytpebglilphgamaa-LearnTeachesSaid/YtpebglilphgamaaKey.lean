/- Walk of key: the least of the smallest keys. Condition: a class, and one of the concepts in the set. -/
import Derived.Test.YtpebglilphgamaaMinF
import Derived.Test.YtpebglilphgamaaAskM
namespace Go.Proofs.Ytpebglilphgamaa
open Go.RowKit

/-- No other one of the first j concepts of the set agrees with concept i at the points k. -/
def aloneF (f : Nat → Bool) (xs : List Int) (i k : Nat) : Nat → Bool
  | 0 => true
  | j+1 => aloneF f xs i k j && (j == i || (!f j || !agree k (at0 xs j) (at0 xs i)))
theorem aloneF_iff {f : Nat → Bool} {xs : List Int} {i k : Nat} : ∀ n, aloneF f xs i k n = true ↔ ∀ j, j < n → j ≠ i → f j = true → agree k (at0 xs j) (at0 xs i) = false := by
  intro n
  induction n with
  | zero => exact ⟨fun _ j hj => absurd hj (by omega), fun _ => rfl⟩
  | succ n ih =>
    simp only [aloneF, Bool.and_eq_true, ih, Bool.or_eq_true, beq_iff_eq, Bool.not_eq_true']
    constructor
    · rintro ⟨h1, h2⟩ j hj hn hf
      by_cases e : j = n
      · subst e
        rcases h2 with h2 | h2 | h2
        · exact absurd h2 hn
        · rw [hf] at h2; cases h2
        · exact h2
      · exact h1 j (by omega) hn hf
    · intro h
      refine ⟨fun j hj hn hf => h j (by omega) hn hf, ?_⟩
      by_cases e : n = i
      · exact .inl e
      · cases hf : f n
        · exact .inr (.inl rfl)
        · exact .inr (.inr (h n (by omega) e hf))
theorem Cls.inP {p : Nat} {xs : List Int} (h : Cls p xs) : InP p xs := fun c hc => by
  obtain ⟨j, hj, rfl⟩ := mem_at0 hc
  have := h.rng j hj
  rw [p2_nat] at this
  have h2 : ((2 ^ p : Nat) : Int) = (2 : Int) ^ p := by simp
  omega
theorem asc_lt {xs : List Int} (h : ∀ j, j + 1 < xs.length → at0 xs j < at0 xs (j + 1)) {i j : Nat} (hij : i < j) (hj : j < xs.length) : at0 xs i < at0 xs j := by
  have h1 := h i (by omega)
  have h2 := asc_le h (j - (i + 1)) (i + 1) (by omega)
  have e : i + 1 + (j - (i + 1)) = j := by omega
  rw [e] at h2
  omega
theorem Cls.inj {p : Int} {xs : List Int} (h : Cls p xs) {i j : Nat} (hi : i < xs.length) (hj : j < xs.length) (e : at0 xs i = at0 xs j) : i = j := by
  rcases Nat.lt_trichotomy i j with g | g | g
  · have := asc_lt h.asc g hj; omega
  · exact g
  · have := asc_lt h.asc g hi; omega
theorem mem_sel {n : Nat} {f : Nat → Bool} {xs : List Int} {j : Nat} (hj : j < n) (hf : f j = true) : at0 xs j ∈ sel n f xs := by
  unfold sel
  rw [List.mem_map]
  exact ⟨j, by simp [hj, hf], rfl⟩
theorem alone_key {p : Int} {xs : List Int} (h : Cls p xs) {f : Nat → Bool} {i k : Nat} (hi : i < xs.length) : aloneF f xs i k xs.length = keyOK (sel xs.length f xs) (at0 xs i) k := by
  rw [Bool.eq_iff_iff, aloneF_iff, keyOK_iff]
  constructor
  · intro h1 d hd hn
    obtain ⟨j, hj, hf, rfl⟩ := sel_mem hd
    exact h1 j hj (fun e => hn (by rw [e])) hf
  · intro h1 j hj hn hf
    exact h1 _ (mem_sel hj hf) (fun e => hn (h.inj hj hi e))
/-- All keys below k. -/
def keysTo (f : Nat → Bool) (xs : List Int) (i n k : Nat) : List Nat := (List.range k).filter fun m => aloneF f xs i m n
theorem keysTo_succ (f : Nat → Bool) (xs : List Int) (i n k : Nat) : keysTo f xs i n (k + 1) = keysTo f xs i n k ++ (if aloneF f xs i k n then [k] else []) := by
  unfold keysTo
  rw [List.range_succ, List.filter_append]
  congr 1
  by_cases h : aloneF f xs i k n <;> simp [h]
theorem keysTo_len (f : Nat → Bool) (xs : List Int) (i n k : Nat) : (keysTo f xs i n k).length ≤ k := by
  have := List.length_filter_le (fun m => aloneF f xs i m n) (List.range k)
  simpa [keysTo] using this
theorem keysTo_mem {f : Nat → Bool} {xs : List Int} {i n k m : Nat} : m ∈ keysTo f xs i n k ↔ m < k ∧ aloneF f xs i m n = true := by
  simp [keysTo]
theorem Cls.p6 {p : Nat} {xs : List Int} (h : Cls p xs) : p < 6 := by have := h.p5; omega
theorem keysTo_ne {p : Nat} {xs : List Int} (h : Cls p xs) {f : Nat → Bool} {i : Nat} (hi : i < xs.length) : keysTo f xs i xs.length (2 ^ p) ≠ [] := by
  have hm : (2 ^ p - 1) ∈ keysTo f xs i xs.length (2 ^ p) := keysTo_mem.2 ⟨by have := Nat.two_pow_pos p; omega, by
    rw [alone_key h hi]
    exact keyOK_full (fun d hd => by obtain ⟨j, hj, _, rfl⟩ := sel_mem hd; exact h.inP _ (at0_mem' hj)) (h.inP _ (at0_mem' hi))⟩
  intro e
  rw [e] at hm
  cases hm
theorem sel_inP {p : Nat} {xs : List Int} (h : Cls p xs) (f : Nat → Bool) : InP p (sel xs.length f xs) := fun d hd => by
  obtain ⟨j, hj, _, rfl⟩ := sel_mem hd
  exact h.inP _ (at0_mem' hj)
theorem minOf_key {p : Nat} {xs : List Int} (h : Cls p xs) {f : Nat → Bool} {i : Nat} (hi : i < xs.length) :
    minOf (keysTo f xs i xs.length (2 ^ p)) (keysTo f xs i xs.length (2 ^ p)).length = keyL p (sel xs.length f xs) (at0 xs i) := by
  have hne := keysTo_ne h (f := f) hi
  have hm := keysTo_mem.1 (minOf_mem hne _ (Nat.le_refl _))
  refine keyL_uniq h.p6 (sel_inP h f) (h.inP _ (at0_mem' hi)) hm.1 (by rw [← alone_key h hi]; exact hm.2) fun m hm1 hm2 => ?_
  have hmem : m ∈ keysTo f xs i xs.length (2 ^ p) := keysTo_mem.2 ⟨hm1, by rw [alone_key h hi]; exact hm2⟩
  obtain ⟨j, hj, e⟩ := List.getElem_of_mem hmem
  have := minOf_le (ks := keysTo f xs i xs.length (2 ^ p)) _ j hj
  have e2 : (keysTo f xs i xs.length (2 ^ p)).getD j 0 = m := by simp [List.getD, hj, e]
  rw [e2] at this
  unfold lexlt at this
  omega
theorem and_agree {a b : Int} (ha : 0 ≤ a ∧ a < 4294967296) (hb : 0 ≤ b ∧ b < 4294967296) {k : Nat} (hk : k < 32) : (bits .and .i64 a (k : Int) != bits .and .i64 b (k : Int)) = !agree k a b := by
  obtain ⟨x, rfl⟩ := Int.eq_ofNat_of_zero_le ha.1
  obtain ⟨y, rfl⟩ := Int.eq_ofNat_of_zero_le hb.1
  rw [i64_and x k (by omega) (by omega), i64_and y k (by omega) (by omega)]
  unfold agree
  rw [Int.toNat_natCast, Int.toNat_natCast]
  by_cases e : x &&& k = y &&& k
  · simp [e]
  · have : ¬ ((x &&& k : Nat) : Int) = ((y &&& k : Nat) : Int) := by omega
    rw [bne_iff_ne.2 this]
    simp [e]
theorem bit_eq0 {n : Nat} (f : Nat → Bool) {j : Nat} (hj : j < n) : (bitV (mk n f) j == 0) = !f j := by
  have h1 := bitV_if (mk n f) j
  rw [mk_bitB f hj] at h1
  rw [h1]
  cases f j <;> rfl
theorem Cls.big {p : Nat} {xs : List Int} (h : Cls p xs) {j : Nat} (hj : j < xs.length) : 0 ≤ at0 xs j ∧ at0 xs j < 4294967296 := by
  have h1 := h.rng j hj
  have h2 := p2_le (k := p) (m := 5) h.p5
  have h3 : p2 5 = 32 := by decide
  omega

attribute [local go_sem ↓] shl_p2 shr_v and_shr

set_option maxRecDepth 100000 in
set_option maxHeartbeats 4000000 in
theorem keyS (s p : Nat) (A : Option Addr) (n c : Nat) (xs : List Int) (B : Nat) (f : Nat → Bool) (i : Nat) (hi : i < n) (C : Cls p xs) (w : World) (hs : Sch w s p A n c xs B) :
    Calls Try.prog 69 #[.pointer (some ⟨s, 0, none⟩), .int .i64 (mk n f), .int .i64 i] w fun e w' => e = .returned (.int .i64 (keyL p (sel n f xs) (at0 xs i))) ∧ Below w.heap.size w w' := by
  have hl := hs.sl.numlen
  subst hl
  have hfp := C.fits
  have hp2 : p2 (p : Int) = ((2 ^ p : Nat) : Int) := p2_nat p
  have h32 : 2 ^ p ≤ 32 := by have := Nat.pow_le_pow_right (show 0 < 2 by decide) (show p ≤ 5 by have := C.p6; omega); omega
  have HM := hid (minOf_key C (f := f) hi)
  have HNE := hid (keysTo_ne C (f := f) hi)
  have hn16 := C.n16
  have HB := hid fun j (hj : j < xs.length) => C.big hj
  have HT := hid fun k => keysTo_succ f xs i xs.length k
  have HTL := hid fun k => keysTo_len f xs i xs.length k
  have HF := hid fun (A : Option Addr) (n c : Nat) (ks : List Nat) (hk : ∀ k ∈ ks, k < 32) (hne : ks ≠ []) W (hs : Sl W A n c ((ks.map fun (k : Nat) => (k : Int)).map (Value.int .i64))) => minFunc A n c ks hk hne W hs
  have HS := hid hs
  obtain ⟨b, o, rfl, lb, _, ci⟩ := hs.sl.num hi
  have LB := hid lb
  have CI := hid ci
  have c0 := hs.c0
  have HN16 := hid hn16
  have HI := hid hi
  generalize hN : (2 : Nat) ^ p = N at *
  clear C hs lb ci hi
  go_enter Try.func69, Try.ntmps69
  go_wp2
  clear c0
  go_loopg [7, 17] N (fun gk o1 q wr => ∃ k : Nat, gk + k = N ∧ q = .int .i64 k ∧ (∃ A' m c', o1 = .slice A' m c' ∧ wr.ownsRow w.heap.size 3 1 (.slice A' m c') m (((keysTo f xs i xs.length k).map fun (k : Nat) => (k : Int)).map (Value.int .i64))) ∧ Below w.heap.size w wr)
  case atStart => exact ⟨0, by omega, rfl, ⟨none, 0, 0, rfl, by simpa [keysTo] using World.ownsRow_nil _ _ _ _⟩, Below.refl _ _⟩
  case round =>
    obtain ⟨k, hk, rfl, ⟨A', m, c', rfl, ho⟩, hb⟩ := hrel
    have HK := hid hk; clear hk
    have hz := hid hb.size
    have HO := hid ho
    have hm : m ≤ 32 := by
      have h1 := HTL.out k
      have h2 : (keysTo f xs i xs.length k).length = m := by simpa using ho.1
      have := HK.out; omega
    have HBW := hid hb
    have c1 := (HS.out.keep hb).c1
    have ha1 : (⟨s, 0, none⟩ : Addr).add 1 = ⟨s, 1, none⟩ := rfl
    clear ho hb
    by_cases hlt : k < N
    · have hk32 : k < 32 := by omega
      have HAF := hid (show ∀ j, aloneF f xs i k (j + 1) = (aloneF f xs i k j && (j == i || (!f j || !agree k (at0 xs j) (at0 xs i)))) from fun _ => rfl)
      have HKT := hid (HT.out k)
      go_wp2
      go_loopg [9, 25] xs.length (fun gk a q wr1 => ∃ j : Nat, gk + j = xs.length ∧ q = .int .i64 j ∧ a = .bool (aloneF f xs i k j) ∧ wr = wr1)
      case atStart => exact ⟨0, by omega, rfl, rfl, rfl⟩
      case round =>
        obtain ⟨j, hj, rfl, rfl, rfl⟩ := hrel
        have HJ := hid hj; clear hj
        by_cases hjl : j < xs.length
        · obtain ⟨b1, o2, e1, lb1, hkl, ca⟩ := HS.out.sl.num hjl
          obtain ⟨rfl, rfl⟩ : b = b1 ∧ o = o2 := by simpa using e1
          clear e1
          have cj := (HBW.out.cell (p := ⟨b, o + j, none⟩) LB.out).trans ca
          have cc := (HBW.out.cell (p := ⟨b, o + i, none⟩) LB.out).trans CI.out
          have hA := and_agree (HB.out j hjl) (HB.out i HI.out) hk32
          have hZ := bit_eq0 f hjl
          have hfj : Fits (j : Int) := ⟨by omega, by have := HN16.out; omega⟩
          have hi16 : i < xs.length := HI.out
          have hE := hid (HAF.out j)
          generalize aloneF f xs i k j = al at *
          generalize hgj : f j = fj at *
          generalize hga : agree k (at0 xs j) (at0 xs i) = ag at *
          clear ca lb1 hkl hgj hga
          cases al with
          | false =>
            have hE2 := hid (show aloneF f xs i k (j + 1) = false by rw [hE.out]; rfl)
            clear hE
            go_wp2
            go_roundg (xs.length - j - 1)
            case measure => have := HJ.out; omega
            case rel => exact ⟨j + 1, by have := HJ.out; omega, by go_num, by rw [hE2.out], rfl⟩
          | true =>
            by_cases ej : j = i
            · have d1 : ((j : Int) == (i : Int)) = true := by rw [beq_iff_eq]; omega
              have d2 : (j == i) = true := by rw [beq_iff_eq]; exact ej
              have hE2 := hid (show aloneF f xs i k (j + 1) = true by rw [hE.out, d2]; rfl)
              clear hE ej hA hZ
              go_wp2
              go_roundg (xs.length - j - 1)
              case measure => have := HJ.out; omega
              case rel => exact ⟨j + 1, by have := HJ.out; omega, by go_num, by rw [hE2.out], rfl⟩
            have d1 : ((j : Int) == (i : Int)) = false := by rw [beq_eq_false_iff_ne]; omega
            have d2 : (j == i) = false := by rw [beq_eq_false_iff_ne]; exact ej
            clear ej
            cases fj with
            | false =>
              have hE2 := hid (show aloneF f xs i k (j + 1) = true by rw [hE.out, d2]; rfl)
              have hZ' : (bitV (mk xs.length f) j == 0) = true := hZ
              clear hE hA hZ
              go_wp2
              go_roundg (xs.length - j - 1)
              case measure => have := HJ.out; omega
              case rel => exact ⟨j + 1, by have := HJ.out; omega, by go_num, by rw [hE2.out], rfl⟩
            | true =>
              have hZ' : (bitV (mk xs.length f) j == 0) = false := hZ
              cases ag with
              | false =>
                have hE2 := hid (show aloneF f xs i k (j + 1) = true by rw [hE.out, d2]; rfl)
                have hA' : (bits .and .i64 (at0 xs j) (k : Int) != bits .and .i64 (at0 xs i) (k : Int)) = true := hA
                clear hE hA hZ
                go_wp2
                go_roundg (xs.length - j - 1)
                case measure => have := HJ.out; omega
                case rel => exact ⟨j + 1, by have := HJ.out; omega, by go_num, by rw [hE2.out], rfl⟩
              | true =>
                have hE2 := hid (show aloneF f xs i k (j + 1) = false by rw [hE.out, d2]; rfl)
                have hA' : (bits .and .i64 (at0 xs j) (k : Int) != bits .and .i64 (at0 xs i) (k : Int)) = false := hA
                clear hE hA hZ
                go_wp2
                go_roundg (xs.length - j - 1)
                case measure => have := HJ.out; omega
                case rel => exact ⟨j + 1, by have := HJ.out; omega, by go_num, by rw [hE2.out], rfl⟩
        · obtain rfl : j = xs.length := by have := HJ.out; omega
          by_cases hv : aloneF f xs i k xs.length = true
          · have hT2 := hid (show keysTo f xs i xs.length (k + 1) = keysTo f xs i xs.length k ++ [k] by rw [HKT.out, if_pos hv])
            generalize aloneF f xs i k xs.length = al at *
            subst hv
            clear c1
            go_wp2_with (at_builtin; refine push1 TI wr #[.int .i64 k] _ m _ _ HO.out _ _ rfl rfl rfl rfl rfl (by simp [Value.oneCell']) (by omega) (by omega) hz.out ?_; intro v1 w1 hown1 hgr; have hb1 : Below w.heap.size w w1 := below_push HBW.out HO.out hgr hz.out (Nat.le_refl _))
            obtain ⟨A1, c1, rfl⟩ := own_form hown1
            clear hgr
            go_wp2
            go_roundg (N - k - 1)
            case measure => have := HK.out; omega
            case rel => exact ⟨k + 1, by omega, by go_num, ⟨A1, m + 1, c1, rfl, by rw [hT2.out, List.map_append, List.map_append]; simpa using hown1⟩, hb1⟩
          · have hT2 := hid (show keysTo f xs i xs.length (k + 1) = keysTo f xs i xs.length k by rw [HKT.out, if_neg hv, List.append_nil])
            have hv' : aloneF f xs i k xs.length = false := by simpa using hv
            clear hv
            generalize aloneF f xs i k xs.length = al at *
            subst hv'
            go_wp2
            go_roundg (N - k - 1)
            case measure => have := HK.out; omega
            case rel => exact ⟨k + 1, by omega, by go_num, ⟨A', m, c', rfl, by rw [hT2.out]; exact HO.out⟩, HBW.out⟩
    · obtain rfl : k = N := by have := HK.out; omega
      have hml : (keysTo f xs i xs.length k).length = m := by simpa using HO.out.1
      have hF := hid (HF.out A' m c' _ (fun u hu => by have := (keysTo_mem.1 hu).1; omega) HNE.out wr (Sl.of_own HO.out))
      rw [← hml, HM.out, hml] at hF
      go_wp2_with fail
      refine (hF.out).mono ?_; rintro e w1 ⟨rfl, b1⟩
      have hb1 := below_call HBW.out b1 HBW.out.size
      go_wp2
      go_ret
      exact ⟨rfl, hb1⟩
end Go.Proofs.Ytpebglilphgamaa

