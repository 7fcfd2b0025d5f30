/- Walks of Turn, the reference's and the program's; slices.Sort on a row of the call's own. Condition: the slice reads as a class. -/
import Derived.Test.YtpebglilphgamaaShelf
import Derived.Test.YtpebglilphgamaaTurnM
import Derived.Test.YtpebglilphgamaaTeach
import Derived.Sort.OwnSortedInts
namespace Go.Proofs.Ytpebglilphgamaa
open Go.RowKit Go.Maps

def sortI (xs : List Int) : List Int := xs.mergeSort fun x y => decide (x ≤ y)
theorem sortS (base : Nat) (v : Value) (n : Nat) (xs : List Int) (w : World) (ho : w.ownsRow base 3 1 v n (xs.map (Value.int .i64))) (h0 : 0 < n) (hn : n ≤ 1000) :
    Calls Try.prog 74 #[v] w fun e w' => e = .returned (.tuple #[]) ∧ w'.ownsRow base 3 1 v n ((sortI xs).map (Value.int .i64)) ∧ w.grownBy w' v.ownBlock := by
  have hl : xs.length = n := by simpa using ho.1
  rcases ho.2 with ⟨rfl, rfl⟩ | ⟨g, cap, cur, rfl, hg, hblk, hc, hm, hs, ht⟩
  · omega
  · subst hl
    have ht' : cur.toList.take xs.length = xs.map (Value.int .i64) := by rw [← ht, Nat.mul_one]
    refine (slicesSort g 0 cap xs w (holds_of_blockI hblk ht') (lt_of_block hblk) (by omega)).mono ?_
    rintro e w' ⟨rfl, n, os, rfl⟩
    exact ⟨rfl, ownsRow_sortedI (List.length_mergeSort ..) hg hblk hc hm hs, grownBy_sortedI _⟩

/-- Two numbers that are not negative and small. -/
def NN (c : Int) (s : Nat) : Prop := 0 ≤ c ∧ c < 9223372036854775808 ∧ s < 9223372036854775808
theorem xor_v {c : Int} {s : Nat} (h : NN c s) : Op.intBits .xor .i64 c (s : Int) = pure (.int .i64 (xorI s c)) := by
  obtain ⟨k, rfl⟩ := Int.eq_ofNat_of_zero_le h.1
  have := i64_xor k s (by have := h.2.1; omega) h.2.2
  unfold xorI
  rw [Int.toNat_natCast, ← this]
  rfl
attribute [local go_sem ↓] shl_p2 xor_v

set_option maxRecDepth 100000 in
set_option maxHeartbeats 2000000 in
theorem turnOk (p : Nat) (A : Option Addr) (n c : Nat) (xs : List Int) (s : Nat) (w : World) (hs : Sl w A n c (xs.map (Value.int .i64))) (H : Cls p xs) (hsp : s < 2 ^ p) :
    Calls Try.prog 49 #[.int .i64 p, .slice A n c, .int .i64 s] w fun e w' => ∃ A' c', e = .returned (.tuple #[.slice A' n c', .int .i64 0]) ∧ w'.ownsRow w.heap.size 3 1 (.slice A' n c') n ((sortI (xs.map (xorI s))).map (Value.int .i64)) ∧ Below w.heap.size w w' := by
  have hl := hs.numlen
  have hn : n ≤ 16 := by have := H.n16; omega
  have hn1 : 0 < n := by have := H.n1; omega
  have hp : p ≤ 5 := by have := H.p5; omega
  have FP : Fits (p : Int) := ⟨by omega, by omega⟩
  have hpp := Nat.pow_le_pow_right (show 0 < 2 by decide) hp
  have g1 : decide ((s : Int) < 0) = false := decide_eq_false (by omega)
  have g2 : decide (p2 (p : Int) ≤ (s : Int)) = false := decide_eq_false (by rw [p2_nat]; omega)
  have HR := hid (readOk p A n c xs w (fun _ _ => True) hs H)
  have HRG := hid H.rng
  have HP := hid (p2_nat p)
  have HL := hid hl
  have HS := hid hs
  have HSP := hid hsp
  clear hl hs H hsp
  go_enter Try.func49, Try.ntmps49
  go_wp2_with fail
  refine (HR.out).mono ?_; rintro e w1 ⟨s0, B, rfl, _, _, _, hsch, _, hb⟩
  have hs2 := HS.out.below hb
  clear hsch
  go_wp2
  go_loopg [10, 33] n (fun gk o i wr => ∃ k : Nat, gk + k = n ∧ i = .int .i64 k ∧ (∃ A' c', o = .slice A' k c' ∧ wr.ownsRow w.heap.size 3 1 (.slice A' k c') k (((xs.take k).map (xorI s)).map (Value.int .i64))) ∧ Below w.heap.size w wr)
  case atStart => exact ⟨0, by omega, rfl, ⟨none, 0, rfl, by simpa using World.ownsRow_nil _ _ _ _⟩, hb⟩
  case round =>
    obtain ⟨k, hk, rfl, ⟨A', c', rfl, ho⟩, hb⟩ := hrel
    have HK := hid hk; clear hk
    have hz := hid hb.size
    have HO := hid ho
    clear ho
    by_cases hlt : k < n
    · obtain ⟨b, o, rfl, lb, hkl, ca⟩ := HS.out.num hlt
      have cc := (hb.cell (p := ⟨b, o + k, none⟩) lb).trans ca
      have h16 : k < 16 := by omega
      have hr := HRG.out k hkl
      have hNN : NN (at0 xs k) s := ⟨hr.1, by have := HP.out; omega, by have := HSP.out; omega⟩
      have hS2 := hid (show xs.take (k + 1) = xs.take k ++ [at0 xs k] by rw [List.take_add_one, List.getElem?_eq_getElem hkl]; simp [at0, List.getD, List.getElem?_eq_getElem hkl])
      clear ca hr
      go_wp2_with (at_builtin; refine push1 TI wr #[.int .i64 (xorI s (at0 xs k))] _ k _ _ HO.out _ _ rfl rfl rfl rfl rfl (by simp [Value.oneCell']) (by omega) (by omega) hz.out ?_; intro v1 w3 hown1 hgr; have hb1 : Below w.heap.size w w3 := below_push hb HO.out hgr hz.out (Nat.le_refl _))
      obtain ⟨A1, c1, rfl⟩ := own_form hown1
      clear hgr
      go_wp2
      go_roundg (gk - 1)
      case measure => have := HK.out; omega
      case rel => exact ⟨k + 1, by have := HK.out; omega, by go_num, ⟨A1, c1, rfl, by rw [hS2.out, List.map_append, List.map_append]; simpa using hown1⟩, hb1⟩
    · obtain rfl : k = n := by have := HK.out; omega
      have HSO := hid (sortS w.heap.size _ k _ wr HO.out hn1 (by omega))
      go_wp2_with fail
      refine HSO.out.mono ?_; rintro e w3 ⟨rfl, o3, g3⟩
      have b3 : Below w.heap.size w w3 := below_own hb HO.out g3 hz.out (Nat.le_refl _)
      rw [List.take_of_length_le (by have := HL.out; omega)] at o3
      have O3 := hid o3
      clear g3 o3
      go_wp2
      go_ret2
      exact ⟨A', c', rfl, O3.out, b3⟩

set_option maxRecDepth 100000 in
theorem turnBad (p : Int) (A : Option Addr) (n c : Nat) (xs : List Int) (s : Int) (w : World) (hs : Sl w A n c (xs.map (Value.int .i64))) (H : ¬ (Cls p xs ∧ 0 ≤ s ∧ s < p2 p)) :
    Calls Try.prog 49 #[.int .i64 p, .slice A n c, .int .i64 s] w fun e w' => e = .returned (.tuple #[.slice none 0 0, .int .i64 2]) ∧ Below w.heap.size w w' := by
  by_cases h : Cls p xs
  · have HR := hid (readOk p A n c xs w (fun _ _ => True) hs h)
    have FP := h.fits
    by_cases h1 : s < 0
    · have g1 : decide (s < 0) = true := decide_eq_true h1
      clear hs H h h1
      go_enter Try.func49, Try.ntmps49
      go_wp2_with fail
      refine (HR.out).mono ?_; rintro e w1 ⟨s0, B, rfl, _, _, _, hsch, _, hb⟩
      go_wp2
      go_ret2
      exact ⟨rfl, hb⟩
    · have g1 : decide (s < 0) = false := decide_eq_false h1
      have g2 : decide (p2 p ≤ s) = true := decide_eq_true (by
        rcases Int.lt_or_le s (p2 p) with g | g
        · exact absurd ⟨h, by omega, g⟩ H
        · exact g)
      clear hs H h h1
      go_enter Try.func49, Try.ntmps49
      go_wp2_with fail
      refine (HR.out).mono ?_; rintro e w1 ⟨s0, B, rfl, _, _, _, hsch, _, hb⟩
      go_wp2
      go_ret2
      exact ⟨rfl, hb⟩
  · have HR := hid (readBad p A n c xs w hs h)
    clear hs H
    go_enter Try.func49, Try.ntmps49
    go_wp2_with fail
    refine (HR.out).mono ?_; rintro e w1 ⟨rfl, hb⟩
    go_wp2
    go_ret2
    exact ⟨rfl, hb⟩

/-- The reference's turned class. -/
def turnR (s : Nat) (xs : List Int) (m : Nat) : List Int := ((List.range m).filter fun x => decide (((x ^^^ s : Nat) : Int) ∈ xs)).map fun x : Nat => (x : Int)
theorem turnR_succ (s : Nat) (xs : List Int) (m : Nat) : turnR s xs (m + 1) = turnR s xs m ++ (if decide (((m ^^^ s : Nat) : Int) ∈ xs) = true then [(m : Int)] else []) := by
  unfold turnR
  rw [List.range_succ, List.filter_append, List.map_append]
  congr 1
  by_cases h : ((m ^^^ s : Nat) : Int) ∈ xs <;> simp [h]
theorem turnR_len (s : Nat) (xs : List Int) (m : Nat) : (turnR s xs m).length ≤ m := by
  unfold turnR
  rw [List.length_map]
  exact Nat.le_trans (List.length_filter_le ..) (by simp)
theorem xor_nat {a s : Nat} : xorI s (a : Int) = ((a ^^^ s : Nat) : Int) := by unfold xorI; rw [Int.toNat_natCast]

set_option maxRecDepth 100000 in
set_option maxHeartbeats 2000000 in
theorem refTurn (A : Option Addr) (n c : Nat) (xs : List Int) (s : Nat) (hs32 : s < 32) (w : World) (hs : Sl w A n c (xs.map (Value.int .i64))) :
    Calls Try.prog 50 #[.slice A n c, .int .i64 s] w fun e w' => ∃ A' q c', e = .returned (.slice A' q c') ∧ w'.ownsRow w.heap.size 3 1 (.slice A' q c') q ((turnR s xs 32).map (Value.int .i64)) ∧ Below w.heap.size w w' := by
  have HH := hid fun x W (hb : Below w.heap.size w W) => refHas A n c xs x W (hs.below hb)
  clear hs
  go_enter Try.func50, Try.ntmps50
  go_wp2
  go_loopg [5, 7] 32 (fun gk o i wr => ∃ k : Nat, gk + k = 32 ∧ i = .int .i64 k ∧ (∃ A' q c', o = .slice A' q c' ∧ wr.ownsRow w.heap.size 3 1 (.slice A' q c') q ((turnR s xs k).map (Value.int .i64))) ∧ Below w.heap.size w wr)
  case atStart => exact ⟨0, by omega, rfl, ⟨none, 0, 0, rfl, by simpa [turnR] using World.ownsRow_nil _ _ _ _⟩, Below.refl _ _⟩
  case round =>
    obtain ⟨k, hk, rfl, ⟨A', q, c', rfl, ho⟩, hb⟩ := hrel
    have HK := hid hk; clear hk
    have hz := hid hb.size
    have HO := hid ho
    have hq : q ≤ 32 := by
      have h1 := turnR_len s xs k
      have h2 : (turnR s xs k).length = q := by simpa using ho.1
      have := HK.out; omega
    clear ho
    by_cases hlt : k < 32
    · have hNN : NN (k : Int) s := ⟨by omega, by omega, by omega⟩
      have hS := hid (turnR_succ s xs k)
      have h33 : k < 33 := by omega
      rw [← xor_nat] at hS
      cases hv : decide (xorI s (k : Int) ∈ xs) with
      | true =>
        rw [hv] at hS
        go_wp2_with fail
        refine (HH.out _ _ hb).mono ?_; rintro e w2 ⟨rfl, rfl⟩
        rw [hv]
        go_wp2_with (at_builtin; refine push1 TI wr #[.int .i64 (k : Int)] _ q _ _ HO.out _ _ rfl rfl rfl rfl rfl (by simp [Value.oneCell']) (by omega) (by omega) hz.out ?_; intro v1 w3 hown1 hgr; have hb1 : Below w.heap.size w w3 := below_push hb HO.out hgr hz.out (Nat.le_refl _))
        obtain ⟨A1, c1, rfl⟩ := own_form hown1
        clear hgr
        go_wp2
        go_roundg (gk - 1)
        case measure => have := HK.out; omega
        case rel => exact ⟨k + 1, by have := HK.out; omega, by go_num, ⟨A1, q + 1, c1, rfl, by rw [hS.out, if_pos trivial, List.map_append]; simpa using hown1⟩, hb1⟩
      | false =>
        rw [hv] at hS
        go_wp2_with fail
        refine (HH.out _ _ hb).mono ?_; rintro e w2 ⟨rfl, rfl⟩
        rw [hv]
        go_wp2
        go_roundg (gk - 1)
        case measure => have := HK.out; omega
        case rel => exact ⟨k + 1, by have := HK.out; omega, by go_num, ⟨A', q, c', rfl, by rw [hS.out, if_neg (by decide), List.append_nil]; exact HO.out⟩, hb⟩
    · obtain rfl : k = 32 := by have := HK.out; omega
      go_wp2
      go_ret
      exact ⟨A', q, c', rfl, HO.out, hb⟩
end Go.Proofs.Ytpebglilphgamaa
