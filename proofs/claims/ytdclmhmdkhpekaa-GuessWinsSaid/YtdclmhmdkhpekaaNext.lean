/- Walks of key, and of next: the next question. Conditions: at most four levels of numbers up to 60. -/
import Derived.Test.YtdclmhmdkhpekaaPutD
namespace Go.Proofs.Ytdclmhmdkhpekaa
open Go.RowKit

/-- A table with some keys. -/
def Tab (OK : Int → Bool → Prop) (w : World) (mb g1 g2 : Nat) (L : List Int) : Prop := ∃ N ks ws, TabA OK w mb g1 g2 N ks ws L
theorem putS (OK : Int → Bool → Prop) (mb g1 g2 : Nat) (L : List Int) (k : Int) (b : Bool) (hb : Bounds OK) (hok : OK k b) (hno : k ∉ L) (w : World) (h : Tab OK w mb g1 g2 L) :
    Calls Try.prog 88 #[.pointer (some ⟨mb, 0, none⟩), .int .i64 k, .bool b] w fun e w' => e = .returned (.tuple #[]) ∧ ∃ g1' g2' L', Tab OK w' mb g1' g2' L' ∧ (∀ x, x ∈ L' ↔ x = k ∨ x ∈ L) ∧ Step w w' mb g1 g2 g1' g2' := by
  obtain ⟨N, ks, ws, h⟩ := h
  by_cases hl : 2 * L.length < N
  · refine (putLow OK mb g1 g2 N ks ws L k b hb hok hno hl w h).mono ?_
    rintro e w' ⟨rfl, ⟨ks', ws', ht⟩, hs⟩
    exact ⟨rfl, g1, g2, k :: L, ⟨N, ks', ws', ht⟩, fun x => List.mem_cons, hs⟩
  · refine (putDbl OK mb g1 g2 N ks ws L k b hb hok hno (by omega) w h).mono ?_
    rintro e w' ⟨rfl, g1', g2', ks', ws', L', ht, hm, hs⟩
    exact ⟨rfl, g1', g2', L', ⟨2 * N, ks', ws', ht⟩, hm, hs⟩

/-- A state with a number of questions, as one number. -/
def keyP (xs : List Int) (q : Int) : Nat → Int
  | 0 => q + 1
  | k+1 => 61 * keyP xs q k + at0 xs k
def keyN (xs : List Int) (q : Int) : Int := keyP xs q xs.length
def Small (xs : List Int) : Prop := ∀ j, 0 ≤ at0 xs j ∧ at0 xs j ≤ 60
theorem keyP_bd {xs : List Int} (h : Small xs) (q : Int) : ∀ k, k ≤ 4 → (q + 1) * 61 ^ k ≤ keyP xs q k ∧ keyP xs q k < (q + 2) * 61 ^ k := by
  intro k hk
  have a0 := h 0; have a1 := h 1; have a2 := h 2; have a3 := h 3
  obtain rfl | rfl | rfl | rfl | rfl : k = 0 ∨ k = 1 ∨ k = 2 ∨ k = 3 ∨ k = 4 := by omega
  all_goals simp only [keyP]; omega
theorem keyP_inj {xs ys : List Int} (hx : Small xs) (hy : Small ys) {q r : Int} : ∀ k, keyP xs q k = keyP ys r k → q = r ∧ ∀ j, j < k → at0 xs j = at0 ys j := by
  intro k
  induction k with
  | zero => intro h; simp only [keyP] at h; exact ⟨by omega, fun j hj => absurd hj (by omega)⟩
  | succ k ih =>
    intro h
    simp only [keyP] at h
    have a := hx k; have b := hy k
    obtain ⟨h1, h2⟩ := ih (by omega)
    refine ⟨h1, fun j hj => ?_⟩
    by_cases e : j = k
    · subst e; omega
    · exact h2 j (by omega)

set_option maxRecDepth 100000 in
set_option maxHeartbeats 1000000 in
theorem keyS (A : Option Addr) (n c : Nat) (xs : List Int) (q : Int) (hn : n ≤ 4) (hx : Small xs) (h0 : 0 ≤ q) (h1 : q ≤ 20) (w : World) (hs : Sl w A n c (xs.map (Value.int .i64))) :
    Calls Try.prog 86 #[.slice A n c, .int .i64 q] w fun e w' => e = .returned (.int .i64 (keyN xs q)) ∧ w = w' := by
  have hl := hs.numlen
  have HK := hid fun k (hk : k ≤ 4) => keyP_bd hx q k hk
  have HX := hid hx
  have HL := hid (show keyN xs q = keyP xs q n by unfold keyN; rw [hl])
  go_enter Try.func86, Try.ntmps86
  go_wp2
  go_loopg [5, 12] n (fun gk v i wr => ∃ k : Nat, gk + k = n ∧ i = .int .i64 k ∧ v = .int .i64 (keyP xs q k) ∧ w = wr)
  case atStart => exact ⟨0, by omega, rfl, rfl, rfl⟩
  case round =>
    obtain ⟨k, hk, rfl, rfl, rfl⟩ := hrel
    by_cases hlt : k < n
    · obtain ⟨b, o, rfl, lb, _, ca⟩ := hs.num hlt
      have hb := HK.out k (by omega)
      have hp : 61 ^ k ≤ (226981 : Int) := by
        obtain rfl | rfl | rfl | rfl : k = 0 ∨ k = 1 ∨ k = 2 ∨ k = 3 := by omega
        all_goals decide
      have hp0 : (1 : Int) ≤ 61 ^ k := Int.pow_pos (by decide)
      have hkb : 0 ≤ keyP xs q k ∧ keyP xs q k ≤ 5000000 := by
        obtain rfl | rfl | rfl | rfl : k = 0 ∨ k = 1 ∨ k = 2 ∨ k = 3 := by omega
        all_goals (simp only [Int.reducePow] at hb; omega)
      have ha := HX.out k
      have hst := hid (show keyP xs q (k + 1) = 61 * keyP xs q k + at0 xs k from rfl)
      clear hb hp hp0
      go_wp2
      go_roundg (gk - 1)
      case measure => omega
      case rel => exact ⟨k + 1, by omega, by go_num, by rw [hst.out], rfl⟩
    · have hkn : k = n := by omega
      subst hkn
      go_wp2
      go_ret
      exact ⟨by rw [HL.out]; rfl, rfl⟩
end Go.Proofs.Ytdclmhmdkhpekaa
