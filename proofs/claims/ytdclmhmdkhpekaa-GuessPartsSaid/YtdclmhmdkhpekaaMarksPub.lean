/- guess.Marks, as the marks of digits, or ErrArg; the law's awake. No condition. -/
import Derived.Test.YtdclmhmdkhpekaaRefMarks
import Derived.Test.YtdclmhmdkhpekaaCodes
namespace Go.Proofs.Ytdclmhmdkhpekaa
open Go.RowKit

def inCodes (N : Int) (xs : List Int) : Bool := !(xs.any fun x => decide (x < 0) || decide (N ≤ x))
def gameOk (p c : Int) (xs : List Int) : Bool := decide (0 < codes p c) && inCodes (codes p c) xs

/-- guess.read, told by codes: whether it is a game with these codes; where it is, its numbers. -/
theorem readAny (p c : Int) (A : Option Addr) (n k : Nat) (xs : List Int) (w : World) (hs : Sl w A n k (xs.map (Value.int .i64))) :
    Calls Try.prog 53 #[.int .i64 p, .int .i64 c, .slice A n k] w fun e w' => (∃ q d N, e = .returned (.tuple #[.agg #[.int .i64 q, .int .i64 d, .int .i64 N], .bool (gameOk p c xs)]) ∧ (gameOk p c xs = true → q = p ∧ d = c ∧ N = codes p c)) ∧ Below w.heap.size w w' := by
  by_cases h : p < 1 ∨ 4 < p ∨ c < 1 ∨ 6 < c
  · refine (read_bad p c A n k w h).mono fun e w' ⟨he, hb⟩ => ⟨⟨0, 0, 0, ?_, ?_⟩, hb⟩
    · have hg : gameOk p c xs = false := by unfold gameOk codes; rw [if_neg (by omega)]; simp
      rw [hg]; exact he
    · have hg : gameOk p c xs = false := by unfold gameOk codes; rw [if_neg (by omega)]; simp
      rw [hg]; intro h; cases h
  · obtain ⟨m, rfl⟩ := Int.eq_ofNat_of_zero_le (show 0 ≤ p by omega)
    have hb := pw_bd c m (by omega) (by omega) (by omega)
    refine (read_ok m c A n k xs w hs (by omega) (by omega) (by omega) (by omega)).mono fun e w' ⟨he, hb⟩ => ⟨⟨m, c, pw c m, ?_, ?_⟩, hb⟩
    · have hg : gameOk m c xs = (decide (pw c m ≤ 256) && !(xs.any fun x => decide (x < 0) || decide (pw c m ≤ x))) := by
        unfold gameOk codes inCodes
        simp only [Int.toNat_natCast]
        by_cases h6 : pw c m ≤ 256
        · rw [if_pos (by omega)]
          have : decide (0 < pw c m) = true := by simpa using by omega
          rw [this]; simp [h6]
        · rw [if_neg (by omega)]; simp [h6]
      rw [hg]; exact he
    · intro hg
      refine ⟨rfl, rfl, ?_⟩
      unfold gameOk codes at hg
      unfold codes
      simp only [Int.toNat_natCast] at hg ⊢
      by_cases h6 : pw c m ≤ 256
      · rw [if_pos (by omega)]
      · rw [if_neg (by omega)] at hg; simp at hg

theorem gameOk_iff {p c : Int} {xs : List Int} : gameOk p c xs = true ↔ 0 < codes p c ∧ ∀ x ∈ xs, 0 ≤ x ∧ x < codes p c := by
  unfold gameOk inCodes
  simp only [Bool.and_eq_true, decide_eq_true_eq, Bool.not_eq_true', List.any_eq_false, Bool.or_eq_true, not_or]
  refine and_congr Iff.rfl (forall_congr' fun x => forall_congr' fun _ => ?_)
  omega
theorem codes_pos {p c : Int} (h : 0 < codes p c) : 1 ≤ p ∧ p ≤ 4 ∧ 1 ≤ c ∧ c ≤ 6 ∧ pw c p.toNat ≤ 256 ∧ codes p c = pw c p.toNat := by
  unfold codes at h ⊢
  split at h
  · rename_i h'
    rw [if_pos h']
    exact ⟨h'.1, h'.2.1, h'.2.2.1, h'.2.2.2.1, h'.2.2.2.2, rfl⟩
  · omega

theorem readNo (p c : Int) (A : Option Addr) (n k : Nat) (xs : List Int) (w : World) (hs : Sl w A n k (xs.map (Value.int .i64))) (hg : gameOk p c xs = false) :
    Calls Try.prog 53 #[.int .i64 p, .int .i64 c, .slice A n k] w fun e w' => (∃ q d N, e = .returned (.tuple #[.agg #[.int .i64 q, .int .i64 d, .int .i64 N], .bool false])) ∧ Below w.heap.size w w' :=
  (readAny p c A n k xs w hs).mono fun _ _ ⟨⟨q, d, N, he, _⟩, hb⟩ => ⟨⟨q, d, N, by rw [hg] at he; exact he⟩, hb⟩
theorem readYes (p c : Int) (A : Option Addr) (n k : Nat) (xs : List Int) (w : World) (hs : Sl w A n k (xs.map (Value.int .i64))) (hg : gameOk p c xs = true) (N : Int) (hN : codes p c = N) :
    Calls Try.prog 53 #[.int .i64 p, .int .i64 c, .slice A n k] w fun e w' => e = .returned (.tuple #[.agg #[.int .i64 p, .int .i64 c, .int .i64 N], .bool true]) ∧ Below w.heap.size w w' :=
  (readAny p c A n k xs w hs).mono fun _ _ ⟨⟨q, d, M, he, h⟩, hb⟩ => by
    obtain ⟨rfl, rfl, rfl⟩ := h hg
    rw [hg, hN] at he
    exact ⟨he, hb⟩

set_option maxRecDepth 100000 in
set_option maxHeartbeats 1000000 in
theorem marksPub_bad (p c a b : Int) (w : World) (hg : gameOk p c [a, b] = false) :
    Calls Try.prog 18 #[.int .i64 p, .int .i64 c, .int .i64 a, .int .i64 b] w fun e w' => e = .returned (.tuple #[.int .i64 0, .int .i64 0, .int .i64 2]) ∧ Below w.heap.size w w' := by
  have HC := hid (readNo p c _ _ _ [a, b] _ (Sl.new w #[.int .i64 a, .int .i64 b] 3 rfl (by simp)) hg)
  have HB := hid ((Below.refl w.heap.size w).alloc (Nat.le_refl _) (.cells #[.int .i64 a, .int .i64 b] 3))
  clear hg
  go_enter Try.func18, Try.ntmps18
  go_wp2_with (go_at_call 53; refine (HC.out).mono ?_; rintro e w1 ⟨⟨q, d, N, rfl⟩, hb1⟩; have hz1 := hb1.size)
  go_ret3
  exact ⟨rfl, ((below_call HB.out hb1 (by simp)).alloc (by simp at hz1; omega) _)⟩

set_option maxRecDepth 100000 in
set_option maxHeartbeats 1000000 in
theorem marksPub_ok (p c a b : Int) (w : World) (hg : gameOk p c [a, b] = true) :
    Calls Try.prog 18 #[.int .i64 p, .int .i64 c, .int .i64 a, .int .i64 b] w fun e w' => e = .returned (.tuple #[.int .i64 (black c a b p.toNat), .int .i64 (white c a b p.toNat), .int .i64 0]) ∧ Below w.heap.size w w' := by
  obtain ⟨N, eN⟩ : ∃ N, codes p c = N := ⟨_, rfl⟩
  have HC := hid (readYes p c _ _ _ [a, b] _ (Sl.new w #[.int .i64 a, .int .i64 b] 3 rfl (by simp)) hg N eN)
  have HB := hid ((Below.refl w.heap.size w).alloc (Nat.le_refl _) (.cells #[.int .i64 a, .int .i64 b] 3))
  have hi := gameOk_iff.1 hg
  have hp := codes_pos hi.1
  have ha := hi.2 a (by simp)
  have hb := hi.2 b (by simp)
  have hN := (codes_bd p c).2
  have hp1 := hp.1
  have hp2 := hp.2.1
  have hc1 := hp.2.2.1
  have hc2 := hp.2.2.2.1
  obtain ⟨n, rfl⟩ := Int.eq_ofNat_of_zero_le (show 0 ≤ p by omega)
  rw [eN] at ha hb hN
  have HM := fun W => hid (marks n c N a b (by omega) hc1 hc2 ha.1 (by omega) hb.1 (by omega) W)
  clear hg hi hp eN
  simp only [Int.toNat_natCast]
  go_enter Try.func18, Try.ntmps18
  go_wp2_with (first | (go_at_call 53; refine (HC.out).mono ?_; rintro e w1 ⟨rfl, hb1⟩; have hz1 := hb1.size) | (go_at_call 54; refine ((HM _).out).mono ?_; rintro e w2 ⟨rfl, hb2⟩; have hz2 := hb2.size))
  go_quiet (fail)
  go_wp2
  go_ret3
  refine ⟨rfl, ?_⟩
  have hz1' : w.heap.size + 1 ≤ w1.heap.size := by simpa using hz1
  exact below_drewN ((below_call ((below_call HB.out hb1 (by simp)).alloc (by omega) _) hb2 (by simp; omega)).alloc (by simp at hz2; omega) _) _

theorem bool_cases (b : Bool) : b = false ∨ b = true := by cases b <;> simp

set_option maxRecDepth 100000 in
set_option maxHeartbeats 1000000 in
theorem awake (w : World) : Calls Try.prog 20 #[] w fun e w' => e = .returned (.bool true) ∧ Below w.heap.size w w' := by
  have h1 : gameOk 2 2 [1, 2] = true := by decide +kernel
  have h2 : black 2 1 2 (2 : Int).toNat = 0 := by decide +kernel
  have h3 : white 2 1 2 (2 : Int).toNat = 2 := by decide +kernel
  have HC := hid (marksPub_ok 2 2 1 2 w h1)
  rw [h2, h3] at HC
  clear h1 h2 h3
  go_enter Try.func20, Try.ntmps20
  go_wp2_with (go_at_call 18; refine (HC.out).mono ?_; rintro e w1 ⟨rfl, hb1⟩)
  go_ret
  exact ⟨rfl, hb1⟩
end Go.Proofs.Ytdclmhmdkhpekaa
