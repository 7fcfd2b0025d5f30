/- Walk of LearnTeaches. No condition. -/
import Derived.Test.YtpebglilphgamaaTeachP
import Derived.Test.YtpebglilphgamaaWalkParts
import Derived.Deep.RegionLaw
import Derived.Deep.CutRange
namespace Go.Proofs.Ytpebglilphgamaa
open Go.RowKit

theorem andnot_v {k x : Nat} (h : k < 32 ∧ x < 5) : Op.intBits .andNot .i64 (k : Int) (p2 (x : Int)) = pure (.int .i64 ((clr k x : Nat) : Int)) := by
  have hx := Nat.pow_le_pow_right (show 0 < 2 by decide) (show x ≤ 5 by omega)
  have := i64_andNot k (2 ^ x) (by omega) (by omega)
  rw [p2_nat]
  show pure (Value.int .i64 (bits .andNot .i64 (k : Int) ((2 ^ x : Nat) : Int))) = _
  rw [this]
  rfl
theorem pick_ix (x : Int) {n : Nat} (h0 : 0 < n) (hn : n ≤ 1000) : ∃ j : Nat, wrap64 ((IntKind.u64.wrap x).tmod (n : Int)) = (j : Int) ∧ j < n := by
  have h1 : 0 ≤ IntKind.u64.wrap x := by rw [IntKind.wrap_u64]; omega
  rw [Int.tmod_eq_emod_of_nonneg h1]
  have h2 := Int.emod_nonneg (IntKind.u64.wrap x) (show (n : Int) ≠ 0 by omega)
  have h3 := Int.emod_lt_of_pos (IntKind.u64.wrap x) (show (0 : Int) < n by omega)
  refine ⟨(IntKind.u64.wrap x % n).toNat, ?_, by omega⟩
  unfold wrap64
  omega
attribute [local go_sem ↓] shl_p2 shr_v and_shr andnot_v

set_option maxRecDepth 100000 in
set_option maxHeartbeats 2000000 in
theorem learnTeaches_bad (w : World) (p : Int) (A : Option Addr) (n c : Nat) (xs : List Int) (hs : Sl w A n c (xs.map (Value.int .i64))) (con : Int) (h : ¬ Cls p xs) :
    Calls Try.prog 13 #[.int .i64 p, .slice A n c, .int .i64 con] w fun e w' => e = .returned (.bool true) ∧ Below w.heap.size w w' := by
  have hn := hs.numlen
  have HL0 := hid fun W (hb : Below w.heap.size w W) => lawList A n c xs W (hs.below hb)
  have hB : ¬ Cls p (xs.take (min n 20)) := fun H => h ((cls_take hn).1 H)
  have HT := hid fun A' c' W (s1 : Sl W A' (min n 20) c' ((xs.take (min n 20)).map (Value.int .i64))) => teachBad p A' (min n 20) c' _ W s1 hB
  have HA := hid fun A' c' W (s1 : Sl W A' (min n 20) c' ((xs.take (min n 20)).map (Value.int .i64))) => askBad p A' (min n 20) c' _ W s1 hB
  have HP := hid fun A' c' W (s1 : Sl W A' (min n 20) c' ((xs.take (min n 20)).map (Value.int .i64))) => peelBad p A' (min n 20) c' _ W s1 hB
  clear hs hB h hn
  go_enter Try.func13, Try.ntmps13
  go_wp2_with fail
  refine at_world fun W0 hW0 => ?_
  have HB0 := hid (show Below w.heap.size w W0 by rw [hW0]; exact (((Below.refl _ _).alloc (Nat.le_refl _) _).alloc (by simp) _).alloc (by simp; omega) _)
  have z0 : Blk W0 w.heap.size 3 #[.int .i64 p] := by rw [hW0]; exact ((Blk.new _ _ _).alloc _).alloc _
  have z1 : Blk W0 (w.heap.size + 1) 22 #[.slice A n c] := by rw [hW0]; exact (Blk.new_at _ _ _ (by simp)).alloc _
  have z2 : Blk W0 (w.heap.size + 1 + 1) 3 #[.int .i64 con] := by rw [hW0]; exact Blk.new_at _ _ _ (by simp)
  have HZ := hid (And.intro z0 (And.intro z1 z2))
  have HC := hid (show ∀ W', Below W0.heap.size W0 W' → W'.cell? ⟨w.heap.size, 0, none⟩ = some (.int .i64 p) ∧ W'.cell? ⟨w.heap.size + 1, 0, none⟩ = some (.slice A n c) ∧ W'.cell? ⟨w.heap.size + 1 + 1, 0, none⟩ = some (.int .i64 con) from fun W' hb =>
    ⟨(hb.cell (p := ⟨w.heap.size, 0, none⟩) z0.lt).trans (by have := z0.cell 0; simpa using this), (hb.cell (p := ⟨w.heap.size + 1, 0, none⟩) z1.lt).trans (by have := z1.cell 0; simpa using this), (hb.cell (p := ⟨w.heap.size + 1 + 1, 0, none⟩) z2.lt).trans (by have := z2.cell 0; simpa using this)⟩)
  have HLW := hid fun W (hb : Below w.heap.size w W) => HL0.out W hb
  have HL := hid fun W (hb : Below W0.heap.size W0 W) => HLW.out W (below_call HB0.out hb HB0.out.size)
  have Qr := hid (Below.refl W0.heap.size W0)
  clear hW0 z0 z1 z2
  go_wp2_with fail
  have Bd := hid (below_drew1 Qr.out)
  have yy := HC.out _ Bd.out
  have y0 := yy.1
  have y1 := yy.2.1
  clear yy
  go_region_held3 (fun w' => w'.cell? ⟨w.heap.size, 0, none⟩ = some (.int .i64 p) ∧ w'.cell? ⟨w.heap.size + 1, 0, none⟩ = some (.slice A n c)) (first | assumption | go_keep)
    ((first
      | (go_at_call 17
         refine (HL.out _ Bd.out).mono ?_
         rintro e w2 ⟨A2, c2, rfl, o2, b2⟩
         have Q2 := hid (below_call Bd.out b2 Bd.out.size)
         have k2 : w2.cell? ⟨w.heap.size, 0, none⟩ = some (.int .i64 p) ∧ w2.cell? ⟨w.heap.size + 1, 0, none⟩ = some (.slice A n c) := ⟨(HC.out w2 Q2.out).1, (HC.out w2 Q2.out).2.1⟩
         have S2 := hid (Sl.of_own o2)
         clear o2 b2)
      | (have _h := S2.out
         go_at_call 39
         refine (HT.out _ _ _ S2.out).mono ?_
         rintro e w4 ⟨rfl, b3⟩
         have Qw4 := hid (below_call Q2.out b3 Q2.out.size)
         have k3 : w4.cell? ⟨w.heap.size, 0, none⟩ = some (.int .i64 p) ∧ w4.cell? ⟨w.heap.size + 1, 0, none⟩ = some (.slice A n c) := ⟨(HC.out w4 Qw4.out).1, (HC.out w4 Qw4.out).2.1⟩
         clear b3)))
  clear y0 y1 Q2 S2 k2 k3 Bd
  go_wp2_with fail
  have Bd := hid (below_drew1 Qw4.out)
  have yy := HC.out _ Bd.out
  have y0 := yy.1
  have y1 := yy.2.1
  clear yy
  go_region_held3 (fun w' => w'.cell? ⟨w.heap.size, 0, none⟩ = some (.int .i64 p) ∧ w'.cell? ⟨w.heap.size + 1, 0, none⟩ = some (.slice A n c)) (first | assumption | go_keep)
    ((first
      | (go_at_call 17
         refine (HL.out _ Bd.out).mono ?_
         rintro e w2 ⟨A2, c2, rfl, o2, b2⟩
         have Q2 := hid (below_call Bd.out b2 Bd.out.size)
         have k2 : w2.cell? ⟨w.heap.size, 0, none⟩ = some (.int .i64 p) ∧ w2.cell? ⟨w.heap.size + 1, 0, none⟩ = some (.slice A n c) := ⟨(HC.out w2 Q2.out).1, (HC.out w2 Q2.out).2.1⟩
         have S2 := hid (Sl.of_own o2)
         clear o2 b2)
      | (have _h := S2.out
         go_at_call 43
         refine (HA.out _ _ _ S2.out).mono ?_
         rintro e w5 ⟨rfl, b3⟩
         have Qw5 := hid (below_call Q2.out b3 Q2.out.size)
         have k3 : w5.cell? ⟨w.heap.size, 0, none⟩ = some (.int .i64 p) ∧ w5.cell? ⟨w.heap.size + 1, 0, none⟩ = some (.slice A n c) := ⟨(HC.out w5 Qw5.out).1, (HC.out w5 Qw5.out).2.1⟩
         clear b3)))
  clear y0 y1 Q2 S2 k2 k3 Bd
  go_wp2_with fail
  have Bd := hid (below_drew1 Qw5.out)
  have yy := HC.out _ Bd.out
  have y0 := yy.1
  have y1 := yy.2.1
  clear yy
  go_region_held3 (fun w' => w'.cell? ⟨w.heap.size, 0, none⟩ = some (.int .i64 p) ∧ w'.cell? ⟨w.heap.size + 1, 0, none⟩ = some (.slice A n c)) (first | assumption | go_keep)
    ((first
      | (go_at_call 17
         refine (HL.out _ Bd.out).mono ?_
         rintro e w2 ⟨A2, c2, rfl, o2, b2⟩
         have Q2 := hid (below_call Bd.out b2 Bd.out.size)
         have k2 : w2.cell? ⟨w.heap.size, 0, none⟩ = some (.int .i64 p) ∧ w2.cell? ⟨w.heap.size + 1, 0, none⟩ = some (.slice A n c) := ⟨(HC.out w2 Q2.out).1, (HC.out w2 Q2.out).2.1⟩
         have S2 := hid (Sl.of_own o2)
         clear o2 b2)
      | (have _h := S2.out
         go_at_call 44
         refine (HP.out _ _ _ S2.out).mono ?_
         rintro e w6 ⟨rfl, b3⟩
         have Qw6 := hid (below_call Q2.out b3 Q2.out.size)
         have k3 : w6.cell? ⟨w.heap.size, 0, none⟩ = some (.int .i64 p) ∧ w6.cell? ⟨w.heap.size + 1, 0, none⟩ = some (.slice A n c) := ⟨(HC.out w6 Qw6.out).1, (HC.out w6 Qw6.out).2.1⟩
         clear b3)))
  clear y0 y1 Q2 S2 k2 k3 Bd
  go_wp2_with (go_at_call 21; refine (awake _).mono ?_; rintro e w9 ⟨rfl, b9⟩)
  go_ret
  exact ⟨rfl, below_call (below_call HB0.out Qw6.out HB0.out.size) b9 (by have := HB0.out.size; have := Qw6.out.size; omega)⟩

set_option maxRecDepth 100000 in
set_option maxHeartbeats 8000000 in
theorem learnTeaches_good (w : World) (p : Nat) (A : Option Addr) (n c : Nat) (xs : List Int) (hs : Sl w A n c (xs.map (Value.int .i64))) (con : Int) (h : Cls p xs) :
    Calls Try.prog 13 #[.int .i64 p, .slice A n c, .int .i64 con] w fun e w' => e = .returned (.bool true) ∧ Below w.heap.size w w' := by
  have hn := hs.numlen
  have h1 := take_min20 hn (by have := h.n16; omega)
  have h3 : min n 20 = n := Nat.min_eq_left (by have := h.n16; omega)
  have hn16 : n ≤ 16 := by have := h.n16; omega
  have hn0 : 0 < n := by have := h.n1; omega
  have hp5 : p ≤ 5 := by have := h.p5; omega
  have hp6 : p < 6 := by omega
  have HL0 := hid fun W (hb : Below w.heap.size w W) => lawList A n c xs W (hs.below hb)
  rw [h1, h3] at HL0
  have HT := hid fun A' c' W (s1 : Sl W A' n c' (xs.map (Value.int .i64))) => teachPub p A' n c' xs W s1 h
  have HA := hid fun A' c' W (s1 : Sl W A' n c' (xs.map (Value.int .i64))) => askPub p A' n c' xs W s1 h
  have HP := hid fun A' c' W (s1 : Sl W A' n c' (xs.map (Value.int .i64))) => peelPub p A' n c' xs W s1 h
  have HCL := hid fun W (hb : Below w.heap.size w W) => refClassOk p A n c xs W (hs.below hb) h
  obtain ⟨ci, hci, hcn⟩ := pick_ix con hn0 (by omega)
  have hci2 : IntKind.i64.wrap ((IntKind.u64.wrap con).tmod (n : Int)) = (ci : Int) := by rw [IntKind.wrap_i64]; unfold wrap64 at hci; omega
  have hcm : at0 xs ci ∈ xs := at0_mem' (by omega)
  have HK := hid fun A' c' W (s1 : Sl W A' n c' (xs.map (Value.int .i64))) => keyPub p A' n c' xs _ hcm W s1 h
  have HS := hid hs
  have HH := hid h
  -- the numbers
  have t1 := teach_le_p hp6 h.inP
  have t2 := teach_le_len hp6 h.inP h.ne
  have t3 := peel_le_teach hp6 h.inP
  have t4 := teach_le_ask hp6 h.inP
  have t5 := askL_le p xs
  have t6 := askL_nonneg p _ xs rfl
  have t7 := ask_pow p _ xs rfl h.inP h.pw
  have t8 := teach_nonneg p xs
  have k1 := keyL_lt hp6 h.inP (h.inP _ hcm)
  have k2 := teach_ge (p := p) hcm
  have k3 := lenL_key hp6 h.inP h.pw hcm
  have k4 := hid fun x (hx : x < p) hb => lenL_part hp6 h.inP hcm (x := x) hx hb
  have k32 := le32 hp6 k1
  generalize keyL p xs (at0 xs ci) = key at *
  generalize teachL p xs = t at *
  obtain ⟨a, ha⟩ := Int.eq_ofNat_of_zero_le t6
  rw [ha] at HA t4 t5 t7
  rw [Int.toNat_natCast] at t7
  generalize peelL p xs = pe at *
  have FA : Fits (a : Int) := ⟨by omega, by omega⟩
  have FP : Fits (p : Int) := ⟨by omega, by omega⟩
  have hpp := p2_nat p
  have q1 : decide ((p : Int) < t) = false := decide_eq_false (by omega)
  have q2 : decide ((n : Int) - 1 < t) = false := decide_eq_false (by omega)
  have q3 : decide (t < (pe : Int)) = false := decide_eq_false (by omega)
  have q4 : decide ((a : Int) < t) = false := decide_eq_false (by omega)
  have q5 : decide ((p : Int) < (a : Int)) = false := decide_eq_false (by omega)
  have q5n : decide (p < a) = false := decide_eq_false (by omega)
  have q6 : decide ((a : Int) < 0) = false := decide_eq_false (by omega)
  have q7 : decide ((pe : Int) < 0) = false := decide_eq_false (by omega)
  have q8 : decide (p2 (a : Int) < (n : Int)) = false := decide_eq_false (by rw [p2_nat]; omega)
  have q9 : decide ((key : Int) < 0) = false := decide_eq_false (by omega)
  have q10 : decide (p2 (p : Int) ≤ (key : Int)) = false := decide_eq_false (by rw [p2_nat]; omega)
  have q11 : decide (t < (sz key : Int)) = false := decide_eq_false (by omega)
  have HSZ := hid fun W => lawSize key k32 W
  have hun : IntKind.u64.wrap (n : Int) = (n : Int) := by rw [IntKind.wrap_u64]; omega
  have hci0 : (0 : Int) ≤ (ci : Int) := by omega
  have hci1 : (ci : Int) < (n : Int) := by omega
  have K3 := hid k3
  have HCN := hid hcn
  generalize sz key = szk at *
  have hw1 : IntKind.i64.wrap ((n : Int) - 1) = (n : Int) - 1 := by rw [IntKind.wrap_i64]; omega
  clear hs h hn h1 h3 hp6 t1 t2 t3 t4 t5 t6 t7 t8 ha k1 k2 k3 hpp hcm
  go_enter Try.func13, Try.ntmps13
  go_wp2_with fail
  refine at_world fun W0 hW0 => ?_
  have HB0 := hid (show Below w.heap.size w W0 by rw [hW0]; exact (((Below.refl _ _).alloc (Nat.le_refl _) _).alloc (by simp) _).alloc (by simp; omega) _)
  have z0 : Blk W0 w.heap.size 3 #[.int .i64 p] := by rw [hW0]; exact ((Blk.new _ _ _).alloc _).alloc _
  have z1 : Blk W0 (w.heap.size + 1) 22 #[.slice A n c] := by rw [hW0]; exact (Blk.new_at _ _ _ (by simp)).alloc _
  have z2 : Blk W0 (w.heap.size + 1 + 1) 3 #[.int .i64 con] := by rw [hW0]; exact Blk.new_at _ _ _ (by simp)
  have HZ := hid (And.intro z0 (And.intro z1 z2))
  have HC := hid (show ∀ W', Below W0.heap.size W0 W' → W'.cell? ⟨w.heap.size, 0, none⟩ = some (.int .i64 p) ∧ W'.cell? ⟨w.heap.size + 1, 0, none⟩ = some (.slice A n c) ∧ W'.cell? ⟨w.heap.size + 1 + 1, 0, none⟩ = some (.int .i64 con) from fun W' hb =>
    ⟨(hb.cell (p := ⟨w.heap.size, 0, none⟩) z0.lt).trans (by have := z0.cell 0; simpa using this), (hb.cell (p := ⟨w.heap.size + 1, 0, none⟩) z1.lt).trans (by have := z1.cell 0; simpa using this), (hb.cell (p := ⟨w.heap.size + 1 + 1, 0, none⟩) z2.lt).trans (by have := z2.cell 0; simpa using this)⟩)
  have HLW := hid fun W (hb : Below w.heap.size w W) => HL0.out W hb
  have HL := hid fun W (hb : Below W0.heap.size W0 W) => HLW.out W (below_call HB0.out hb HB0.out.size)
  have Qr := hid (Below.refl W0.heap.size W0)
  clear hW0 z0 z1 z2
  go_wp2_with fail
  have Bd := hid (below_drew1 Qr.out)
  have yy := HC.out _ Bd.out
  have y0 := yy.1
  have y1 := yy.2.1
  clear yy
  go_region_held3 (fun w' => w'.cell? ⟨w.heap.size, 0, none⟩ = some (.int .i64 p) ∧ w'.cell? ⟨w.heap.size + 1, 0, none⟩ = some (.slice A n c)) (first | assumption | go_keep)
    ((first
      | (go_at_call 17
         refine (HL.out _ Bd.out).mono ?_
         rintro e w2 ⟨A2, c2, rfl, o2, b2⟩
         have Q2 := hid (below_call Bd.out b2 Bd.out.size)
         have k2 : w2.cell? ⟨w.heap.size, 0, none⟩ = some (.int .i64 p) ∧ w2.cell? ⟨w.heap.size + 1, 0, none⟩ = some (.slice A n c) := ⟨(HC.out w2 Q2.out).1, (HC.out w2 Q2.out).2.1⟩
         have S2 := hid (Sl.of_own o2)
         clear o2 b2)
      | (have _h := S2.out
         go_at_call 39
         refine (HT.out _ _ _ S2.out).mono ?_
         rintro e w4 ⟨rfl, b3⟩
         have Qw4 := hid (below_call Q2.out b3 Q2.out.size)
         have k3 : w4.cell? ⟨w.heap.size, 0, none⟩ = some (.int .i64 p) ∧ w4.cell? ⟨w.heap.size + 1, 0, none⟩ = some (.slice A n c) := ⟨(HC.out w4 Qw4.out).1, (HC.out w4 Qw4.out).2.1⟩
         clear b3)))
  clear y0 y1 Q2 S2 k2 k3 Bd
  go_wp2_with fail
  have Bd := hid (below_drew1 Qw4.out)
  have yy := HC.out _ Bd.out
  have y0 := yy.1
  have y1 := yy.2.1
  clear yy
  go_region_held3 (fun w' => w'.cell? ⟨w.heap.size, 0, none⟩ = some (.int .i64 p) ∧ w'.cell? ⟨w.heap.size + 1, 0, none⟩ = some (.slice A n c)) (first | assumption | go_keep)
    ((first
      | (go_at_call 17
         refine (HL.out _ Bd.out).mono ?_
         rintro e w2 ⟨A2, c2, rfl, o2, b2⟩
         have Q2 := hid (below_call Bd.out b2 Bd.out.size)
         have k2 : w2.cell? ⟨w.heap.size, 0, none⟩ = some (.int .i64 p) ∧ w2.cell? ⟨w.heap.size + 1, 0, none⟩ = some (.slice A n c) := ⟨(HC.out w2 Q2.out).1, (HC.out w2 Q2.out).2.1⟩
         have S2 := hid (Sl.of_own o2)
         clear o2 b2)
      | (have _h := S2.out
         go_at_call 43
         refine (HA.out _ _ _ S2.out).mono ?_
         rintro e w5 ⟨rfl, b3⟩
         have Qw5 := hid (below_call Q2.out b3 Q2.out.size)
         have k3 : w5.cell? ⟨w.heap.size, 0, none⟩ = some (.int .i64 p) ∧ w5.cell? ⟨w.heap.size + 1, 0, none⟩ = some (.slice A n c) := ⟨(HC.out w5 Qw5.out).1, (HC.out w5 Qw5.out).2.1⟩
         clear b3)))
  clear y0 y1 Q2 S2 k2 k3 Bd
  go_wp2_with fail
  have Bd := hid (below_drew1 Qw5.out)
  have yy := HC.out _ Bd.out
  have y0 := yy.1
  have y1 := yy.2.1
  clear yy
  go_region_held3 (fun w' => w'.cell? ⟨w.heap.size, 0, none⟩ = some (.int .i64 p) ∧ w'.cell? ⟨w.heap.size + 1, 0, none⟩ = some (.slice A n c)) (first | assumption | go_keep)
    ((first
      | (go_at_call 17
         refine (HL.out _ Bd.out).mono ?_
         rintro e w2 ⟨A2, c2, rfl, o2, b2⟩
         have Q2 := hid (below_call Bd.out b2 Bd.out.size)
         have k2 : w2.cell? ⟨w.heap.size, 0, none⟩ = some (.int .i64 p) ∧ w2.cell? ⟨w.heap.size + 1, 0, none⟩ = some (.slice A n c) := ⟨(HC.out w2 Q2.out).1, (HC.out w2 Q2.out).2.1⟩
         have S2 := hid (Sl.of_own o2)
         clear o2 b2)
      | (have _h := S2.out
         go_at_call 44
         refine (HP.out _ _ _ S2.out).mono ?_
         rintro e w6 ⟨rfl, b3⟩
         have Qw6 := hid (below_call Q2.out b3 Q2.out.size)
         have k3 : w6.cell? ⟨w.heap.size, 0, none⟩ = some (.int .i64 p) ∧ w6.cell? ⟨w.heap.size + 1, 0, none⟩ = some (.slice A n c) := ⟨(HC.out w6 Qw6.out).1, (HC.out w6 Qw6.out).2.1⟩
         clear b3)))
  clear y0 y1 Q2 S2 k2 k3 Bd
  have yy := HC.out _ Qw6.out
  have y0 := yy.1; have y1 := yy.2.1; have y2 := yy.2.2
  have BC := hid (below_call HB0.out Qw6.out HB0.out.size)
  clear yy
  go_wp2_with fail
  refine (HCL.out _ BC.out).mono ?_; rintro e w7 ⟨rfl, rfl⟩
  go_wp2_with fail
  go_quiet (fail)
  go_wp2_with fail
  clear y0 y1 y2
  -- the concept that is asked
  have Qd := hid (below_drew1 (below_drewN Qw6.out nq))
  have yy := HC.out _ Qd.out
  have y1 := yy.2.1
  have y2 : w6.cell? ⟨w.heap.size + 1 + 1, 0, none⟩ = some (.int .i64 con) := yy.2.2
  clear yy
  obtain ⟨b, o, rfl, lb, _, ca⟩ := HS.out.num HCN.out
  have BD := hid (below_call HB0.out Qd.out HB0.out.size)
  have cc := (BD.out.cell (p := ⟨b, o + ci, none⟩) lb).trans ca
  have f2 : w6.frozen? ⟨w.heap.size + 1 + 1, 0, none⟩ = false := (HZ.out.2.2.below Qd.out HZ.out.2.2.lt).free 0
  have y1' : w6.cell? ⟨w.heap.size + 1, 0, none⟩ = some (.slice (some ⟨b, o, none⟩) n c) := y1
  have cc' : w6.cell? ⟨b, o + ci, none⟩ = some (.int .i64 (at0 xs ci)) := cc
  clear y1 cc
  go_cut [5] from 106 to 115 (fun t wx => t = .pointer (some ⟨w.heap.size + 1 + 1, 0, none⟩) ∧ Below w.heap.size w wx ∧ Blk wx w.heap.size 3 #[.int .i64 p] ∧ Blk wx (w.heap.size + 1) 22 #[.slice (some ⟨b, o, none⟩) n c] ∧ Blk wx (w.heap.size + 1 + 1) 3 #[.int .i64 (at0 xs ci)])
  case first =>
    go_region
    all_goals (go_wp2_with fail)
    all_goals go_meet
    all_goals (case rel => exact ⟨rfl, BD.out.setCell (p := ⟨w.heap.size + 1 + 1, 0, none⟩) (by simp; omega) _, (HZ.out.1.below Qd.out HZ.out.1.lt).far (p := ⟨w.heap.size + 1 + 1, 0, none⟩) (by simp; omega) _, (HZ.out.2.1.below Qd.out HZ.out.2.1.lt).far (p := ⟨w.heap.size + 1 + 1, 0, none⟩) (by simp) _, (HZ.out.2.2.below Qd.out HZ.out.2.2.lt).set 0 _⟩)
  case rest =>
  obtain ⟨rfl, hb1, z0, z1, z2⟩ := hcut
  go_wp2_with fail
  clear y2 y1' cc' ca f2
  refine at_world fun W1 hW1 => ?_
  subst hW1
  have HB1 := hid hb1
  have HZ1 := hid (And.intro z0 (And.intro z1 z2))
  clear HC HL HZ Qd Qr Qw4 Qw5 Qw6 BC BD hb1
  have HC := hid (show ∀ W', Below W1.heap.size W1 W' → W'.cell? ⟨w.heap.size, 0, none⟩ = some (.int .i64 p) ∧ W'.cell? ⟨w.heap.size + 1, 0, none⟩ = some (.slice (some ⟨b, o, none⟩) n c) ∧ W'.cell? ⟨w.heap.size + 1 + 1, 0, none⟩ = some (.int .i64 (at0 xs ci)) from fun W' hb =>
    ⟨(hb.cell (p := ⟨w.heap.size, 0, none⟩) z0.lt).trans (by have := z0.cell 0; simpa using this), (hb.cell (p := ⟨w.heap.size + 1, 0, none⟩) z1.lt).trans (by have := z1.cell 0; simpa using this), (hb.cell (p := ⟨w.heap.size + 1 + 1, 0, none⟩) z2.lt).trans (by have := z2.cell 0; simpa using this)⟩)
  have HL := hid fun W (hb : Below W1.heap.size W1 W) => HLW.out W (below_call HB1.out hb HB1.out.size)
  have HCC := hid fun s W (hb : Below W1.heap.size W1 W) => leftCl p (some ⟨b, o, none⟩) n c xs HH.out (at0 xs ci) s w.heap.size (w.heap.size + 1) (w.heap.size + 1 + 1) W (HZ1.out.1.keep hb) (HZ1.out.2.1.keep hb) (HZ1.out.2.2.keep hb) (HS.out.below (below_call HB1.out hb HB1.out.size))
  have Qr := hid (Below.refl W1.heap.size W1)
  clear z0 z1 z2 hci hci2 hun
  go_wp2_with fail
  have Bd := hid (below_drew1 Qr.out)
  have yy := HC.out _ Bd.out
  have y0 := yy.1
  have y1 := yy.2.1
  have y2 := yy.2.2
  clear yy
  go_region_held3 (fun w' => w'.cell? ⟨w.heap.size, 0, none⟩ = some (.int .i64 p) ∧ w'.cell? ⟨w.heap.size + 1, 0, none⟩ = some (.slice (some ⟨b, o, none⟩) n c) ∧ w'.cell? ⟨w.heap.size + 1 + 1, 0, none⟩ = some (.int .i64 (at0 xs ci))) (first | assumption | go_keep)
    ((first
      | (go_at_call 17
         refine (HL.out _ Bd.out).mono ?_
         rintro e w2 ⟨A2, c2, rfl, o2, b2⟩
         have Q2 := hid (below_call Bd.out b2 Bd.out.size)
         have k2 : w2.cell? ⟨w.heap.size, 0, none⟩ = some (.int .i64 p) ∧ w2.cell? ⟨w.heap.size + 1, 0, none⟩ = some (.slice (some ⟨b, o, none⟩) n c) ∧ w2.cell? ⟨w.heap.size + 1 + 1, 0, none⟩ = some (.int .i64 (at0 xs ci)) := ⟨(HC.out w2 Q2.out).1, (HC.out w2 Q2.out).2.1, (HC.out w2 Q2.out).2.2⟩
         have S2 := hid (Sl.of_own o2)
         clear o2 b2)
      | (have _h := S2.out
         go_at_call 38
         refine (HK.out _ _ _ S2.out).mono ?_
         rintro e w8 ⟨rfl, b3⟩
         have Qw8 := hid (below_call Q2.out b3 Q2.out.size)
         have k3 : w8.cell? ⟨w.heap.size, 0, none⟩ = some (.int .i64 p) ∧ w8.cell? ⟨w.heap.size + 1, 0, none⟩ = some (.slice (some ⟨b, o, none⟩) n c) ∧ w8.cell? ⟨w.heap.size + 1 + 1, 0, none⟩ = some (.int .i64 (at0 xs ci)) := ⟨(HC.out w8 Qw8.out).1, (HC.out w8 Qw8.out).2.1, (HC.out w8 Qw8.out).2.2⟩
         clear b3)))
  clear y0 y1 y2 Q2 S2 k2 k3 Bd
  have yy := HC.out _ Qw8.out
  have y0 := yy.1; have y1 := yy.2.1; have y2 := yy.2.2
  clear yy
  go_wp2_with fail
  refine (HSZ.out _).mono ?_; rintro e w9 ⟨rfl, rfl⟩
  go_wp2
  clear y0 y1 y2
  go_loopg [144] p (fun gk i wr => ∃ k : Nat, gk + k = p ∧ i = .int .i64 k ∧ Below W1.heap.size W1 wr)
  case atStart => exact ⟨0, by omega, rfl, Qw8.out⟩
  case round =>
    obtain ⟨k, hk, rfl, hb⟩ := hrel
    have HKK := hid hk; clear hk
    have QB := hid hb; clear hb
    by_cases hlt : k < p
    · have hf : Fits (k : Int) := ⟨by omega, by omega⟩
      have hx5 : key < 32 ∧ k < 5 := ⟨k32, by omega⟩
      have hbit : (bitV (key : Int) k == 1) = key.testBit k := by
        have := bitB_nat (c := (key : Int)) (by omega) k
        rw [Int.toNat_natCast] at this
        exact this
      cases hv : key.testBit k with
      | true =>
        rw [hv] at hbit
        have h2 := k4.out k hlt hv
        have HCK := hid (HCC.out (clr key k) wr QB.out)
        generalize lenL p xs (at0 xs ci) (clr key k) = N at *
        have g : decide ((N : Int) < 2) = false := decide_eq_false (by omega)
        have gn : decide (N < 2) = false := decide_eq_false (by omega)
        clear hv h2
        go_wp2_with fail
        refine (HCK.out).mono ?_; rintro e w9 ⟨rfl, b9⟩
        have Q9 := hid (below_call QB.out b9 QB.out.size)
        clear b9
        go_wp2
        go_roundg (gk - 1)
        case measure => have := HKK.out; omega
        case rel => exact ⟨k + 1, by have := HKK.out; omega, by go_num, Q9.out⟩
      | false =>
        rw [hv] at hbit
        clear hv
        go_wp2
        go_roundg (gk - 1)
        case measure => have := HKK.out; omega
        case rel => exact ⟨k + 1, by have := HKK.out; omega, by go_num, QB.out⟩
    · obtain rfl : k = p := by have := HKK.out; omega
      have HCK := hid (HCC.out key wr QB.out)
      rw [K3.out] at HCK
      go_wp2_with fail
      refine (HCK.out).mono ?_; rintro e w9 ⟨rfl, b9⟩
      have Q9 := hid (below_call QB.out b9 QB.out.size)
      clear b9
      go_wp2_with (go_at_call 21; refine (awake _).mono ?_; rintro e w10 ⟨rfl, b10⟩)
      go_ret
      exact ⟨rfl, below_call (below_call HB1.out Q9.out HB1.out.size) b10 (by have := HB1.out.size; have := Q9.out.size; omega)⟩

theorem learnTeaches_walk (w : World) (p : Int) (_ : (Lit.int .i64 p).wf = true) (A : Option Addr) (n c : Nat) (xs : List Int) (hs : Sl w A n c (xs.map (Value.int .i64))) (_ : ∀ x ∈ xs, -9223372036854775808 ≤ x ∧ x ≤ 9223372036854775807) (con : Int) (_ : (Lit.int .i64 con).wf = true) :
    Calls Try.prog 13 #[.int .i64 p, .slice A n c, .int .i64 con] w fun e w' => e = .returned (.bool true) ∧ Below w.heap.size w w' := by
  by_cases h : Cls p xs
  · obtain ⟨q, rfl⟩ := Int.eq_ofNat_of_zero_le (show 0 ≤ p by have := h.p1; omega)
    exact learnTeaches_good w q A n c xs hs con h
  · exact learnTeaches_bad w p A n c xs hs con h
end Go.Proofs.Ytpebglilphgamaa
