/- Walk of interview.wins, from what ask does with one question less. Conditions: the slice reads as a state; the map tells the truth. -/
import Derived.Test.YtdclmhmdkhpekaaWinK
import Derived.Deep.RegionHeld3
import Derived.BigQuiet
namespace Go.Proofs.Ytdclmhmdkhpekaa
open Go.RowKit Go.Maps

theorem quiet_same {P : Program} {f : FuncId} {args : Array Value} {w : World} {n : Nat} {v : Value}
    (h : Calls P f args (w.drewN n) fun e w' => e = .returned v ∧ w.drewN n = w') : Calls P f args (w.drewN n) fun e w'' => e = .returned v ∧ ∃ m, w'' = w.drewN m :=
  h.mono fun _ _ ⟨he, hm⟩ => ⟨he, n, hm.symm⟩
theorem grow_refl (w : World) (r : Option Nat) : w.grownBy w r := ⟨rfl, rfl, rfl, Nat.le_refl _, fun _ _ _ => rfl⟩
theorem grow_trans {a b c : World} {r : Option Nat} (h : a.grownBy b r) (k : b.grownBy c r) : a.grownBy c r :=
  ⟨k.os.trans h.os, k.tape.trans h.tape, k.output.trans h.output, Nat.le_trans h.size k.size, fun i hi hr => (k.block i (by have := h.size; omega) hr).trans (h.block i hi hr)⟩
theorem grow_below {a b : World} {r : Option Nat} (h : Below a.heap.size a b) : a.grownBy b r := ⟨h.os, h.tape, h.output, h.size, fun i hi _ => h.block i hi⟩

/-- A state that is played. -/
structure Plays (xs : List Int) : Prop where
  nn : Nn xs
  sum : total xs ≤ 500
theorem Plays.bd {xs : List Int} (h : Plays xs) : ∀ x ∈ xs, 0 ≤ x ∧ x ≤ 1000 := by
  intro x hx
  obtain ⟨j, hj, rfl⟩ := mem_at0 hx
  have h1 := h.nn.nn j hj
  have h2 := at0_le_total h.nn.nn hj
  have := h.sum
  omega
theorem Plays.at0 {xs : List Int} (h : Plays xs) (j : Nat) : 0 ≤ Ytdclmhmdkhpekaa.at0 xs j ∧ Ytdclmhmdkhpekaa.at0 xs j ≤ 1000 := by
  by_cases hj : j < xs.length
  · exact h.bd _ (at0_mem hj)
  · have : Ytdclmhmdkhpekaa.at0 xs j = 0 := by simp [Ytdclmhmdkhpekaa.at0, List.getD, show xs.length ≤ j by omega]
    omega
/-- An interview: its map, and a state. -/
structure Iv (w : World) (vb M : Nat) (A : Option Addr) (n c : Nat) (xs : List Int) : Prop where
  blk : Blk w vb 83 #[.map (some M)]
  memo : Memo Try.prog 112 w M OKw
  sl : Sl w A n c (xs.map (Value.int .i64))
section
variable {w w' : World} {vb M : Nat} {A : Option Addr} {n c : Nat} {xs : List Int}
theorem Iv.ne (h : Iv w vb M A n c xs) : vb ≠ M := h.memo.ne_blk h.blk
theorem Iv.grown (h : Iv w vb M A n c xs) (hg : w.grownBy w' (some M)) (hm : Memo Try.prog 112 w' M OKw) : Iv w' vb M A n c xs := by
  have hcell : ∀ (a : Addr) (v : Value), w.cell? a = some v → w'.cell? a = some v := fun a v hv =>
    (World.cell?_of_block (hg.block a.block (World.block_lt_of_cell? w a hv) (by simpa using h.memo.ne_cell hv))).trans hv
  exact ⟨h.blk.grown hg (by simpa using h.ne), hm, h.sl.len, h.sl.cap, h.sl.capm, fun hn => by
    obtain ⟨b, o, e, hb, hc⟩ := h.sl.pos hn
    exact ⟨b, o, e, Nat.lt_of_lt_of_le hb hg.size, fun j u hu => hcell _ _ (hc j u hu)⟩⟩
theorem Iv.below (h : Iv w vb M A n c xs) (hb : Below w.heap.size w w') : Iv w' vb M A n c xs := ⟨h.blk.keep hb, h.memo.keep hb, h.sl.below hb⟩
end
def WinTo (q : Nat) : Prop := ∀ (vb M : Nat) (A : Option Addr) (n c : Nat) (xs : List Int) (W : World), Plays xs → Iv W vb M A n c xs →
  Calls Try.prog 58 #[.pointer (some ⟨vb, 0, none⟩), .slice A n c, .int .i64 q] W fun e w' => e = .returned (.bool (winS q xs)) ∧ W.grownBy w' (some M) ∧ Memo Try.prog 112 w' M OKw
/-- The question that ask finds. -/
def findQ (q : Nat) (xs : List Int) : Option (List Int) := firstQ (goodQ (winS q) q xs) xs []
def AskTo (q : Nat) : Prop := ∀ (vb M : Nat) (A : Option Addr) (n c : Nat) (xs : List Int) (W : World), Plays xs → Iv W vb M A n c xs →
  Calls Try.prog 75 #[.pointer (some ⟨vb, 0, none⟩), .slice A n c, .int .i64 ((q + 1 : Nat) : Int)] W fun e w' => ∃ A' m c', e = .returned (.tuple #[.slice A' m c', .bool (findQ q xs).isSome]) ∧ W.grownBy w' (some M) ∧ Memo Try.prog 112 w' M OKw ∧
    ∀ r, findQ q xs = some r → w'.ownsRow W.heap.size 3 1 (.slice A' m c') m (r.map (Value.int .i64))
theorem winS_ask {q : Nat} {xs : List Int} (h1 : ¬ total xs ≤ 1) (h2 : weight xs ((q + 1 : Nat) : Int) ≤ p2 ((q + 1 : Nat) : Int)) : winS (q + 1) xs = (findQ q xs).isSome := by
  unfold findQ
  simp only [winS, decide_eq_false h1, decide_eq_true h2, Bool.false_or, Bool.true_and]

attribute [local go_sem ↓] shl_p2

set_option maxRecDepth 100000 in
set_option maxHeartbeats 1000000 in
theorem winZero : WinTo 0 := by
  intro vb M A n c xs W hp hv
  have hn := hv.sl.numlen
  have HS := hid (progSum A n c xs 1000 (by omega) (by have := hp.nn.hi; omega) hp.bd W hv.sl)
  have HM := hid hv.memo
  by_cases h1 : total xs ≤ 1
  · have g : decide (total xs ≤ 1) = true := decide_eq_true h1
    rw [winS_small h1]
    clear hv hp h1 hn
    go_enter Try.func58, Try.ntmps58
    go_wp2_with fail
    refine HS.out.mono ?_; rintro e w1 ⟨rfl, rfl⟩
    go_wp2
    go_ret
    exact ⟨rfl, grow_refl _ _, HM.out⟩
  · have g : decide (total xs ≤ 1) = false := decide_eq_false h1
    have hE : winS 0 xs = false := by simp [winS, h1]
    rw [hE]
    clear hv hp h1 hn hE
    go_enter Try.func58, Try.ntmps58
    go_wp2_with fail
    refine HS.out.mono ?_; rintro e w1 ⟨rfl, rfl⟩
    go_wp2_with fail
    go_quiet (fail)
    go_wp2
    go_ret
    exact ⟨rfl, grow_below (below_drewN (Below.refl _ _) nq), HM.out⟩

/-- The cells of a key, before its state is copied into it, and behind. -/
def keyCs (xs : List Int) (q : Int) : Array Value := #[.int .i64 (at0 xs 0), .int .i64 (at0 xs 1), .int .i64 (at0 xs 2), .int .i64 (at0 xs 3), .int .i64 (xs.length : Nat), .int .i64 q]
theorem key_copy {xs : List Int} (h : xs.length ≤ 4) (q : Int) : (List.take 0 [Value.int .i64 0, .int .i64 0, .int .i64 0, .int .i64 0, .int .i64 (xs.length : Nat), .int .i64 q] ++ (xs.map (Value.int .i64) ++ List.drop (0 + (xs.map (Value.int .i64)).length) [Value.int .i64 0, .int .i64 0, .int .i64 0, .int .i64 0, .int .i64 (xs.length : Nat), .int .i64 q])).toArray = keyCs xs q := by
  match xs, h with
  | [], _ => rfl
  | [a], _ => rfl
  | [a, b], _ => rfl
  | [a, b, c], _ => rfl
  | [a, b, c, d], _ => rfl
  | a :: b :: c :: d :: e :: l, h => simp at h

set_option maxRecDepth 100000 in
set_option maxHeartbeats 4000000 in
theorem winStep (q : Nat) (hq : q ≤ 50) (HA : AskTo q) : WinTo (q + 1) := by
  intro vb M A n c xs W hp hv
  have hn := hv.sl.numlen
  have hn4 : n ≤ 4 := by have := hp.nn.hi; omega
  have hn1 : 1 ≤ n := by have := hp.nn.lo; omega
  have HS := hid (progSum A n c xs 1000 (by omega) (by omega) hp.bd W hv.sl)
  have HM := hid hv.memo
  by_cases h1 : total xs ≤ 1
  · have g : decide (total xs ≤ 1) = true := decide_eq_true h1
    rw [winS_small h1]
    clear hv hp h1 hn
    go_enter Try.func58, Try.ntmps58
    go_wp2_with fail
    refine HS.out.mono ?_; rintro e w1 ⟨rfl, rfl⟩
    go_wp2
    go_ret
    exact ⟨rfl, grow_refl _ _, HM.out⟩
  have g : decide (total xs ≤ 1) = false := decide_eq_false h1
  have g0 : (((q + 1 : Nat) : Int) == 0) = false := by rw [beq_eq_false_iff_ne]; omega
  have g00 : (((q : Int) + 1) == 0) = false := by rw [beq_eq_false_iff_ne]; omega
  have FQ : Fits ((q + 1 : Nat) : Int) := ⟨by omega, by omega⟩
  have FQ2 : Fits ((q : Int) + 1) := ⟨by omega, by omega⟩
  have HW := hid fun m => (show Calls Try.prog 64 #[.slice A n c, .int .i64 ((q : Int) + 1)] (W.drewN m) fun e w' => e = .returned (.int .i64 (weight xs ((q : Int) + 1))) ∧ W.drewN m = w' from progWeight A n c xs ((q + 1 : Nat) : Int) (by omega) (by omega) hn4 hp.bd (W.drewN m) (hv.sl.drewN m))
  by_cases h2 : p2 ((q + 1 : Nat) : Int) < weight xs ((q + 1 : Nat) : Int)
  · have k : decide (p2 ((q + 1 : Nat) : Int) < weight xs ((q + 1 : Nat) : Int)) = true := decide_eq_true h2
    have k2 : decide (p2 ((q : Int) + 1) < weight xs ((q : Int) + 1)) = true := k
    have hE : winS (q + 1) xs = false := by
      simp only [winS, decide_eq_false h1, decide_eq_false (show ¬ weight xs ((q + 1 : Nat) : Int) ≤ p2 ((q + 1 : Nat) : Int) by omega), Bool.false_or, Bool.false_and]
    rw [hE]
    clear hv hp h1 h2 hn hE
    go_enter Try.func58, Try.ntmps58
    go_wp2_with fail
    refine HS.out.mono ?_; rintro e w1 ⟨rfl, rfl⟩
    go_wp2_with fail
    go_quiet ((go_at_call 64; with_reducible exact quiet_same (HW.out _)))
    go_wp2
    go_ret
    exact ⟨rfl, grow_below (below_drewN (Below.refl _ _) nq), HM.out⟩
  have k : decide (p2 ((q + 1 : Nat) : Int) < weight xs ((q + 1 : Nat) : Int)) = false := decide_eq_false h2
  have k2 : decide (p2 ((q : Int) + 1) < weight xs ((q : Int) + 1)) = false := k
  have hE := winS_ask (q := q) h1 (by omega)
  rw [hE]
  have HE := hid hE
  have HV := hid hv; have HP := hid hp; have HN := hid hn
  clear hE h1 h2 hv hp
  go_enter Try.func58, Try.ntmps58
  go_wp2_with fail
  refine HS.out.mono ?_; rintro e w1 ⟨rfl, rfl⟩
  go_wp2_with fail
  go_quiet ((go_at_call 64; with_reducible exact quiet_same (HW.out _)))
  have HV2 := hid (HV.out.below (below_drewN (Below.refl _ _) nq))
  have HG2 := hid (grow_below (below_drewN (Below.refl W.heap.size W) nq) (r := some M))
  generalize W.drewN nq = W2 at *
  have hl4 : xs.length ≤ 4 := by have := HN.out; omega
  have HKC := hid (key_copy hl4 ((q : Int) + 1))
  have hsl3 := (HV2.out.sl.alloc (.cells #[.int .i64 0, .int .i64 0, .int .i64 0, .int .i64 0, .int .i64 (n : Int), .int .i64 ((q : Int) + 1)] 112))
  have hb3 : Blk (W2.alloc (.cells #[.int .i64 0, .int .i64 0, .int .i64 0, .int .i64 0, .int .i64 (n : Int), .int .i64 ((q : Int) + 1)] 112)) W2.heap.size 112 #[.int .i64 0, .int .i64 0, .int .i64 0, .int .i64 0, .int .i64 (n : Int), .int .i64 ((q : Int) + 1)] := Blk.new _ _ _
  obtain ⟨b, o, rfl, lb, hcs⟩ := hsl3.pos (by omega)
  have hadd : ∀ j, (⟨b, o, none⟩ : Addr).add j = ⟨b, o + j, none⟩ := fun j => by unfold Addr.add; split <;> simp_all
  have hxl : (xs.map (Value.int .i64)).length = n := by simpa using HN.out
  have HCS := hid (show ∀ j v, (xs.map (Value.int .i64))[j]? = some v → (W2.alloc (.cells #[.int .i64 0, .int .i64 0, .int .i64 0, .int .i64 0, .int .i64 (n : Int), .int .i64 ((q : Int) + 1)] 112)).cell? ((⟨b, o, none⟩ : Addr).add j) = some v from fun j v h => by rw [hadd]; exact hcs j v h)
  have HXL := hid hxl
  clear hcs hadd hsl3 hxl
  have h34 : (Try.prog.info? 3).map (·.size) = some 1 := by kernel_rfl
  have hcp := run_copy_row (P := Try.prog) (W2.alloc (.cells #[.int .i64 0, .int .i64 0, .int .i64 0, .int .i64 0, .int .i64 (n : Int), .int .i64 ((q : Int) + 1)] 112)) 34 79 3 3 W2.heap.size 0 4 4 ⟨b, o, none⟩ n c #[.int .i64 0, .int .i64 0, .int .i64 0, .int .i64 0, .int .i64 (n : Int), .int .i64 ((q : Int) + 1)] 112 (xs.map (Value.int .i64)) Try.underlying34 h34 hb3 (by rw [HXL.out]; exact (Nat.min_eq_left hn4).symm) HCS.out (by rw [HXL.out]; simp; omega) (by simp [Value.oneCell'])
  have hkc := HKC.out
  rw [HN.out] at hkc
  rw [show (#[Value.int .i64 0, .int .i64 0, .int .i64 0, .int .i64 0, .int .i64 (n : Int), .int .i64 ((q : Int) + 1)] : Array Value).toList = [Value.int .i64 0, .int .i64 0, .int .i64 0, .int .i64 0, .int .i64 (n : Int), .int .i64 ((q : Int) + 1)] from rfl, List.append_assoc, hkc, HXL.out] at hcp
  have hb4 : Blk ((W2.alloc (.cells #[.int .i64 0, .int .i64 0, .int .i64 0, .int .i64 0, .int .i64 (n : Int), .int .i64 ((q : Int) + 1)] 112)).setRow W2.heap.size (keyCs xs ((q : Int) + 1))) W2.heap.size 112 (keyCs xs ((q : Int) + 1)) := setRow_heap _ _ _ _ _ _ hb3
  have hbl : Below W2.heap.size W2 ((W2.alloc (.cells #[.int .i64 0, .int .i64 0, .int .i64 0, .int .i64 0, .int .i64 (n : Int), .int .i64 ((q : Int) + 1)] 112)).setRow W2.heap.size (keyCs xs ((q : Int) + 1))) := below_setRow ((Below.refl _ _).alloc (Nat.le_refl _) _) (Nat.le_refl _) _
  generalize (W2.alloc (.cells #[.int .i64 0, .int .i64 0, .int .i64 0, .int .i64 0, .int .i64 (n : Int), .int .i64 ((q : Int) + 1)] 112)).setRow W2.heap.size (keyCs xs ((q : Int) + 1)) = W3 at *
  have HV3 := hid (HV2.out.below hbl)
  have HG3 := hid (grow_trans HG2.out (grow_below hbl))
  have HB4 := hid hb4
  have k0 := hb4.cell 0; have k1 := hb4.cell 1; have k2 := hb4.cell 2; have k3 := hb4.cell 3; have k4 := hb4.cell 4; have k5 := hb4.cell 5
  simp [keyCs] at k0 k1 k2 k3 k4 k5
  have hkv := HV3.out.blk.cell 0
  simp at hkv
  have hky := key_some (xs := xs) (q := ((q + 1 : Nat) : Int)) HP.out.at0 hl4 ⟨by omega, by omega⟩
  obtain ⟨kl, hkl⟩ := hky
  have HKL := hid hkl
  clear hb3 hb4 hbl hkl HCS HKC hkc
  have hz4 : ∀ W : World, (zeroValue 4).run Try.prog W = .ok (.bool false) W := by intro W; simp [go_sem]
  rcases HV3.out.memo.look K112 M81 hz4 HKL.out (.bool (winS (q + 1) xs)) (fun v hv => hv xs (q + 1) hl4 rfl) with hlk | hlk
  · have hlk0 : ∀ m, (Instr.lookup 81 (.map (some M)) (.agg #[.int .i64 (at0 xs 0), .int .i64 (at0 xs 1), .int .i64 (at0 xs 2), .int .i64 (at0 xs 3), .int .i64 (n : Int), .int .i64 ((q : Int) + 1)]) true).run Try.prog (W3.drewN m) = .ok (.tuple #[.bool (winS (q + 1) xs), .bool true]) (W3.drewN m) := by rw [← HN.out]; exact hlk
    rw [HE.out] at hlk0
    clear hlk
    go_wp2_with fail
    go_quiet (fail)
    go_wp2
    go_ret
    exact ⟨rfl, grow_trans HG3.out (grow_below (below_drewN (Below.refl _ _) nq)), HV3.out.memo⟩
  · have hlk0 : ∀ m, (Instr.lookup 81 (.map (some M)) (.agg #[.int .i64 (at0 xs 0), .int .i64 (at0 xs 1), .int .i64 (at0 xs 2), .int .i64 (at0 xs 3), .int .i64 (n : Int), .int .i64 ((q : Int) + 1)]) true).run Try.prog (W3.drewN m) = .ok (.tuple #[.bool false, .bool false]) (W3.drewN m) := by rw [← HN.out]; exact hlk
    clear hlk
    go_wp2_with fail
    go_quiet (fail)
    go_wp2_with fail
    have HV4 := hid (HV3.out.below (below_drewN (Below.refl _ _) nq))
    have HG4 := hid (grow_trans HG3.out (grow_below (below_drewN (Below.refl W3.heap.size W3) nq)))
    have HB5 := hid (HB4.out.drewN nq)
    clear k0 k1 k2 k3 k4 k5 hkv hlk0
    generalize W3.drewN nq = W4 at *
    have HAC := hid (show Calls Try.prog 75 #[.pointer (some ⟨vb, 0, none⟩), .slice (some ⟨b, o, none⟩) n c, .int .i64 ((q : Int) + 1)] W4 fun e w' => ∃ A' m c', e = .returned (.tuple #[.slice A' m c', .bool (findQ q xs).isSome]) ∧ W4.grownBy w' (some M) ∧ Memo Try.prog 112 w' M OKw ∧
      ∀ r, findQ q xs = some r → w'.ownsRow W4.heap.size 3 1 (.slice A' m c') m (r.map (Value.int .i64)) from HA vb M (some ⟨b, o, none⟩) n c xs W4 HP.out HV4.out)
    refine HAC.out.mono ?_; rintro e w5 ⟨A5, m5, c5, rfl, g5, mm5, _⟩
    have hv5 := HV4.out.grown g5 mm5
    have hb5 := HB5.out.grown g5 (by simpa using HV4.out.memo.ne_blk HB5.out)
    obtain ⟨w6, hu, mm6, g6⟩ := (mm5.drew).update K112 M81 HKL.out (val := .bool (winS (q + 1) xs)) (OKw_mk hl4)
    have hu' : (Instr.mapUpdate 81 (.map (some M)) (.agg #[.int .i64 (at0 xs 0), .int .i64 (at0 xs 1), .int .i64 (at0 xs 2), .int .i64 (at0 xs 3), .int .i64 (n : Int), .int .i64 ((q : Int) + 1)]) (.bool (findQ q xs).isSome)).run Try.prog w5.drew = .ok () w6 := by rw [← HN.out, ← HE.out]; exact hu
    have g56 : w5.grownBy w6 (some M) := ⟨g6.os, g6.tape, g6.output, g6.size, g6.block⟩
    have hv6 := hv5.grown g56 mm6
    have hb6 := hb5.grown g56 (by simpa using mm5.ne_blk hb5)
    have y5 : w5.cell? ⟨vb, 0, none⟩ = some (.map (some M)) ∧ w5.cell? ⟨W2.heap.size, 0, none⟩ = some (.int .i64 (at0 xs 0)) ∧ w5.cell? ⟨W2.heap.size, 1, none⟩ = some (.int .i64 (at0 xs 1)) ∧ w5.cell? ⟨W2.heap.size, 2, none⟩ = some (.int .i64 (at0 xs 2)) ∧ w5.cell? ⟨W2.heap.size, 3, none⟩ = some (.int .i64 (at0 xs 3)) ∧ w5.cell? ⟨W2.heap.size, 4, none⟩ = some (.int .i64 (n : Int)) ∧ w5.cell? ⟨W2.heap.size, 5, none⟩ = some (.int .i64 ((q : Int) + 1)) := ⟨by simpa using hv5.blk.cell 0, by simpa [keyCs] using hb5.cell 0, by simpa [keyCs] using hb5.cell 1, by simpa [keyCs] using hb5.cell 2, by simpa [keyCs] using hb5.cell 3, by rw [← HN.out]; simpa [keyCs] using hb5.cell 4, by simpa [keyCs] using hb5.cell 5⟩
    have y6 : w6.cell? ⟨vb, 0, none⟩ = some (.map (some M)) ∧ w6.cell? ⟨W2.heap.size, 0, none⟩ = some (.int .i64 (at0 xs 0)) ∧ w6.cell? ⟨W2.heap.size, 1, none⟩ = some (.int .i64 (at0 xs 1)) ∧ w6.cell? ⟨W2.heap.size, 2, none⟩ = some (.int .i64 (at0 xs 2)) ∧ w6.cell? ⟨W2.heap.size, 3, none⟩ = some (.int .i64 (at0 xs 3)) ∧ w6.cell? ⟨W2.heap.size, 4, none⟩ = some (.int .i64 (n : Int)) ∧ w6.cell? ⟨W2.heap.size, 5, none⟩ = some (.int .i64 ((q : Int) + 1)) := ⟨by simpa using hv6.blk.cell 0, by simpa [keyCs] using hb6.cell 0, by simpa [keyCs] using hb6.cell 1, by simpa [keyCs] using hb6.cell 2, by simpa [keyCs] using hb6.cell 3, by rw [← HN.out]; simpa [keyCs] using hb6.cell 4, by simpa [keyCs] using hb6.cell 5⟩
    have HG6 := hid (grow_trans (grow_trans HG4.out g5) g56)
    have HM6 := hid mm6
    clear hv5 hb5 hu g6 mm6 g56 hv6 hb6 g5 mm5
    go_wp2_with fail
    go_region_held3 (fun w' => w'.cell? ⟨vb, 0, none⟩ = some (.map (some M)) ∧ w'.cell? ⟨W2.heap.size, 0, none⟩ = some (.int .i64 (at0 xs 0)) ∧ w'.cell? ⟨W2.heap.size, 1, none⟩ = some (.int .i64 (at0 xs 1)) ∧ w'.cell? ⟨W2.heap.size, 2, none⟩ = some (.int .i64 (at0 xs 2)) ∧ w'.cell? ⟨W2.heap.size, 3, none⟩ = some (.int .i64 (at0 xs 3)) ∧ w'.cell? ⟨W2.heap.size, 4, none⟩ = some (.int .i64 (n : Int)) ∧ w'.cell? ⟨W2.heap.size, 5, none⟩ = some (.int .i64 ((q : Int) + 1))) (first | assumption | exact y5 | exact y6 | go_keep) (fail)
    go_wp2
    go_ret
    exact ⟨rfl, HG6.out, HM6.out⟩
end Go.Proofs.Ytdclmhmdkhpekaa
