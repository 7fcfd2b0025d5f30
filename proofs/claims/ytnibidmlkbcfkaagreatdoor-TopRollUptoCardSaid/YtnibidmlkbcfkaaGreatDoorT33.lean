/- Walk of order's counted. Condition: an order of one to six elements; the library's table stands. -/
import Derived.Test.YtnibidmlkbcfkaaGreatDoorT32
import Derived.Test.YtnibidmlkbcfkaaGreatDoorT31
namespace Go.Proofs.YtnibidmlkbcfkaaGreatDoor
open Go.RowKit Go.Shelf
attribute [local go_sem] Oper.semAt_some
attribute [local go_sem ↓] shl_p2 shr_v and_shr
set_option maxRecDepth 100000 in
set_option maxHeartbeats 1000000 in
theorem allF (n : Nat) (a : Nat → Nat → Bool) (hn : n ≤ 6) (w : World) :
 Calls Tryz.prog 74 #[.agg (ordC n a)] w fun e w' => e = .returned (.int .i64 ((2 ^ n - 1 : Nat) : Int)) ∧ Below w.heap.size w w' := by
 have HB := hid ((Below.refl w.heap.size w).alloc (Nat.le_refl _) (.cells (ordC n a) 78))
 have HBL := hid (Blk.new w 78 (ordC n a))
 have c0 := HBL.out.cell 0
 simp only [ordC, List.getElem?_toArray, List.getElem?_cons_zero] at c0
 have fn : Fits (n : Int) := ⟨by omega, by omega⟩
 have hp : p2 n = ((2 ^ n : Nat) : Int) := p2_nat n
 have hp1 : 0 < 2 ^ n := Nat.pow_pos (by decide)
 have hp6 : 2 ^ n ≤ 2 ^ 6 := Nat.pow_le_pow_right (by decide) hn
 have hw1 : wrap64 (p2 n - 1) = ((2 ^ n - 1 : Nat) : Int) := by rw [hp]; simp only [wrap64]; omega
 have hw2 : IntKind.i64.wrap (p2 n - 1) = ((2 ^ n - 1 : Nat) : Int) := by rw [Go.IntWalk.i64_in _ (by rw [hp]; omega), hp]; omega
 generalize ((2 ^ n - 1 : Nat) : Int) = q at *
 unfold ordC at HB ⊢
 clear hp hp1 hp6
 go_enter Tryz.func74, Tryz.ntmps74
 go_wp2
 go_ret
 exact ⟨ret_i (by first | exact hw1 | exact hw2 | rfl), HB.out⟩
/-- The walk's slots, where a round begins. -/
def cnT (v0 : Value) (b1 wb c4 N : Nat) (s15 : Value) (f : Nat → Value) : Array Value := #[v0, .pointer (some ⟨b1, 0, none⟩), .int .i64 0, .pointer (some ⟨wb + 1, 0, none⟩), .pointer (some ⟨c4, 0, none⟩), f 5, v0, .int .i64 ((N - 1 : Nat) : Int), .int .i64 (N : Nat), .slice (some ⟨wb, 0, none⟩) N N, .slice (some ⟨wb, 0, none⟩) N N, .pointer (some ⟨wb, 0, none⟩), f 12, f 13, f 14, s15, f 16, f 17, f 18, f 19, f 20, f 21, f 22, f 23, f 24, f 25, f 26, f 27, f 28, f 29, f 30, f 31, f 32, f 33, f 34, f 35, f 36, f 37, f 38, f 39, f 40, f 41, f 42, f 43, f 44, f 45, f 46, f 47, f 48, f 49, f 50, f 51, f 52, f 53, f 54]
theorem cnT_ex {v0 s15 : Value} {b1 wb c4 N : Nat} {T : Array Value} (h : T = cnT v0 b1 wb c4 N s15 (fun i => T.getD i undef)) : ∃ f, T = cnT v0 b1 wb c4 N s15 f := ⟨_, h⟩
theorem cnA_ex {v0 s15 : Value} {b1 wb c4 N : Nat} {T : Array Value} {D : List Deferred} (h : T = cnT v0 b1 wb c4 N s15 (fun i => T.getD i undef)) : ∃ f, ({ tmps := T, defers := D } : Act) = { tmps := cnT v0 b1 wb c4 N s15 f, defers := D } := ⟨_, congrArg (fun T => ({ tmps := T, defers := D } : Act)) h⟩
def cnR (v0 : Value) (b1 wb c4 N x : Nat) (s35 : Value) (f : Nat → Value) : Array Value := #[v0, .pointer (some ⟨b1, 0, none⟩), .int .i64 0, .pointer (some ⟨wb + 1, 0, none⟩), .pointer (some ⟨c4, 0, none⟩), .int .i64 (x : Nat), v0, .int .i64 ((N - 1 : Nat) : Int), .int .i64 (N : Nat), .slice (some ⟨wb, 0, none⟩) N N, .slice (some ⟨wb, 0, none⟩) N N, .pointer (some ⟨wb, 0, none⟩), f 12, f 13, f 14, f 15, f 16, f 17, f 18, f 19, f 20, f 21, f 22, f 23, f 24, f 25, f 26, f 27, f 28, f 29, f 30, f 31, f 32, f 33, f 34, s35, f 36, f 37, f 38, f 39, f 40, f 41, f 42, f 43, f 44, f 45, f 46, f 47, f 48, f 49, f 50, f 51, f 52, f 53, f 54]
theorem cnR_ex {v0 s35 : Value} {b1 wb c4 N x : Nat} {T : Array Value} (h : T = cnR v0 b1 wb c4 N x s35 (fun i => T.getD i undef)) : ∃ f, ({ tmps := T, defers := [] } : Act) = { tmps := cnR v0 b1 wb c4 N x s35 f, defers := [] } := ⟨_, congrArg (fun T => ({ tmps := T, defers := [] } : Act)) h⟩
def waysP (n : Nat) (a : Nat → Nat → Bool) (m k : Nat) (s : Nat) : Int := if s = m then ((((bitsL m).take k).map (term n a m)).sum : Nat) else waysV n a m s
theorem waysP_zero (n : Nat) (a : Nat → Nat → Bool) (m : Nat) (s : Nat) : waysP n a m 0 s = waysV n a m s := by
 unfold waysP
 by_cases h : s = m
 · subst h
   rw [if_pos rfl, List.take_zero]
   unfold waysV
   rw [if_neg (Nat.lt_irrefl _)]
   rfl
 · rw [if_neg h]
theorem waysP_same {n : Nat} {a : Nat → Nat → Bool} {m k x : Nat} (h : (bitsL m).take (k + 1) = (bitsL m).take k ++ [x]) (ht : term n a m x = 0) (s : Nat) : waysP n a m (k + 1) s = waysP n a m k s := by
 unfold waysP
 rw [h, List.map_append, List.sum_append]
 simp [ht]
theorem waysP_more {n : Nat} {a : Nat → Nat → Bool} {m k x : Nat} (h : (bitsL m).take (k + 1) = (bitsL m).take k ++ [x]) (s : Nat) : waysP n a m (k + 1) s = if s = m then ((((((bitsL m).take k).map (term n a m)).sum + term n a m x : Nat)) : Int) else waysP n a m k s := by
 unfold waysP
 by_cases e : s = m
 · rw [if_pos e, if_pos e, h, List.map_append, List.sum_append]
   simp
 · rw [if_neg e, if_neg e, if_neg e]
theorem waysP_full {n : Nat} {a : Nat → Nat → Bool} {m : Nat} (h64 : m < 64) (h0 : m ≠ 0) (s : Nat) : waysP n a m (bitsL m).length s = waysV n a (m + 1) s := by
 unfold waysP waysV
 by_cases e : s = m
 · subst e
   rw [if_pos rfl, if_pos (Nat.lt_succ_self s), List.take_length, ways_eq h64 h0]
 · rw [if_neg e]
   by_cases e2 : s < m
   · rw [if_pos e2, if_pos (Nat.lt_succ_of_lt e2)]
   · rw [if_neg e2, if_neg (by omega)]
theorem lt_of_some {W : World} {r : Nat} {o : Obj} (h : W.heap[r]? = some o) : r < W.heap.size := (Array.getElem?_eq_some_iff.1 h).1
theorem sum_wr {a b : Nat} (h : a + b ≤ 100000) : wrap64 ((a : Int) + (b : Int)) = (a : Int) + (b : Int) ∧ IntKind.i64.wrap ((a : Int) + (b : Int)) = (a : Int) + (b : Int) := ⟨by simp only [wrap64]; omega, Go.IntWalk.i64_in _ (by omega)⟩
def cnK (t : Act) (W : World) : Nat := match t.tmps.getD 4 undef with
 | .pointer (some p) => boxN W p.block
 | _ => 0
theorem waysV_one (n : Nat) (a : Nat → Nat → Bool) (N : Nat) : arr N (waysV n a 1) = (arr N fun _ => 0).setIfInBounds 0 (.int .i64 1) := by
 rw [arr_set]
 refine arr_congr fun i _ => ?_
 unfold waysV
 by_cases h : i = 0
 · subst h; rfl
 · rw [if_neg (by omega), if_neg h]
set_option maxRecDepth 100000 in
set_option maxHeartbeats 8000000 in
theorem countedF (n : Nat) (a : Nat → Nat → Bool) (hn1 : 1 ≤ n) (hn : n ≤ 6) (ho : OrdOk n a) (w : World) (hT : Tab w) :
 Calls Tryz.prog 44 #[.agg (ordC n a)] w fun e w' => e = .returned (.int .i64 (allW n a : Nat)) ∧ Below w.heap.size w w' := by
 refine (callsIn_wide (n := 9)).1 ?_
 refine callsIn_of_wp_marks Tryz.func44 rfl trivial ?_ rfl
 simp only [Tryz.ntmps44, List.size_toArray, List.length_cons, List.length_nil, Nat.reduceAdd, Nat.reduceSub, Array.replicate_succ, Array.replicate_zero, List.push_toArray, List.append_toArray, List.nil_append, List.cons_append]
 have HT := hid hT
 have HAL := hid fun W => allF n a hn W
 obtain ⟨N, hN⟩ : ∃ N, N = 2 ^ n := ⟨_, rfl⟩
 have hN6 : N ≤ 64 := by rw [hN]; exact (Nat.pow_le_pow_right (by omega) hn : 2 ^ n ≤ 2 ^ 6)
 have hN1 : 2 ≤ N := by rw [hN]; exact (Nat.pow_le_pow_right (by omega) hn1 : 2 ^ 1 ≤ 2 ^ n)
 rw [← hN] at HAL
 have hw1 : wrap64 (((N - 1 : Nat) : Int) + 1) = (N : Int) := by simp only [wrap64]; omega
 have hw2 : IntKind.i64.wrap (((N - 1 : Nat) : Int) + 1) = (N : Int) := by rw [Go.IntWalk.i64_in _ (by omega)]; omega
 have HMKE := hid fun W => makeInts N (by omega) W
 have hmk : ∀ W : World, (Instr.makeSlice 36 (.int .i64 (N : Int)) (.int .i64 (N : Int))).run Tryz.prog W = .ok (.slice (some ⟨W.heap.size, 0, none⟩) N N) (W.alloc (.cells (arr N fun _ => 0) 3)) := HMKE.out
 have X0 := hid (Blk.new w 78 (ordC n a))
 have XB := hid ((Below.refl w.heap.size w).alloc (Nat.le_refl _) (.cells (ordC n a) 78))
 have HNN := hid (And.intro hN (And.intro hN1 hN6))
 have HOK := hid ho
 clear hT hN ho
 unfold ordC at X0 XB HAL ⊢
 have o0 := X0.out.cell 0
 have o1 := X0.out.cell 1
 have o2 := X0.out.cell 2
 have o3 := X0.out.cell 3
 have o4 := X0.out.cell 4
 have o5 := X0.out.cell 5
 have o6 := X0.out.cell 6
 simp only [List.getElem?_toArray, List.getElem?_cons_zero, List.getElem?_cons_succ] at o0 o1 o2 o3 o4 o5 o6
 gi_wp2_with fail
 refine ⟨trivial, (callsIn_wide.2 (HAL.out _)).mono ?_⟩
 rintro e w1 ⟨rfl, b1⟩
 have X0 := hid (X0.out.keep b1)
 have X00 := X0
 have XB := hid (below_call XB.out b1 XB.out.size)
 have XBB := XB
 have HL1 := hid (show w.heap.size + 1 ≤ w1.heap.size from X0.out.lt)
 have HWB := HL1
 have bA := ((Below.refl w1.heap.size w1).alloc (Nat.le_refl _) (.cells (arr N fun _ => 0) 3)).alloc (by simp) (.cells #[.slice (some ⟨w1.heap.size, 0, none⟩) N N] 36)
 have XW := hid ((Blk.new w1 3 (arr N fun _ => 0)).alloc (.cells #[.slice (some ⟨w1.heap.size, 0, none⟩) N N] 36))
 have X3 := hid (Blk.new_at (w1.alloc (.cells (arr N fun _ => 0) 3)) 36 #[.slice (some ⟨w1.heap.size, 0, none⟩) N N] (n := w1.heap.size + 1) (by simp))
 have X0 := hid (X0.out.keep bA)
 have XB := hid (below_call XB.out bA XB.out.size)
 have k3 := X3.out.cell 0
 simp only [List.getElem?_toArray, List.getElem?_cons_zero] at k3
 have kz := XW.out.cell 0
 rw [arr_get (by omega)] at kz
 have kf := XW.out.free 0
 have hN0 : (0 : Int) < (N : Int) := by omega
 clear b1 bA o0 o1 o2 o3 o4 o5 o6
 have Y0 := hid ((show Blk ((w1.alloc (.cells ((arr N fun _ => 0).setIfInBounds 0 (.int .i64 1)) 3)).alloc (.cells #[.slice (some ⟨w1.heap.size, 0, none⟩) N N] 36)) w.heap.size 78 #[.int .i64 (n : Nat), .int .i64 (oc n a 0), .int .i64 (oc n a 1), .int .i64 (oc n a 2), .int .i64 (oc n a 3), .int .i64 (oc n a 4), .int .i64 (oc n a 5)] from X00.out.keep (((Below.refl w1.heap.size w1).alloc (Nat.le_refl _) _).alloc (by simp) _)).alloc (.cells #[.int .i64 1] 3))
 have YW := hid (((Blk.new w1 3 ((arr N fun _ => 0).setIfInBounds 0 (.int .i64 1))).alloc (.cells #[.slice (some ⟨w1.heap.size, 0, none⟩) N N] 36)).alloc (.cells #[.int .i64 1] 3))
 have Y3 := hid ((Blk.new_at (w1.alloc (.cells ((arr N fun _ => 0).setIfInBounds 0 (.int .i64 1)) 3)) 36 #[.slice (some ⟨w1.heap.size, 0, none⟩) N N] (n := w1.heap.size + 1) (by simp)).alloc (.cells #[.int .i64 1] 3))
 have Y4 := hid (Blk.new_at ((w1.alloc (.cells ((arr N fun _ => 0).setIfInBounds 0 (.int .i64 1)) 3)).alloc (.cells #[.slice (some ⟨w1.heap.size, 0, none⟩) N N] 36)) 3 #[.int .i64 1] (n := w1.heap.size + 1 + 1) (by simp))
 have YB := hid (below_call XBB.out ((((Below.refl w1.heap.size w1).alloc (Nat.le_refl _) (.cells ((arr N fun _ => 0).setIfInBounds 0 (.int .i64 1)) 3)).alloc (by simp) (.cells #[.slice (some ⟨w1.heap.size, 0, none⟩) N N] 36)).alloc (by simp; omega) (.cells #[.int .i64 1] 3)) XBB.out.size)
 rw [← waysV_one n a N] at YW Y0 Y3 Y4 YB
 gi_wp2_with fail
 rw [← waysV_one n a N]
 generalize ((w1.alloc (.cells (arr N (waysV n a 1)) 3)).alloc (.cells #[.slice (some ⟨w1.heap.size, 0, none⟩) N N] 36)).alloc (.cells #[.int .i64 1] 3) = W1 at *
 generalize hwb : w1.heap.size = wb at *
 have hwb2 : w.heap.size + 1 ≤ wb := by have := HL1.out; have := HWB.out; omega
 have HWL := hid hwb2
 clear hwb hwb2 kz kf k3 hmk hw1 hw2 XBB X00 X0 XW X3 XB
 obtain ⟨v0, hv0⟩ : ∃ v0, v0 = Value.agg #[.int .i64 (n : Nat), .int .i64 (oc n a 0), .int .i64 (oc n a 1), .int .i64 (oc n a 2), .int .i64 (oc n a 3), .int .i64 (oc n a 4), .int .i64 (oc n a 5)] := ⟨_, rfl⟩
 rw [← hv0]
 have HV0 := hid hv0
 clear hv0
 obtain ⟨I, hI⟩ : ∃ I : Act → World → Prop, I = fun t W => ∃ (m c4 : Nat) (Ds : List Nat), 1 ≤ m ∧ m ≤ N ∧ (∃ s15 f, t.tmps = cnT v0 w.heap.size wb c4 N s15 f) ∧ t.defers = marks Ds ∧ Blk W w.heap.size 78 #[.int .i64 (n : Nat), .int .i64 (oc n a 0), .int .i64 (oc n a 1), .int .i64 (oc n a 2), .int .i64 (oc n a 3), .int .i64 (oc n a 4), .int .i64 (oc n a 5)] ∧ Blk W wb 3 (arr N (waysV n a m)) ∧ Blk W (wb + 1) 36 #[.slice (some ⟨wb, 0, none⟩) N N] ∧ Blk W c4 3 #[.int .i64 (m : Nat)] ∧ Below w.heap.size w W ∧ MarkS w.heap.size Ds W ∧ wb + 2 ≤ c4 := ⟨_, rfl⟩
 have HI := hid hI
 refine wpIn_loop I (fun t W => N - cnK t W) ?_ ?_
 · rw [hI]
   exact ⟨1, wb + 1 + 1, [], Nat.le_refl _, by have := HNN.out.2.1; omega, ⟨_, cnT_ex rfl⟩, rfl, Y0.out, YW.out, Y3.out, Y4.out, YB.out, MarkS.nil _ _, by omega⟩
 clear hI Y0 YW Y3 Y4 YB
 intro t W2 hin
 rw [HI.out] at hin
 obtain ⟨m, c4, Ds, hm1, hmN, ⟨s15, f, hf⟩, hds, h0, h2, h3, h4, h5, h6, hc4⟩ := hin
 obtain ⟨tt, td⟩ := t
 simp only at hf hds
 subst hf hds
 have HMK : Hid (N - cnK { tmps := cnT v0 w.heap.size wb c4 N s15 f, defers := marks Ds } W2 = N - m) := hid (by show N - boxN W2 c4 = N - m; rw [boxN_of h4])
 have X0 := hid h0
 have XW := hid h2
 have X3 := hid h3
 have X4 := hid h4
 have XB := hid h5
 have XM := hid h6
 have HC4 := hid hc4
 have HM := hid (And.intro hm1 hmN)
 clear h0 h2 h3 h4 h5 h6 hc4
 rw [HMK.out]
 unfold cnT
 gi_wp2_with fail
 have HMX : Tryz.prog.follows .mixedOrders = true := by kernel_rfl
 by_cases hlt : m < N
 · have HLT := hid hlt
   have g15 : decide ((m : Int) ≤ ((N - 1 : Nat) : Int)) = true := decide_eq_true (by omega)
   refine wpIn_mono (Q := fun e t wx => match e with | .normal => (∃ f, t = ({ tmps := cnT v0 w.heap.size wb c4 N (.bool true) f, defers := marks Ds } : Act)) ∧ Below W2.heap.size W2 wx | _ => False) ?first ?rest
   case first =>
    clear HMK HI hm1 hmN
    refine region_wide (S := (fun w' => w'.cell? ⟨c4, 0, none⟩ = some (.int .i64 (m : Nat)) ∧ (∀ i, i < 7 → w'.cell? ⟨w.heap.size, i, none⟩ = (#[Value.int .i64 (n : Nat), .int .i64 (oc n a 0), .int .i64 (oc n a 1), .int .i64 (oc n a 2), .int .i64 (oc n a 3), .int .i64 (oc n a 4), .int .i64 (oc n a 5)] : Array Value)[i]?))) (by kernel_rfl) (by kernel_rfl) (by rintro ⟨_, _, h⟩; exact h) (by (try dsimp only); (first | exact ⟨X4.out.cell 0, fun i _ => X0.out.cell i⟩ | exact ⟨X4.out.drew.cell 0, fun i _ => X0.out.drew.cell i⟩)) (fun hHeld => ?_)
    have X0 := hid X0.out.drew; have X4 := hid X4.out.drew; have HBX := hid (Below.refl W2.heap.size W2).drew
    generalize W2.drew = X1 at *
    obtain ⟨X, rfl⟩ : ∃ Y, Y = X1 := ⟨X1, rfl⟩
    refine tk ?_ 0 (some 12) rfl rfl ?_ ?_; rotate_left; · (intro w hSw; (try dsimp only at hSw); go_simp <;> with_reducible rfl)
    try simp only [Act.put,qA,qB,qC]
    have o0 := X0.out.cell 0
    have o1 := X0.out.cell 1
    have o2 := X0.out.cell 2
    have o3 := X0.out.cell 3
    have o4 := X0.out.cell 4
    have o5 := X0.out.cell 5
    have o6 := X0.out.cell 6
    refine tk ?_ 1 (some 13) rfl rfl ?_ ?_; rotate_left; · (intro w hSw; (try dsimp only at hSw); go_simp <;> with_reducible rfl)
    try simp only [Act.put,qA,qB,qC]
    refine st 2 rfl fun K hK => ?_
    go_simp
    refine (HAL.out _).mono ?_; rintro e X ⟨rfl, bb⟩
    have X0 := hid (X0.out.keep bb); have X4 := hid (X4.out.keep bb); have HBX := hid (below_call HBX.out bb HBX.out.size)
    clear bb hHeld
    refine hK.out _ _ ?_ (fun hHeld => ?_); · ((try dsimp only); (first | exact ⟨X4.out.cell 0, fun i _ => X0.out.cell i⟩ | exact ⟨X4.out.drew.cell 0, fun i _ => X0.out.drew.cell i⟩))
    clear hK K
    try simp only [Act.put,qA,qB,qC]
    refine tk ?_ 3 (some 15) rfl rfl ?_ ?_; rotate_left; · (intro w hSw; (try dsimp only at hSw); go_simp <;> with_reducible rfl)
    try simp only [Act.put,qA,qB,qC]
    refine wpAnyH_done (by kernel_rfl) ?_ _
    have g15n : decide (m ≤ N - 1) = true := decide_eq_true (by have := HLT.out; omega)
    refine And.intro ?_ HBX.out
    try rw [g15n]
    exact cnA_ex rfl
   case rest =>
    intro e t wx hq
    cases e <;> first | exact hq.elim | skip
    obtain ⟨⟨f, rfl⟩, bb⟩ := hq
    have X0 := hid (X0.out.keep bb); have XW := hid (XW.out.keep bb); have X3 := hid (X3.out.keep bb); have X4 := hid (X4.out.keep bb); have XM := hid (XM.out.keep XM.out.lt bb)
    have XB := hid (below_call XB.out bb XB.out.size)
    clear bb g15 hm1 hmN hlt
    have x4 := X4.out.cell 0
    simp only [List.getElem?_toArray, List.getElem?_cons_zero] at x4
    unfold cnT
    gi_wp2
    refine ⟨trivial, (callsIn_wide.2 (elementsF (m : Nat) _)).mono ?_⟩
    rintro e w' ⟨rfl, rfl⟩
    have hm64 : m < 64 := by have := HLT.out; have := HNN.out.2.2; omega
    have HXS := hid (elems_bits hm64)
    have HM64 := hid hm64
    have bA := (Below.refl wx.heap.size wx).alloc (Nat.le_refl _) (.cells #[.int .i64 (m : Nat)] 3)
    have Z0 := hid (X0.out.keep bA); have ZW := hid (XW.out.keep bA); have Z3 := hid (X3.out.keep bA); have Z4 := hid (X4.out.keep bA); have ZM := hid (XM.out.keep XM.out.lt bA)
    have ZB := hid (below_call XB.out bA XB.out.size)
    have ZC := hid (Blk.new wx 3 #[.int .i64 (m : Nat)])
    have HWC := hid (show c4 < wx.heap.size from X4.out.lt)
    have HML := hid XM.out.lt
    clear bA x4 X0 XW X3 X4 XM XB hm64
    gi_wp2
    have hsv : (wx.alloc (.cells #[.int .i64 (m : Nat)] 3)).heap.size = wx.heap.size + 1 := by simp
    generalize wx.alloc (.cells #[.int .i64 (m : Nat)] 3) = V at *
    have HSV := hid hsv
    obtain ⟨cb, hcb⟩ : ∃ cb, cb = wx.heap.size := ⟨_, rfl⟩
    rw [← hcb] at HSV HWC ZC ⊢
    have HCB := hid (show ∀ D ∈ Ds, D < cb from by rw [hcb]; exact HML.out)
    clear hcb hsv HML
    have HTV := hid (HT.out.below ZB.out)
    refine wp_range (n := 9) (gf := 109) (c := cb) (t := 3) (xs := bitsL m) rfl (fun args w => enters Tryz.func109 (by kernel_rfl) rfl args w) ZC.out (elems_iter 8 _ m (bitsL m) V HXS.out ZC.out) rfl
     (fun k W => (((Blk W w.heap.size 78 #[.int .i64 (n : Nat), .int .i64 (oc n a 0), .int .i64 (oc n a 1), .int .i64 (oc n a 2), .int .i64 (oc n a 3), .int .i64 (oc n a 4), .int .i64 (oc n a 5)] ∧ Blk W wb 3 (arr N (waysP n a m k))) ∧ (Blk W (wb + 1) 36 #[.slice (some ⟨wb, 0, none⟩) N N] ∧ Blk W c4 3 #[.int .i64 (m : Nat)])) ∧ MarkS w.heap.size Ds W) ∧ Below w.heap.size w W ∧ Tab W)
     (fun _ _ => False) ?_ (fun _ _ _ _ _ hs _ _ => hs) ?_ (fun _ _ h => h.2.2) ⟨⟨⟨⟨Z0.out, by rw [arr_congr (g := waysV n a m) (fun i _ => waysP_zero n a m i)]; exact ZW.out⟩, Z3.out, Z4.out⟩, ZM.out⟩, ZB.out, HTV.out⟩ ?_ ?_ (fun _ _ _ _ h _ => h.elim)
    · refine OwnFrom.and (OwnFrom.and (OwnFrom.and (OwnFrom.and (ownFrom_blk _ _ _ _) (fun k X Y row hs hg hr => ?_)) (OwnFrom.and (ownFrom_blk _ _ _ _) (ownFrom_blk _ _ _ _))) (ownFrom_marks (fun D hD => by have := HCB.out D hD; have := HSV.out; omega))) (OwnFrom.and (ownFrom_below (Nat.le_refl _) ZB.out.size) (ownFrom_tab (by have := HTV.out.pos; omega)))
      exact ownFrom_blk (β := Nat) V.heap.size wb _ _ k X Y row hs hg hr
    · rintro q W v ⟨⟨⟨⟨h1, h2⟩, h3, h4⟩, h5⟩, h7, h8⟩
      have e1 := HWC.out
      have e2 := HC4.out
      have e3 := HWL.out
      exact ⟨⟨⟨⟨h1.far (p := ⟨cb, 0, none⟩) (by simp; omega) _, h2.far (p := ⟨cb, 0, none⟩) (by simp; omega) _⟩, h3.far (p := ⟨cb, 0, none⟩) (by simp; omega) _, h4.far (p := ⟨cb, 0, none⟩) (by simp; omega) _⟩, ⟨fun D hD => (Below.heap_setCell W ⟨cb, 0, none⟩ v D (by have := HCB.out D hD; simp; omega)).trans (h5.at_ D hD), h5.nod, h5.low⟩⟩, h7.setCell (p := ⟨cb, 0, none⟩) (by simp; omega) _, h8.grown (setGrown W ⟨cb, 0, none⟩ v) (by have := HT.out.pos; simp; omega)⟩
    · intro l k x W W3 hl hr hin hx hv
      obtain ⟨⟨⟨⟨h1, h2⟩, h3, h4⟩, h5⟩, h7, h8⟩ := hin
      have hxb : m.testBit x = true := (mem_bits HM64.out).1 (List.mem_of_getElem? hx)
      have hmn : m < 2 ^ n := by rw [← HNN.out.1]; exact HLT.out
      have hxn := lt_six hmn hxb
      have hcl := clr_facts HM64.out hxb
      have HBF := hid fun X => belowF n a x hn hxn X
      have hq1 := bits_last1 (a := a) (i := x) hn hmn
      have hq2 := bits_last2 (a := a) (i := x) hn hmn
      have hcb := bits_clr hn hmn hxb
      have hla := last_and n a m x
      have htk : (bitsL m).take (k + 1) = (bitsL m).take k ++ [x] := by rw [List.take_add_one, hx]; rfl
      have hin : ∀ i ∈ (bitsL m).take k, m.testBit i = true := fun i hi => (mem_bits HM64.out).1 (List.mem_of_mem_take hi)
      have hps := term_bd (a := a) hn hmn hin (by rw [List.length_take]; have := bits_len m; omega)
      have hwv : ways n a (clr m x) ≤ 4320 := Nat.le_trans (ways_bd hn _ _ (Nat.le_refl _) (by omega)) (Nat.le_trans (facN_le (n := 6) (bits_len _)) (by decide))
      have HVX := hid fun (W : World) (h : Hid (Blk W w.heap.size 78 #[.int .i64 (n : Nat), .int .i64 (oc n a 0), .int .i64 (oc n a 1), .int .i64 (oc n a 2), .int .i64 (oc n a 3), .int .i64 (oc n a 4), .int .i64 (oc n a 5)])) => show W.cell? ⟨w.heap.size, 1 + x, none⟩ = some (.int .i64 (mk n (a x))) from by
       have h2 := ordC_at (n := n) (a := a) h.out (k := x) (by omega)
       rwa [show oc n a x = mk n (a x) by unfold oc; rw [if_pos hxn]] at h2
      have HCW := hid (show cb < W3.heap.size from by obtain ⟨v, hv⟩ := hv; exact hv.lt)
      have H1 := hid h1; have H2 := hid h2; have H3 := hid h3; have H4 := hid h4; have H5 := hid h5; have H7 := hid h7; have H8 := hid h8
      unfold ordC at HBF
      have hx6 : (x : Int) < 6 := by omega
      have hx6n : x < 6 := by omega
      clear h1 h2 h3 h4 h5 h7 h8 hin hl hr hv hx
      generalize hvb : mk n (fun j => a j x) = vb at *
      generalize hvx : mk n (a x) = vx at *
      gi_wp2
      refine ⟨trivial, ?_⟩
      gi_wp2
      cases hL1 : last1 n a m x with
      | false =>
       rw [hL1] at hq1
       refine wpIn_mono (Q := fun e t W4 => match e with | .normal => (∃ f, t = ({ tmps := cnR v0 w.heap.size wb c4 N x (.bool false) f, defers := [] } : Act)) ∧ Below W3.heap.size W3 W4 | _ => False) ?f1 ?r1
       case f1 =>
        refine region_round (S := (fun w' => w'.cell? ⟨c4, 0, none⟩ = some (.int .i64 (m : Nat)) ∧ (∀ i, i < 7 → w'.cell? ⟨w.heap.size, i, none⟩ = (#[Value.int .i64 (n : Nat), .int .i64 (oc n a 0), .int .i64 (oc n a 1), .int .i64 (oc n a 2), .int .i64 (oc n a 3), .int .i64 (oc n a 4), .int .i64 (oc n a 5)] : Array Value)[i]?) ∧ w'.cell? ⟨w.heap.size, 1 + x, none⟩ = some (.int .i64 vx))) (by kernel_rfl) (by kernel_rfl) (by rintro ⟨_, _, h⟩; exact h) (by (try dsimp only); (first | exact ⟨H4.out.cell 0, fun i _ => H1.out.cell i, HVX.out _ H1⟩ | exact ⟨H4.out.drew.cell 0, fun i _ => H1.out.drew.cell i, HVX.out _ (hid H1.out.drew)⟩)) (fun hHeld => ?_)
        have H1 := hid H1.out.drew; have H4 := hid H4.out.drew; have HBX := hid (Below.refl W3.heap.size W3).drew
        generalize W3.drew = X1 at *
        obtain ⟨X, rfl⟩ : ∃ Y, Y = X1 := ⟨X1, rfl⟩
        have o0 := H1.out.cell 0
        have o1 := H1.out.cell 1
        have o2 := H1.out.cell 2
        have o3 := H1.out.cell 3
        have o4 := H1.out.cell 4
        have o5 := H1.out.cell 5
        have o6 := H1.out.cell 6
        refine tk ?_ 0 (some 21) rfl rfl ?_ ?_; rotate_left; · (intro w hSw; (try dsimp only at hSw); go_simp <;> with_reducible rfl)
        try simp only [Act.put,qA,qB,qC]
        refine tk ?_ 1 (some 22) rfl rfl ?_ ?_; rotate_left; · (intro w hSw; (try dsimp only at hSw); go_simp <;> with_reducible rfl)
        try simp only [Act.put,qA,qB,qC]
        refine tk ?_ 3 (some 24) rfl rfl ?_ ?_; rotate_left; · (intro w hSw; (try dsimp only at hSw); go_simp <;> with_reducible rfl)
        try simp only [Act.put,qA,qB,qC]
        refine st 2 rfl fun K hK => ?_
        go_simp
        refine (HBF.out _).mono ?_; rintro e X ⟨rfl, bb⟩
        have H1 := hid (H1.out.keep bb); have H4 := hid (H4.out.keep bb); have HBX := hid (below_call HBX.out bb HBX.out.size)
        clear bb hHeld
        refine hK.out _ _ ?_ (fun hHeld => ?_); · ((try dsimp only); (first | exact ⟨H4.out.cell 0, fun i _ => H1.out.cell i, HVX.out _ H1⟩ | exact ⟨H4.out.drew.cell 0, fun i _ => H1.out.drew.cell i, HVX.out _ (hid H1.out.drew)⟩))
        clear hK K
        try simp only [Act.put,qA,qB,qC]
        refine tk ?_ 4 (some 25) rfl rfl ?_ ?_; rotate_left; · (intro w hSw; (try dsimp only at hSw); go_simp <;> with_reducible rfl)
        try simp only [Act.put,qA,qB,qC]
        refine tk ?_ 5 (some 26) rfl rfl ?_ ?_; rotate_left; · (intro w hSw; (try dsimp only at hSw); go_simp <;> with_reducible rfl)
        try simp only [Act.put,qA,qB,qC]
        refine tk ?_ 6 (some 27) rfl rfl ?_ ?_; rotate_left; · (intro w hSw; (try dsimp only at hSw); go_simp <;> with_reducible rfl)
        try simp only [Act.put,qA,qB,qC]
        refine takeD (i := 7) (v := undef) (some 28) rfl rfl (by kernel_rfl) (by kernel_rfl) (by kernel_rfl) (fun _ _ _ h => h) (Or.inr ⟨by rfl, rfl⟩) (by assumption) ?_
        try simp only [Act.put,qA,qB,qC]
        refine takeD (i := 8) (v := undef) (some 29) rfl rfl (by kernel_rfl) (by kernel_rfl) (by kernel_rfl) (fun _ _ _ h => h) (Or.inr ⟨by rfl, rfl⟩) (by assumption) ?_
        try simp only [Act.put,qA,qB,qC]
        refine takeD (i := 9) (v := undef) (some 30) rfl rfl (by kernel_rfl) (by kernel_rfl) (by kernel_rfl) (fun _ _ _ h => h) (Or.inr ⟨by rfl, rfl⟩) (by assumption) ?_
        try simp only [Act.put,qA,qB,qC]
        refine takeD (i := 10) (v := undef) (some 31) rfl rfl (by kernel_rfl) (by kernel_rfl) (by kernel_rfl) (fun _ _ _ h => h) (Or.inr ⟨by rfl, rfl⟩) (by assumption) ?_
        try simp only [Act.put,qA,qB,qC]
        refine takeD (i := 11) (v := undef) (some 32) rfl rfl (by kernel_rfl) (by kernel_rfl) (by kernel_rfl) (fun _ _ _ h => h) (Or.inr ⟨by rfl, rfl⟩) (by assumption) ?_
        try simp only [Act.put,qA,qB,qC]
        refine takeD (i := 12) (v := undef) (some 33) rfl rfl (by kernel_rfl) (by kernel_rfl) (by kernel_rfl) (fun _ _ _ h => h) (Or.inr ⟨by rfl, rfl⟩) (by assumption) ?_
        try simp only [Act.put,qA,qB,qC]
        refine takeD (i := 13) (v := undef) (some 34) rfl rfl (by kernel_rfl) (by kernel_rfl) (by kernel_rfl) (fun _ _ _ h => h) (Or.inr ⟨by rfl, rfl⟩) (by assumption) ?_
        try simp only [Act.put,qA,qB,qC]
        refine tk ?_ 14 (some 35) rfl rfl ?_ ?_; rotate_left; · (intro w hSw; (try dsimp only at hSw); go_simp <;> with_reducible rfl)
        try simp only [Act.put,qA,qB,qC]
        refine wpAnyH_done (by kernel_rfl) ?_ _
        refine And.intro ?_ HBX.out
        exact cnR_ex rfl
       case r1 =>
        intro e t wy hq
        cases e <;> first | exact hq.elim | skip
        obtain ⟨⟨f, rfl⟩, bb⟩ := hq
        have HBB := hid bb
        have HTM := hid (show term n a m x = 0 from by unfold term; rw [hla, hL1]; rfl)
        have H1 := hid (H1.out.keep bb); have H2 := hid (H2.out.keep bb); have H3 := hid (H3.out.keep bb); have H4 := hid (H4.out.keep bb); have H5 := hid (H5.out.keep H5.out.lt bb); have H7 := hid (below_call H7.out bb H7.out.size); have H8 := hid (H8.out.below bb)
        have HTK := hid htk
        clear bb hL1 hq1 hq2 hcb hla hps hwv htk
        unfold cnR
        gi_wp2
        exact ⟨⟨HBB.out.size, fun r o _ ho _ => (HBB.out.block r (lt_of_some ho)).trans ho⟩, HBB.out.block cb HCW.out, ⟨⟨⟨H1.out, by rw [arr_congr (g := waysP n a m k) (fun i _ => waysP_same HTK.out HTM.out i)]; exact H2.out⟩, H3.out, H4.out⟩, H5.out⟩, H7.out, H8.out⟩
      | true =>
       rw [hL1] at hq1
       obtain ⟨l2, hl2⟩ : ∃ l2, l2 = last2 n a m x := ⟨_, rfl⟩
       rw [← hl2] at hq2
       refine wpIn_mono (Q := fun e t W4 => match e with | .normal => (∃ f, t = ({ tmps := cnR v0 w.heap.size wb c4 N x (.bool l2) f, defers := [] } : Act)) ∧ Below W3.heap.size W3 W4 | _ => False) ?f1 ?r1
       case f1 =>
        refine region_round (S := (fun w' => w'.cell? ⟨c4, 0, none⟩ = some (.int .i64 (m : Nat)) ∧ (∀ i, i < 7 → w'.cell? ⟨w.heap.size, i, none⟩ = (#[Value.int .i64 (n : Nat), .int .i64 (oc n a 0), .int .i64 (oc n a 1), .int .i64 (oc n a 2), .int .i64 (oc n a 3), .int .i64 (oc n a 4), .int .i64 (oc n a 5)] : Array Value)[i]?) ∧ w'.cell? ⟨w.heap.size, 1 + x, none⟩ = some (.int .i64 vx))) (by kernel_rfl) (by kernel_rfl) (by rintro ⟨_, _, h⟩; exact h) (by (try dsimp only); (first | exact ⟨H4.out.cell 0, fun i _ => H1.out.cell i, HVX.out _ H1⟩ | exact ⟨H4.out.drew.cell 0, fun i _ => H1.out.drew.cell i, HVX.out _ (hid H1.out.drew)⟩)) (fun hHeld => ?_)
        have H1 := hid H1.out.drew; have H4 := hid H4.out.drew; have HBX := hid (Below.refl W3.heap.size W3).drew
        generalize W3.drew = X1 at *
        obtain ⟨X, rfl⟩ : ∃ Y, Y = X1 := ⟨X1, rfl⟩
        have o0 := H1.out.cell 0
        have o1 := H1.out.cell 1
        have o2 := H1.out.cell 2
        have o3 := H1.out.cell 3
        have o4 := H1.out.cell 4
        have o5 := H1.out.cell 5
        have o6 := H1.out.cell 6
        refine tk ?_ 0 (some 21) rfl rfl ?_ ?_; rotate_left; · (intro w hSw; (try dsimp only at hSw); go_simp <;> with_reducible rfl)
        try simp only [Act.put,qA,qB,qC]
        refine tk ?_ 1 (some 22) rfl rfl ?_ ?_; rotate_left; · (intro w hSw; (try dsimp only at hSw); go_simp <;> with_reducible rfl)
        try simp only [Act.put,qA,qB,qC]
        refine tk ?_ 3 (some 24) rfl rfl ?_ ?_; rotate_left; · (intro w hSw; (try dsimp only at hSw); go_simp <;> with_reducible rfl)
        try simp only [Act.put,qA,qB,qC]
        refine st 2 rfl fun K hK => ?_
        go_simp
        refine (HBF.out _).mono ?_; rintro e X ⟨rfl, bb⟩
        have H1 := hid (H1.out.keep bb); have H4 := hid (H4.out.keep bb); have HBX := hid (below_call HBX.out bb HBX.out.size)
        clear bb hHeld
        refine hK.out _ _ ?_ (fun hHeld => ?_); · ((try dsimp only); (first | exact ⟨H4.out.cell 0, fun i _ => H1.out.cell i, HVX.out _ H1⟩ | exact ⟨H4.out.drew.cell 0, fun i _ => H1.out.drew.cell i, HVX.out _ (hid H1.out.drew)⟩))
        clear hK K
        try simp only [Act.put,qA,qB,qC]
        refine tk ?_ 4 (some 25) rfl rfl ?_ ?_; rotate_left; · (intro w hSw; (try dsimp only at hSw); go_simp <;> with_reducible rfl)
        try simp only [Act.put,qA,qB,qC]
        refine tk ?_ 5 (some 26) rfl rfl ?_ ?_; rotate_left; · (intro w hSw; (try dsimp only at hSw); go_simp <;> with_reducible rfl)
        try simp only [Act.put,qA,qB,qC]
        refine tk ?_ 6 (some 27) rfl rfl ?_ ?_; rotate_left; · (intro w hSw; (try dsimp only at hSw); go_simp <;> with_reducible rfl)
        try simp only [Act.put,qA,qB,qC]
        refine tk ?_ 7 (some 28) rfl rfl ?_ ?_; rotate_left; · (intro w hSw; (try dsimp only at hSw); go_simp <;> with_reducible rfl)
        try simp only [Act.put,qA,qB,qC]
        refine tk ?_ 8 (some 29) rfl rfl ?_ ?_; rotate_left; · (intro w hSw; (try dsimp only at hSw); go_simp <;> with_reducible rfl)
        try simp only [Act.put,qA,qB,qC]
        refine tk ?_ 9 (some 30) rfl rfl ?_ ?_; rotate_left; · (intro w hSw; (try dsimp only at hSw); go_simp <;> with_reducible rfl)
        try simp only [Act.put,qA,qB,qC]
        refine tk ?_ 10 (some 31) rfl rfl ?_ ?_; rotate_left; · (intro w hSw; (try dsimp only at hSw); go_simp <;> with_reducible rfl)
        try simp only [Act.put,qA,qB,qC]
        refine tk ?_ 11 (some 32) rfl rfl ?_ ?_; rotate_left; · (intro w hSw; (try dsimp only at hSw); go_simp <;> with_reducible rfl)
        try simp only [Act.put,qA,qB,qC]
        refine tk ?_ 12 (some 33) rfl rfl ?_ ?_; rotate_left; · (intro w hSw; (try dsimp only at hSw); go_simp <;> with_reducible rfl)
        try simp only [Act.put,qA,qB,qC]
        refine tk ?_ 13 (some 34) rfl rfl ?_ ?_; rotate_left; · (intro w hSw; (try dsimp only at hSw); go_simp <;> with_reducible rfl)
        try simp only [Act.put,qA,qB,qC]
        refine tk ?_ 14 (some 35) rfl rfl ?_ ?_; rotate_left; · (intro w hSw; (try dsimp only at hSw); go_simp <;> with_reducible rfl)
        try simp only [Act.put,qA,qB,qC]
        refine wpAnyH_done (by kernel_rfl) ?_ _
        refine And.intro ?_ HBX.out
        rw [← hl2]
        exact cnR_ex rfl
       case r1 =>
        intro e t wy hq
        cases e <;> first | exact hq.elim | skip
        obtain ⟨⟨f, rfl⟩, bb⟩ := hq
        cases l2 with
        | false =>
         have HBB := hid bb
         have HTM := hid (show term n a m x = 0 from by unfold term; rw [hla, hL1, ← hl2]; rfl)
         have H1 := hid (H1.out.keep bb); have H2 := hid (H2.out.keep bb); have H3 := hid (H3.out.keep bb); have H4 := hid (H4.out.keep bb); have H5 := hid (H5.out.keep H5.out.lt bb); have H7 := hid (below_call H7.out bb H7.out.size); have H8 := hid (H8.out.below bb)
         have HTK := hid htk
         clear bb hL1 hl2 hq1 hq2 hcb hla hps hwv htk
         unfold cnR
         gi_wp2
         exact ⟨⟨HBB.out.size, fun r o _ ho _ => (HBB.out.block r (lt_of_some ho)).trans ho⟩, HBB.out.block cb HCW.out, ⟨⟨⟨H1.out, by rw [arr_congr (g := waysP n a m k) (fun i _ => waysP_same HTK.out HTM.out i)]; exact H2.out⟩, H3.out, H4.out⟩, H5.out⟩, H7.out, H8.out⟩
        | true =>
         have HBB := hid bb
         have HTM := hid (show term n a m x = ways n a (clr m x) from by unfold term; rw [hla, hL1, ← hl2]; rfl)
         have H1 := hid (H1.out.keep bb); have H2 := hid (H2.out.keep bb); have H3 := hid (H3.out.keep bb); have H4 := hid (H4.out.keep bb); have H5 := hid (H5.out.keep H5.out.lt bb); have H7 := hid (below_call H7.out bb H7.out.size); have H8 := hid (H8.out.below bb)
         have HTK := hid htk
         have fx : Fits (x : Int) := ⟨by omega, by omega⟩
         have hcm : clr m x < m := hcl.2.1
         have k1 := H2.out.cell m
         rw [arr_get HLT.out] at k1
         have k2 := H2.out.cell (clr m x)
         rw [arr_get (by have := HLT.out; omega)] at k2
         have kf := H2.out.free m
         have k3 := H3.out.cell 0
         have k4 := H4.out.cell 0
         simp only [List.getElem?_toArray, List.getElem?_cons_zero] at k3 k4
         have e1 : waysP n a m k m = (((((bitsL m).take k).map (term n a m)).sum : Nat) : Int) := by unfold waysP; rw [if_pos rfl]
         have e2 : waysP n a m k (clr m x) = ((ways n a (clr m x) : Nat) : Int) := by unfold waysP waysV; rw [if_neg (by omega), if_pos hcm]
         rw [e1] at k1
         rw [e2] at k2
         generalize hsm : (((bitsL m).take k).map (term n a m)).sum = sm at *
         generalize ways n a (clr m x) = wv at *
         generalize hcc : clr m x = cl at *
         have hmN : (m : Int) < (N : Int) := Int.ofNat_lt.2 HLT.out
         have hclN : (cl : Int) < (N : Int) := Int.ofNat_lt.2 (Nat.lt_trans hcm HLT.out)
         have hww := (sum_wr (Nat.le_trans (Nat.add_le_add hps hwv) (by decide))).1
         have hww2 := (sum_wr (Nat.le_trans (Nat.add_le_add hps hwv) (by decide))).2
         have HNE := hid (show cl ≠ m from Nat.ne_of_lt hcm)
         have HSM := hid hsm
         have HK1 := hid k1
         have HKK := hid (And.intro k2 (And.intro k3 k4))
         clear hmn hxb hcl hcm
         clear bb hL1 hl2 hq1 hq2 hla hps hwv htk e1 e2 k1 k2 k3 k4 hsm hcc
         have HPST := hid (show arr N (waysP n a m (k + 1)) = (arr N (waysP n a m k)).setIfInBounds m (.int .i64 ((sm : Int) + (wv : Int))) from by
          rw [arr_set]
          refine arr_congr fun i _ => ?_
          rw [waysP_more HTK.out, HSM.out, HTM.out, Int.natCast_add])
         unfold cnR
         gi_wp2
         refine wpIn_mono (Q := fun e _ W4 => match e with | .normal => W4 = wy.drew.setCell ⟨wb, m, none⟩ (.int .i64 ((sm : Int) + (wv : Int))) | _ => False) ?f2 ?r2
         case f2 =>
          have HKS := hid (show (wy.drew.setCell ⟨wb, m, none⟩ (.int .i64 ((sm : Int) + (wv : Int)))).cell? ⟨wb, cl, none⟩ = some (.int .i64 (wv : Nat)) ∧ (wy.drew.setCell ⟨wb, m, none⟩ (.int .i64 ((sm : Int) + (wv : Int)))).cell? ⟨wb + 1, 0, none⟩ = some (.slice (some ⟨wb, 0, none⟩) N N) ∧ (wy.drew.setCell ⟨wb, m, none⟩ (.int .i64 ((sm : Int) + (wv : Int)))).cell? ⟨c4, 0, none⟩ = some (.int .i64 (m : Nat)) from ⟨by
           rw [(H2.out.drew.set m _).cell, Array.getElem?_setIfInBounds_ne (Ne.symm HNE.out), ← H2.out.cell]
           exact HKK.out.1, cell_far _ (p := ⟨wb, m, none⟩) (by simp) HKK.out.2.1, cell_far _ (p := ⟨wb, m, none⟩) (by have := HC4.out; simp; omega) HKK.out.2.2⟩)
          clear HPST HTM HTK HSM H1 H2 H3 H4 H5 H7 H8 HBB
          refine region_round (S := (fun w' => w'.cell? ⟨wb, cl, none⟩ = some (.int .i64 (wv : Nat)) ∧ w'.cell? ⟨wb + 1, 0, none⟩ = some (.slice (some ⟨wb, 0, none⟩) N N) ∧ w'.cell? ⟨c4, 0, none⟩ = some (.int .i64 (m : Nat)))) (by kernel_rfl) (by kernel_rfl) (by rintro ⟨_, _, h⟩; exact h) (by (try dsimp only); (first | exact HKK.out | exact HKQ.out)) (fun hHeld => ?_)
          have HK1 := hid (show wy.drew.cell? ⟨wb, m, none⟩ = some (.int .i64 (sm : Nat)) from HK1.out)
          have HKF := hid (show wy.drew.setCell ⟨wb, m, none⟩ (.int .i64 ((sm : Int) + (wv : Int))) = wy.drew.setCell ⟨wb, m, none⟩ (.int .i64 ((sm : Int) + (wv : Int))) from rfl)
          refine tk ?_ 0 (some 36) rfl rfl ?_ ?_; rotate_left; · (intro w hSw; (try dsimp only at hSw); go_simp <;> with_reducible rfl)
          try simp only [Act.put,qA,qB,qC]
          refine tk ?_ 1 (some 37) rfl rfl ?_ ?_; rotate_left; · (intro w hSw; (try dsimp only at hSw); go_simp <;> with_reducible rfl)
          try simp only [Act.put,qA,qB,qC]
          refine tk ?_ 2 (some 38) rfl rfl ?_ ?_; rotate_left; · (intro w hSw; (try dsimp only at hSw); go_simp <;> with_reducible rfl)
          try simp only [Act.put,qA,qB,qC]
          refine tk ?_ 4 (some 40) rfl rfl ?_ ?_; rotate_left; · (intro w hSw; (try dsimp only at hSw); go_simp <;> with_reducible rfl)
          try simp only [Act.put,qA,qB,qC]
          refine tk ?_ 5 (some 41) rfl rfl ?_ ?_; rotate_left; · (intro w hSw; (try dsimp only at hSw); go_simp <;> with_reducible rfl)
          try simp only [Act.put,qA,qB,qC]
          refine tk ?_ 6 (some 42) rfl rfl ?_ ?_; rotate_left; · (intro w hSw; (try dsimp only at hSw); go_simp <;> with_reducible rfl)
          try simp only [Act.put,qA,qB,qC]
          refine tk ?_ 7 (some 43) rfl rfl ?_ ?_; rotate_left; · (intro w hSw; (try dsimp only at hSw); go_simp <;> with_reducible rfl)
          try simp only [Act.put,qA,qB,qC]
          refine tk ?_ 8 (some 44) rfl rfl ?_ ?_; rotate_left; · (intro w hSw; (try dsimp only at hSw); go_simp <;> with_reducible rfl)
          try simp only [Act.put,qA,qB,qC]
          refine tk ?_ 9 (some 45) rfl rfl ?_ ?_; rotate_left; · (intro w hSw; (try dsimp only at hSw); go_simp <;> with_reducible rfl)
          try simp only [Act.put,qA,qB,qC]
          refine tk ?_ 10 (some 46) rfl rfl ?_ ?_; rotate_left; · (intro w hSw; (try dsimp only at hSw); go_simp <;> with_reducible rfl)
          try simp only [Act.put,qA,qB,qC]
          refine st 3 rfl fun K hK => ?_
          have k1 := HK1.out
          go_simp
          clear k1
          clear hHeld
          refine hK.out _ _ ?_ (fun hHeld => ?_); · ((try dsimp only); (first | exact HKK.out | exact HKQ.out))
          clear hK K
          try simp only [Act.put,qA,qB,qC]
          refine tk ?_ 11 (some 47) rfl rfl ?_ ?_; rotate_left; · (intro w hSw; (try dsimp only at hSw); go_simp <;> with_reducible rfl)
          try simp only [Act.put,qA,qB,qC]
          refine tk ?_ 12 (some 48) rfl rfl ?_ ?_; rotate_left; · (intro w hSw; (try dsimp only at hSw); go_simp <;> with_reducible rfl)
          try simp only [Act.put,qA,qB,qC]
          refine st 13 rfl fun K hK => ?_
          have k1 := HK1.out
          go_simp
          have HKQ := hid (show (wy.drew.setCell ⟨wb, m, none⟩ (.int .i64 ((sm : Int) + (wv : Int)))).cell? ⟨wb, cl, none⟩ = some (.int .i64 (wv : Nat)) ∧ (wy.drew.setCell ⟨wb, m, none⟩ (.int .i64 ((sm : Int) + (wv : Int)))).cell? ⟨wb + 1, 0, none⟩ = some (.slice (some ⟨wb, 0, none⟩) N N) ∧ (wy.drew.setCell ⟨wb, m, none⟩ (.int .i64 ((sm : Int) + (wv : Int)))).cell? ⟨c4, 0, none⟩ = some (.int .i64 (m : Nat)) from HKS.out)
          clear hHeld
          refine hK.out _ _ ?_ (fun hHeld => ?_); · ((try dsimp only); (first | exact HKK.out | exact HKQ.out))
          clear hK K
          try simp only [Act.put,qA,qB,qC]
          refine wpAnyH_done (by kernel_rfl) ?_ _
          rfl
         case r2 =>
          intro e t W4 hq
          cases e <;> first | exact hq.elim | skip
          have hq : W4 = wy.drew.setCell ⟨wb, m, none⟩ (.int .i64 ((sm : Int) + (wv : Int))) := hq
          subst hq
          gi_wp2
          refine ⟨⟨?_, ?_⟩, ?_, ⟨⟨⟨H1.out.drew.far (p := ⟨wb, m, none⟩) ?_ _, by rw [HPST.out]; exact H2.out.drew.set m _⟩, H3.out.drew.far (p := ⟨wb, m, none⟩) ?_ _, H4.out.drew.far (p := ⟨wb, m, none⟩) ?_ _⟩, ?_⟩, H7.out.drew.setCell (p := ⟨wb, m, none⟩) ?_ _, ?_⟩
          · have := HBB.out.size
            simpa using this
          · intro r o hB ho _
            exact (Below.heap_setCell wy.drew ⟨wb, m, none⟩ _ r (by have := HSV.out; have := HWC.out; have := HC4.out; simp only; clear HPST HTK HSM HTM hmN hclN hww hww2; omega)).trans ((HBB.out.block r (lt_of_some ho)).trans ho)
          · exact (Below.heap_setCell wy.drew ⟨wb, m, none⟩ _ cb (by have := HWC.out; have := HC4.out; simp only; omega)).trans (HBB.out.block cb HCW.out)
          · have := HWL.out
            simp only
            omega
          · simp
          · have := HC4.out
            simp only
            omega
          · exact (show MarkS w.heap.size Ds wy.drew from ⟨H5.out.at_, H5.out.nod, H5.out.low⟩).set H2.out.drew m _
          · have := HWL.out
            simp only
            omega
          · exact (H8.out.below (Below.refl _ wy).drew).grown (setGrown wy.drew ⟨wb, m, none⟩ _) (by have := HT.out.pos; have := HWL.out; simp; omega)
    · rintro D W hD ⟨⟨⟨⟨h1, h2⟩, h3, h4⟩, h5⟩, h7, h8⟩ hKD
      have HMS := hid (h5.cons hKD (by have := ZB.out.size; omega) (fun hm => by have := HCB.out D hm; have := HSV.out; omega))
      have hfull : arr N (waysP n a m (bitsL m).length) = arr N (waysV n a (m + 1)) := arr_congr fun i _ => waysP_full HM64.out (by have := HM.out.1; omega) i
      rw [hfull] at h2
      have G1 := hid h1; have G2 := hid h2; have G3 := hid h3; have G4 := hid h4; have G7 := hid h7
      have k4 := h4.cell 0
      simp only [List.getElem?_toArray, List.getElem?_cons_zero] at k4
      clear h1 h2 h3 h4 h5 h7 h8 hKD hfull
      have hw := sum_wr (a := m) (b := 1) (by have := HM64.out; omega)
      have hw1 : wrap64 ((m : Int) + 1) = ((m + 1 : Nat) : Int) := hw.1
      clear hw
      gi_wp2
      rw [hw1, HI.out]
      exact ⟨⟨m + 1, W.heap.size, D :: Ds, by omega, HLT.out, ⟨_, cnT_ex rfl⟩, rfl, G1.out.alloc _, G2.out.alloc _, G3.out.alloc _, Blk.new W _ _, G7.out.alloc G7.out.size _, HMS.out.keep HMS.out.lt ((Below.refl W.heap.size W).alloc (Nat.le_refl _) _), by have := G4.out.lt; have := HC4.out; omega⟩, by
       show N - boxN (W.alloc (.cells #[.int .i64 ((m + 1 : Nat) : Int)] 3)) W.heap.size < N - m
       rw [boxN_of (Blk.new W 3 #[.int .i64 ((m + 1 : Nat) : Int)])]
       have := HLT.out
       omega⟩
 · have hmz : m = N := by omega
   have HMZ := hid (And.intro hmz HNN.out.2.1)
   have g15 : decide ((m : Int) ≤ ((N - 1 : Nat) : Int)) = false := decide_eq_false (by have := HNN.out.2.1; omega)
   refine wpIn_mono (Q := fun e t wx => match e with | .normal => (∃ f, t = ({ tmps := cnT v0 w.heap.size wb c4 N (.bool false) f, defers := marks Ds } : Act)) ∧ Below W2.heap.size W2 wx | _ => False) ?first ?rest
   case first =>
    clear HMK HI hm1 hmN hmz
    refine region_wide (S := (fun w' => w'.cell? ⟨c4, 0, none⟩ = some (.int .i64 (m : Nat)) ∧ (∀ i, i < 7 → w'.cell? ⟨w.heap.size, i, none⟩ = (#[Value.int .i64 (n : Nat), .int .i64 (oc n a 0), .int .i64 (oc n a 1), .int .i64 (oc n a 2), .int .i64 (oc n a 3), .int .i64 (oc n a 4), .int .i64 (oc n a 5)] : Array Value)[i]?))) (by kernel_rfl) (by kernel_rfl) (by rintro ⟨_, _, h⟩; exact h) (by (try dsimp only); (first | exact ⟨X4.out.cell 0, fun i _ => X0.out.cell i⟩ | exact ⟨X4.out.drew.cell 0, fun i _ => X0.out.drew.cell i⟩)) (fun hHeld => ?_)
    have X0 := hid X0.out.drew; have X4 := hid X4.out.drew; have HBX := hid (Below.refl W2.heap.size W2).drew
    generalize W2.drew = X1 at *
    obtain ⟨X, rfl⟩ : ∃ Y, Y = X1 := ⟨X1, rfl⟩
    refine tk ?_ 0 (some 12) rfl rfl ?_ ?_; rotate_left; · (intro w hSw; (try dsimp only at hSw); go_simp <;> with_reducible rfl)
    try simp only [Act.put,qA,qB,qC]
    have o0 := X0.out.cell 0
    have o1 := X0.out.cell 1
    have o2 := X0.out.cell 2
    have o3 := X0.out.cell 3
    have o4 := X0.out.cell 4
    have o5 := X0.out.cell 5
    have o6 := X0.out.cell 6
    refine tk ?_ 1 (some 13) rfl rfl ?_ ?_; rotate_left; · (intro w hSw; (try dsimp only at hSw); go_simp <;> with_reducible rfl)
    try simp only [Act.put,qA,qB,qC]
    refine st 2 rfl fun K hK => ?_
    go_simp
    refine (HAL.out _).mono ?_; rintro e X ⟨rfl, bb⟩
    have X0 := hid (X0.out.keep bb); have X4 := hid (X4.out.keep bb); have HBX := hid (below_call HBX.out bb HBX.out.size)
    clear bb hHeld
    refine hK.out _ _ ?_ (fun hHeld => ?_); · ((try dsimp only); (first | exact ⟨X4.out.cell 0, fun i _ => X0.out.cell i⟩ | exact ⟨X4.out.drew.cell 0, fun i _ => X0.out.drew.cell i⟩))
    clear hK K
    try simp only [Act.put,qA,qB,qC]
    refine tk ?_ 3 (some 15) rfl rfl ?_ ?_; rotate_left; · (intro w hSw; (try dsimp only at hSw); go_simp <;> with_reducible rfl)
    try simp only [Act.put,qA,qB,qC]
    refine wpAnyH_done (by kernel_rfl) ?_ _
    have g15n : decide (m ≤ N - 1) = false := decide_eq_false (by have := HMZ.out; omega)
    refine And.intro ?_ HBX.out
    try rw [g15n]
    exact cnA_ex rfl
   case rest =>
    intro e t wx hq
    cases e <;> first | exact hq.elim | skip
    obtain ⟨⟨f, rfl⟩, bb⟩ := hq
    have X0 := hid (X0.out.keep bb); have XW := hid (XW.out.keep bb); have X3 := hid (X3.out.keep bb); have XM := hid (XM.out.keep XM.out.lt bb)
    have XB := hid (below_call XB.out bb XB.out.size)
    have HKN := hid (show wx.cell? ⟨wb, N - 1, none⟩ = some (.int .i64 (allW n a : Nat)) from by
     have h := XW.out.cell (N - 1)
     rw [arr_get (by have := HNN.out.2.1; omega)] at h
     rw [h]
     unfold waysV allW
     rw [if_pos (by have := HNN.out.2.1; have := HMZ.out.1; omega), HNN.out.1])
    have hNN1 : ((N - 1 : Nat) : Int) < (N : Int) := by have := HNN.out.2.1; omega
    have hNN2 : N - 1 < N := by have := HNN.out.2.1; omega
    clear bb g15 hm1 hmN hlt hmz HMK HI HM XW X4
    obtain ⟨aw, haw⟩ : ∃ aw, aw = allW n a := ⟨_, rfl⟩
    have HAW := hid haw
    rw [← haw] at HKN
    clear haw
    unfold cnT
    gi_wp2
    refine wpIn_mono (Q := fun e t wy => match e with | .normal => (∃ T : Array Value, t = ({ tmps := T, defers := marks Ds } : Act) ∧ T.getD 2 undef = .int .i64 (aw : Nat)) ∧ Below wx.heap.size wx wy | _ => False) ?f3 ?r3
    case f3 =>
     refine region_wide (S := (fun w' => w'.cell? ⟨wb, N - 1, none⟩ = some (.int .i64 (aw : Nat)) ∧ w'.cell? ⟨wb + 1, 0, none⟩ = some (.slice (some ⟨wb, 0, none⟩) N N) ∧ (∀ i, i < 7 → w'.cell? ⟨w.heap.size, i, none⟩ = (#[Value.int .i64 (n : Nat), .int .i64 (oc n a 0), .int .i64 (oc n a 1), .int .i64 (oc n a 2), .int .i64 (oc n a 3), .int .i64 (oc n a 4), .int .i64 (oc n a 5)] : Array Value)[i]?))) (by kernel_rfl) (by kernel_rfl) (by rintro ⟨_, _, h⟩; exact h) (by (try dsimp only); (first | exact ⟨HKN.out, X3.out.cell 0, fun i _ => X0.out.cell i⟩ | exact ⟨HKN.out, X3.out.drew.cell 0, fun i _ => X0.out.drew.cell i⟩)) (fun hHeld => ?_)
     have X0 := hid X0.out.drew; have X3 := hid X3.out.drew; have HKN := hid (cell_keep (Below.refl _ wx).drew HKN.out); have HBX := hid (Below.refl wx.heap.size wx).drew
     generalize wx.drew = X1 at *
     obtain ⟨X, rfl⟩ : ∃ Y, Y = X1 := ⟨X1, rfl⟩
     refine tk ?_ 0 (some 50) rfl rfl ?_ ?_; rotate_left; · (intro w hSw; (try dsimp only at hSw); go_simp <;> with_reducible rfl)
     try simp only [Act.put,qA,qB,qC]
     have o0 := X0.out.cell 0
     have o1 := X0.out.cell 1
     have o2 := X0.out.cell 2
     have o3 := X0.out.cell 3
     have o4 := X0.out.cell 4
     have o5 := X0.out.cell 5
     have o6 := X0.out.cell 6
     refine tk ?_ 1 (some 51) rfl rfl ?_ ?_; rotate_left; · (intro w hSw; (try dsimp only at hSw); go_simp <;> with_reducible rfl)
     try simp only [Act.put,qA,qB,qC]
     refine st 2 rfl fun K hK => ?_
     go_simp
     refine (HAL.out _).mono ?_; rintro e X ⟨rfl, bb⟩
     have X0 := hid (X0.out.keep bb); have X3 := hid (X3.out.keep bb); have HKN := hid (cell_keep bb HKN.out); have HBX := hid (below_call HBX.out bb HBX.out.size)
     clear bb hHeld
     refine hK.out _ _ ?_ (fun hHeld => ?_); · ((try dsimp only); (first | exact ⟨HKN.out, X3.out.cell 0, fun i _ => X0.out.cell i⟩ | exact ⟨HKN.out, X3.out.drew.cell 0, fun i _ => X0.out.drew.cell i⟩))
     clear hK K
     try simp only [Act.put,qA,qB,qC]
     refine tk ?_ 3 (some 53) rfl rfl ?_ ?_; rotate_left; · (intro w hSw; (try dsimp only at hSw); go_simp <;> with_reducible rfl)
     try simp only [Act.put,qA,qB,qC]
     refine tk ?_ 4 (some 54) rfl rfl ?_ ?_; rotate_left; · (intro w hSw; (try dsimp only at hSw); go_simp <;> with_reducible rfl)
     try simp only [Act.put,qA,qB,qC]
     refine tk ?_ 5 (some 2) rfl rfl ?_ ?_; rotate_left; · (intro w hSw; (try dsimp only at hSw); go_simp <;> with_reducible rfl)
     try simp only [Act.put,qA,qB,qC]
     refine wpAnyH_done (by kernel_rfl) ?_ _
     exact And.intro ⟨_, rfl, rfl⟩ HBX.out
    case r3 =>
     intro e t wy hq
     cases e <;> first | exact hq.elim | skip
     obtain ⟨⟨T, rfl, hT2⟩, bb⟩ := hq
     have XM := hid (XM.out.keep XM.out.lt bb)
     have XB := hid (below_call XB.out bb XB.out.size)
     have HT2 := hid hT2
     clear bb hT2 X0 X3 HKN
     gi_wp2
     refine leaves_marks (B := w.heap.size) Ds wy XM.out ?_
     exact ⟨_, results_tmp (t := 2) rfl T _ _, by rw [← HAW.out, ← HT2.out], XM.out.shutBelow XB.out⟩
end Go.Proofs.YtnibidmlkbcfkaaGreatDoor
