/- Walks of pairs of nodes, slices.Index on pairs, isNodes and moved. Conditions: at most four nodes; the slices read as pairs and as numbers. -/
import Derived.Test.YtjddbglbodkihaaDoorPrM
import Derived.Test.YtjddbglbodkihaaDoorPairsE
import Derived.Test.YtjddbglbodkihaaDoorJoinW
import Derived.Laws.StructEq
namespace Go.Proofs.YtjddbglbodkihaaDoor
open Go.RowKit

theorem eq66 (a b c d : Int) (w : World) : (Op.equalIn 10000 66 (.agg #[.int .i64 a, .int .i64 b]) (.agg #[.int .i64 c, .int .i64 d])).run Tryd.prog w = .ok (a == c && b == d) w := by
  have u3 := Tryd.underlying3
  have a3 := Tryd.isAgg3
  have z3 := Tryd.sizeOf3
  rw [show (10000 : Nat) = 9999 + 1 from rfl, Op.equalIn]
  simp only [Sem.run_bind, run_underlying Tryd.underlying66, Result.andThen_ok]
  simp only [Std.Legacy.Range.forIn_eq_forIn_range', Std.Legacy.Range.size, Nat.sub_zero, Nat.add_sub_cancel, Nat.div_one, List.range'_succ, List.range'_zero, List.forIn_cons, List.forIn_nil]
  go_simp
  by_cases h1 : a = c <;> by_cases h2 : b = d <;> simp [h1, h2]
attribute [local go_sem] eq66
theorem push1P {P : Program} {ops : Array Oper} {rest : List Oper} {o : Oper} {a : Act} {Q : Exit → Act → World → Prop} {t e : TypeId} {size bytes : Nat} {z : Value}
    (T : TS P t e size bytes z) (w : World) (cs : Array Value) (base n : Nat) (v : Value) (xs : List Value) (hown : w.ownsRow base e size v n xs)
    (s x : Operand) (K : Nat) (hK : w.heap.size = K) (hgd : o.guard = none) (ho : o.op = .call { callee := .builtin .append, args := #[s, x], argTypes := #[t, t] })
    (hs : a.eval s = v) (hx : a.eval x = .slice (some ⟨K, 0, none⟩) 1 1) (hcs : cs.size = size) (h1 : ∀ u ∈ cs.toList, u.oneCell' = true)
    (hn : (n + 1) * bytes ≤ 140737488355328) (hn2 : n < 1000000000000) (hb : base ≤ w.heap.size)
    (h : ∀ v' w', w'.ownsRow base e size v' (n + 1) (xs ++ cs.toList) → (w.alloc (.cells cs e)).grownBy w' v.ownBlock → wpList P ops Q rest (a.put o.dst v') w') :
    wpList P ops Q (o :: rest) a (w.alloc (.cells cs e)) := by
  subst hK
  exact push1 T w cs base n v xs hown s x hgd ho hs hx hcs h1 hn hn2 hb h
theorem flat_one2 (l : List (Int × Int)) (a b : Int) : flat (l ++ [(a, b)]) = flat l ++ [.int .i64 a, .int .i64 b] := by
  unfold flat; rw [List.flatMap_append]; rfl
theorem flat_append (l r : List (Int × Int)) : flat (l ++ r) = flat l ++ flat r := by unfold flat; rw [List.flatMap_append]
set_option maxRecDepth 100000 in
set_option maxHeartbeats 2000000 in
theorem pairsS (m : Nat) (w : World) (hm : m ≤ 4) :
    Calls Tryd.prog 82 #[.int .i64 m] w fun e w' => ∃ A c, e = .returned (.slice A (pairsL m).length c) ∧ w'.ownsRow w.heap.size 66 2 (.slice A (pairsL m).length c) (pairsL m).length (flat (pairsL m)) ∧ Below w.heap.size w w' := by
  have HP0 : Hid (prL m 0 = []) := hid rfl
  have HPS := hid fun a => prL_succ m a
  have HPL := hid fun a (ha : a ≤ m) => (prL_len ⟨m, by omega⟩ ⟨a, by omega⟩ : (prL m a).length ≤ 12)
  have HPM := hid (show prL m m = pairsL m from rfl)
  generalize pairsL m = PM at *
  go_enter Tryd.func82, Tryd.ntmps82
  go_wp2
  go_loopg [3, 7] m (fun gk v i wr => ∃ (a : Nat) (A : Option Addr) (c : Nat), gk + a = m ∧ i = .int .i64 a ∧ v = .slice A (prL m a).length c ∧ Hid (wr.ownsRow w.heap.size 66 2 (.slice A (prL m a).length c) (prL m a).length (flat (prL m a))) ∧ Hid (Below w.heap.size w wr))
  case atStart => exact ⟨0, none, 0, by omega, rfl, by rw [HP0.out]; rfl, hid (by rw [HP0.out]; exact World.ownsRow_nil _ _ _ _), hid (Below.refl _ _)⟩
  case round =>
    obtain ⟨a, A, c, ha, rfl, rfl, HO, HB⟩ := hrel
    have HA := hid ha
    by_cases hlt : a < m
    · have HLT := hid hlt
      have hpl := HPL.out a (by omega)
      have HPS1 := hid (HPS.out a)
      obtain ⟨P, hP⟩ : ∃ P, prL m a = P := ⟨_, rfl⟩
      rw [hP] at HO hpl HPS1 ⊢
      clear ha hP
      go_wp2
      go_loopg [3, 5] (m - (a + 1)) (fun gj v i wr => ∃ (b : Nat) (A : Option Addr) (c : Nat), gj + b = m ∧ a + 1 ≤ b ∧ i = .int .i64 b ∧ v = .slice A (P ++ rowL a b).length c ∧ Hid (wr.ownsRow w.heap.size 66 2 (.slice A (P ++ rowL a b).length c) (P ++ rowL a b).length (flat (P ++ rowL a b))) ∧ Hid (Below w.heap.size w wr))
      case atStart =>
        exact ⟨a + 1, A, c, by omega, by omega, by go_num, by rw [rowL_none, List.append_nil], hid (by rw [rowL_none, List.append_nil]; exact HO.out), HB⟩
      case round =>
        obtain ⟨b, A2, c2, hb, hab, rfl, rfl, HO2, HB2⟩ := hrel
        have HBb := hid hb
        by_cases hlt2 : b < m
        · have HLT2 := hid hlt2
          have hrl := rowL_len a b
          have hln : (P ++ rowL a b).length ≤ 20 := by rw [List.length_append]; omega
          have HLN := hid hln
          have HSN := hid (show P ++ rowL a (b + 1) = (P ++ rowL a b) ++ [((a : Int), (b : Int))] from by rw [rowL_succ hab, List.append_assoc])
          have HAB := hid hab
          have hz := HB2.out.size
          generalize P ++ rowL a b = Q at *
          clear hb hab hrl hln
          go_wp2_with (at_builtin; refine push1P TP wr #[.int .i64 (a : Int), .int .i64 (b : Int)] w.heap.size _ _ _ HO2.out _ _ wr.heap.size rfl rfl rfl rfl rfl rfl (by simp [Value.oneCell']) (by have := HLN.out; omega) (by have := HLN.out; omega) (by omega) ?_; intro v1 w8 hown1 hgr)
          have HB8 := hid (below_push HB2.out HO2.out hgr hz (Nat.le_refl _))
          obtain ⟨A8, c8, rfl⟩ := own_form hown1
          have HO8 := hid hown1
          clear hown1 hgr hz
          go_wp2
          go_roundg (gk - 1)
          case measure => have := HBb.out; have := HLT2.out; omega
          case rel =>
            refine ⟨b + 1, A8, c8, by have := HBb.out; have := HLT2.out; omega, by have := HAB.out; omega, by go_num, ?_, ?_, HB8⟩
            · rw [HSN.out, List.length_append]; rfl
            · rw [HSN.out, List.length_append, flat_one2]; exact HO8
        · obtain rfl : b = m := by have := HBb.out; omega
          clear hb hlt2
          go_wp2
          go_roundg (b - a - 1)
          case measure => have := HA.out; have := HLT.out; omega
          case rel =>
            refine ⟨a + 1, A2, c2, by have := HLT.out; omega, by go_num, by rw [HPS1.out], hid (by rw [HPS1.out]; exact HO2.out), HB2⟩
    · obtain rfl : a = m := by have := HA.out; omega
      rw [HPM.out] at HO ⊢
      clear ha hlt
      go_wp2
      go_ret
      exact ⟨A, c, rfl, HO.out, HB.out⟩
set_option maxRecDepth 100000 in
set_option maxHeartbeats 1000000 in
theorem isNodesS (m : Int) (w : World) :
    Calls Tryd.prog 81 #[.int .i64 m] w fun e w' => e = .returned (.bool (decide (2 ≤ m ∧ m ≤ 4))) ∧ w = w' := by
  by_cases h1 : 2 ≤ m
  · have g1 : decide (2 ≤ m) = true := decide_eq_true h1
    by_cases h2 : m ≤ 4
    · have g2 : decide (m ≤ 4) = true := decide_eq_true h2
      have g : decide (2 ≤ m ∧ m ≤ 4) = true := decide_eq_true ⟨h1, h2⟩
      rw [g]
      clear h1 h2 g
      go_enter Tryd.func81, Tryd.ntmps81
      go_wp2
      go_ret
      exact ⟨rfl, rfl⟩
    · have g2 : decide (m ≤ 4) = false := decide_eq_false h2
      have g : decide (2 ≤ m ∧ m ≤ 4) = false := decide_eq_false fun h => h2 h.2
      rw [g]
      clear h1 h2 g
      go_enter Tryd.func81, Tryd.ntmps81
      go_wp2
      go_ret
      exact ⟨rfl, rfl⟩
  · have g1 : decide (2 ≤ m) = false := decide_eq_false h1
    have g : decide (2 ≤ m ∧ m ≤ 4) = false := decide_eq_false fun h => h1 h.1
    rw [g]
    clear h1 g
    go_enter Tryd.func81, Tryd.ntmps81
    go_wp2
    go_ret
    exact ⟨rfl, rfl⟩
set_option maxRecDepth 100000 in
set_option maxHeartbeats 2000000 in
theorem indexP (A : Option Addr) (n c : Nat) (xs : List (Int × Int)) (p : Int × Int) (w : World) (hs : Sl2 w A n c xs) :
    Calls Tryd.prog 117 #[.slice A n c, .agg #[.int .i64 p.1, .int .i64 p.2]] w fun e w' => e = .returned (.int .i64 (idxL xs p)) ∧ Below w.heap.size w w' := by
  obtain ⟨p1, p2⟩ := p
  have hle := hs.len_le
  have HLX := hid hs.len
  have HB0 := hid ((Below.refl w.heap.size w).alloc (Nat.le_refl _) (.cells #[.int .i64 p1, .int .i64 p2] 66))
  have HP0 := hid (Blk.new w 66 #[.int .i64 p1, .int .i64 p2])
  have HS := hid (hs.below HB0.out)
  clear hs
  go_enter Tryd.func117, Tryd.ntmps117
  go_wp2
  go_loopg [8] n (fun gk i wr => ∃ k : Nat, gk + k = n ∧ i = .int .i64 k ∧ Hid (∀ (j : Nat) (y : Int × Int), j < k → xs[j]? = some y → y ≠ (p1, p2)) ∧ Hid (Below w.heap.size w wr) ∧ Hid (Blk wr w.heap.size 66 #[.int .i64 p1, .int .i64 p2]) ∧ Hid (Sl2 wr A n c xs))
  case atStart => exact ⟨0, by omega, rfl, hid (fun j _ h => absurd h (by omega)), HB0, HP0, HS⟩
  case round =>
    obtain ⟨k, hk, rfl, hno, HB, HP, HS⟩ := hrel
    have HK := hid hk
    by_cases hlt : k < n
    · obtain ⟨b, o, u, rfl, lb, hu, q0, q1⟩ := HS.out.at hlt
      have HY := hid hu
      obtain ⟨s, t⟩ := u
      have f0 := HP.out.cell 0; have f1 := HP.out.cell 1
      simp only [List.getElem?_toArray, List.getElem?_cons_zero, List.getElem?_cons_succ] at f0 f1
      have q1' := q1
      rw [← Nat.add_assoc] at q1'
      have HLT := hid hlt
      clear hk hu q1
      by_cases hxy : p1 = s ∧ p2 = t
      · obtain ⟨rfl, rfl⟩ := hxy
        have HA := hid (idxL_at HY.out hno.out)
        go_wp2_with fail
        go_quiet (fail)
        go_wp2
        go_ret
        exact ⟨by rw [HA.out]; rfl, below_drewN HB.out _⟩
      · have g : (p1 == s && p2 == t) = false := by
          rw [Bool.eq_false_iff]; intro h; simp at h; exact hxy h
        have HX := hid hxy
        clear hxy
        go_wp2_with fail
        go_quiet (fail)
        go_wp2
        go_roundg (gk - 1)
        case measure => have := HK.out; have := HLT.out; omega
        case rel =>
          refine ⟨k + 1, by have := HK.out; have := HLT.out; omega, by go_num, hid fun j z hj hz => ?_, hid (below_drewN HB.out _), hid (HP.out.drewN _), hid (HS.out.drewN _)⟩
          by_cases e : j = k
          · subst e; rw [HY.out] at hz; cases hz
            intro h
            simp at h
            exact HX.out ⟨h.1.symm, h.2.symm⟩
          · exact hno.out j z (by omega) hz
    · have HA : Hid (idxL xs (p1, p2) = -1) := hid (idxL_none fun j y hj => hno.out j y (by have := (List.getElem?_eq_some_iff.1 hj).1; have := HLX.out; omega) hj)
      clear hk
      go_wp2
      go_ret
      exact ⟨by rw [HA.out]; rfl, HB.out⟩
theorem movF_lt {s : Nat} : ∀ {tt : List Int}, (∀ x ∈ tt, 0 ≤ x ∧ x < 6) → movF s tt < 64 := by
  intro tt h
  rw [show (64 : Nat) = 2 ^ 6 from rfl]
  apply lt_of_bits
  suffices hh : ∀ (l : List (Int × Nat)) (o : Nat), (∀ p ∈ l, 0 ≤ p.1 ∧ p.1 < 6) → (∀ i, o.testBit i = true → i < 6) → ∀ i, (l.foldl (fun o p => o ||| ((s.testBit p.2).toNat <<< p.1.toNat)) o).testBit i = true → i < 6 by
    exact hh _ 0 (fun p hp => h _ (List.fst_mem_of_mem_zipIdx hp)) (fun i hi => by simp at hi)
  intro l
  induction l with
  | nil => intro o _ h2 i hi; exact h2 i hi
  | cons p l ih =>
    intro o h1 h2 i hi
    rw [List.foldl_cons] at hi
    refine ih _ (fun q hq => h1 q (List.mem_cons_of_mem _ hq)) (fun j hj => ?_) i hi
    rw [Nat.testBit_or] at hj
    rcases orE hj with hj | hj
    · exact h2 j hj
    · have hp := h1 p (by simp)
      cases hb : s.testBit p.2
      · rw [hb] at hj; simp at hj
      · rw [hb] at hj
        have e : (true.toNat <<< p.1.toNat) = 1 <<< p.1.toNat := rfl
        rw [e, Nat.one_shiftLeft, Nat.testBit_two_pow] at hj
        have := of_decide_eq_true hj
        omega
attribute [local go_sem ↓] shl_p2 shr_v and_shr shl_v or_nn
set_option maxRecDepth 100000 in
set_option maxHeartbeats 2000000 in
theorem movedS (s : Nat) (A : Option Addr) (n c : Nat) (tt : List Int) (w : World) (hs : Sl w A n c (tt.map (Value.int .i64))) (hb : ∀ x ∈ tt, 0 ≤ x ∧ x < 6) (hn : n ≤ 6) :
    Calls Tryd.prog 99 #[.int .i64 s, .slice A n c] w fun e w' => e = .returned (.int .i64 (movF s tt : Nat)) ∧ w = w' := by
  have HS := hid hs
  have HLX := hid hs.numlen
  have HBD := hid hb
  have HM0 : Hid (movF s (tt.take 0) = 0) := hid rfl
  have HLT := hid fun d => (movF_lt fun x hx => hb x (List.mem_of_mem_take hx) : movF s (tt.take d) < 64)
  have HMS := hid fun (d x : Nat) (h : tt[d]? = some (x : Int)) => (show movF s (tt.take (d + 1)) = orN (movF s (tt.take d)) (shlV (s.testBit d).toNat (x : Int)) from by
    rw [List.take_add_one, h]
    show movF s (tt.take d ++ [(x : Int)]) = _
    rw [movF_snoc, List.length_take, Nat.min_eq_left (Nat.le_of_lt (List.getElem?_eq_some_iff.1 h).1)]
    rfl)
  have HMT := hid (show movF s (tt.take n) = movF s tt from by rw [List.take_of_length_le (by have := HLX.out; omega)])
  clear hs hb
  go_enter Tryd.func99, Tryd.ntmps99
  go_wp2
  go_loopg [5, 10] n (fun gk v i wr => ∃ d : Nat, gk + d = n ∧ i = .int .i64 d ∧ v = .int .i64 (movF s (tt.take d) : Nat) ∧ w = wr)
  case atStart => exact ⟨0, by omega, rfl, by rw [HM0.out]; rfl, rfl⟩
  case round =>
    obtain ⟨d, hd, rfl, rfl, rfl⟩ := hrel
    have HD := hid hd
    by_cases hlt : d < n
    · have HL1 := hid hlt
      obtain ⟨b, o, rfl, lb, hdx, c1⟩ := HS.out.num hlt
      obtain ⟨x0, x1⟩ := HBD.out _ (at0_mem hdx)
      obtain ⟨x, hx⟩ := Int.eq_ofNat_of_zero_le x0
      have hget : tt[d]? = some (x : Int) := by
        have e : tt[d]? = some tt[d] := List.getElem?_eq_getElem hdx
        rw [e]; congr 1; rw [← hx]; exact (at0_get e).symm
      have HSN := hid (HMS.out d x hget)
      have hml := HLT.out d
      have hml2 := HLT.out (d + 1)
      rw [hx] at c1 x1
      have FX : Fits (d : Int) := ⟨by omega, by omega⟩
      have hbv : bitV (s : Int) (d : Int) = ((s.testBit d).toNat : Nat) := by rw [bitV_nat]; cases s.testBit d <;> rfl
      have hq2 : (s.testBit d).toNat < 64 := by cases s.testBit d <;> decide
      generalize (s.testBit d).toNat = q at *
      have SQ : ShlF q (x : Int) := ⟨hq2, by omega, by omega⟩
      have AQ : AndF (movF s (tt.take d)) (shlV q (x : Int)) := ⟨by omega, by have := shlV_lt SQ; omega⟩
      have HX := hid hx
      generalize movF s (tt.take d) = v at *
      clear hd x0 x1 hx hget hq2 hdx lb
      go_wp2
      go_roundg (gk - 1)
      case measure => have := HD.out; have := HL1.out; omega
      case rel => exact ⟨d + 1, by have := HD.out; have := HL1.out; omega, by go_num, by rw [HSN.out], rfl⟩
    · obtain rfl : d = n := by have := HD.out; omega
      rw [HMT.out]
      clear hd hlt
      go_wp2
      go_ret
      exact ⟨rfl, rfl⟩
end Go.Proofs.YtjddbglbodkihaaDoor
