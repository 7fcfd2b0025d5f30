/- Walk of the reference's exchanged: a graph with two nodes exchanged. Condition: at most four nodes. -/
import Derived.Test.YtjddbglbodkihaaDoorNumW
import Derived.Test.YtjddbglbodkihaaDoorPrW
import Derived.BigQuiet
namespace Go.Proofs.YtjddbglbodkihaaDoor
open Go.RowKit
attribute [local go_sem ↓] shl_p2 shr_v and_shr shl_v or_nn

def sw (x y i : Nat) : Nat := if i = x then y else if i = y then x else i
def exStep (m g x y i j : Nat) (o : Nat) : Nat := orN o (shlV (g.testBit (numN m i j)).toNat ((numN m (min (sw x y i) (sw x y j)) (max (sw x y i) (sw x y j)) : Nat) : Int))
/-- The graph with x and y exchanged. -/
def exS (m g x y : Nat) (l : List (Int × Int)) : Nat := l.foldl (fun o p => exStep m g x y p.1.toNat p.2.toNat o) 0
theorem exS_snoc (m g x y : Nat) (l : List (Int × Int)) (i j : Nat) : exS m g x y (l ++ [((i : Int), (j : Int))]) = exStep m g x y i j (exS m g x y l) := by simp [exS, List.foldl_append]
theorem quietEq2 {P : Program} {f : FuncId} {args : Array Value} {w : World} {n : Nat} {v : Value}
    (h : Calls P f args (w.drewN n) fun e w' => e = .returned v ∧ w.drewN n = w') : Calls P f args (w.drewN n) fun e w'' => e = .returned v ∧ ∃ m, w'' = w.drewN m :=
  h.mono fun _ _ ⟨he, hm⟩ => ⟨he, n, hm.symm⟩
/-- The same world, later. -/
def Later (w w' : World) : Prop := ∃ q, w' = w.drewN q
theorem Later.refl (w : World) : Later w w := ⟨0, rfl⟩
theorem Later.step {w w' : World} (h : Later w w') (n : Nat) : Later w (w'.drewN n) := by
  obtain ⟨q, rfl⟩ := h
  exact ⟨q + n, by unfold World.drewN; simp [Nat.add_assoc]⟩
theorem numN_lt : ∀ m : Fin 5, ∀ i j : Fin 4, i.val < j.val → j.val < m.val → numN m.val i.val j.val < 6 := by decide
theorem exStep_lt {m g x y i j o : Nat} (ho : o < 64) (hn : numN m (min (sw x y i) (sw x y j)) (max (sw x y i) (sw x y j)) < 6) : exStep m g x y i j o < 64 := by
  unfold exStep orN shlV
  rw [Int.toNat_natCast]
  refine Nat.or_lt_two_pow (n := 6) ho ?_
  have : ∀ q : Fin 6, ∀ b : Bool, b.toNat <<< q.val < 2 ^ 6 := by decide
  exact this ⟨_, hn⟩ _
theorem sw_bd {m x y i : Nat} (hx : x < m) (hy : y < m) (hi : i < m) : sw x y i < m := by unfold sw; split; exact hy; split; exact hx; exact hi
theorem sw_ne {x y i j : Nat} (h : i ≠ j) : sw x y i ≠ sw x y j := by unfold sw; split <;> split <;> (try split) <;> (try split) <;> omega
set_option maxRecDepth 100000 in
set_option maxHeartbeats 4000000 in
theorem exchangedS (m g x y : Nat) (w : World) (h4 : m ≤ 4) (hyx : y < x) (hx : x < m) :
    Calls Tryd.prog 84 #[.int .i64 m, .int .i64 g, .int .i64 x, .int .i64 y] w fun e w' => e = .returned (.int .i64 (exS m g x y (pairsL m) : Nat)) ∧ Later w w' := by
  have HNU := hid fun i j (hij : i ≠ j) (hi : i < m) (hj : j < m) W => numberS m i j W h4 hij hi hj
  have HNL := hid fun i j (hij : i < j) (hj : j < m) => (numN_lt ⟨m, by omega⟩ ⟨i, by omega⟩ ⟨j, by omega⟩ hij hj : numN m i j < 6)
  have H0 : Hid (exS m g x y (prL m 0) = 0) := hid rfl
  have HPM : Hid (prL m m = pairsL m) := hid rfl
  have HPS := hid fun i => prL_succ m i
  have HRS := hid fun i j (h : i + 1 ≤ j) => rowL_succ h
  have HRN := hid fun i => rowL_none i
  go_enter Tryd.func84, Tryd.ntmps84
  go_wp2
  go_loopg [9, 15] m (fun gk v t wr => ∃ i : Nat, gk + i = m ∧ t = .int .i64 i ∧ v = .int .i64 (exS m g x y (prL m i) : Nat) ∧ exS m g x y (prL m i) < 64 ∧ Hid (Later w wr))
  case atStart => exact ⟨0, by omega, rfl, by rw [H0.out]; rfl, by rw [H0.out]; decide, hid (Later.refl w)⟩
  case round =>
    obtain ⟨i, hi, rfl, rfl, hv64, HW⟩ := hrel
    have HII := hid hi
    by_cases hlt : i < m
    · have HLT := hid hlt
      clear hi
      go_wp2
      go_loopg [9, 11] (m - (i + 1)) (fun gj v t wr => ∃ j : Nat, gj + j = m ∧ i + 1 ≤ j ∧ t = .int .i64 j ∧ v = .int .i64 (exS m g x y (prL m i ++ rowL i j) : Nat) ∧ exS m g x y (prL m i ++ rowL i j) < 64 ∧ Hid (Later w wr))
      case atStart => exact ⟨i + 1, by omega, by omega, by go_num, by rw [HRN.out, List.append_nil], by rw [HRN.out, List.append_nil]; exact hv64, HW⟩
      case round =>
        clear hv64
        obtain ⟨j, hj, hij, rfl, rfl, hv64, HW⟩ := hrel
        have HJ := hid hj
        have HIJ := hid hij
        by_cases hlt2 : j < m
        · have HLT2 := hid hlt2
          have HST := hid (show exS m g x y (prL m i ++ rowL i (j + 1)) = exStep m g x y i j (exS m g x y (prL m i ++ rowL i j)) from by rw [HRS.out i j hij, ← List.append_assoc, exS_snoc])
          have hsi := sw_bd (m := m) (y := y) hx (by omega) hlt
          have hsj := sw_bd (m := m) (y := y) hx (by omega) hlt2
          have hsn := sw_ne (x := x) (y := y) (show i ≠ j by omega)
          have hn1 := HNL.out i j hij hlt2
          have hn2 := HNL.out (min (sw x y i) (sw x y j)) (max (sw x y i) (sw x y j)) (by omega) (by omega)
          have hst := exStep_lt (g := g) hv64 hn2
          have HC1 := hid fun W => HNU.out i j (by omega) hlt hlt2 W
          rw [Nat.min_eq_left (by omega), Nat.max_eq_right (by omega)] at HC1
          have HC2 := hid fun W => HNU.out (sw x y i) (sw x y j) hsn hsi hsj W
          unfold exStep at HST hst
          generalize exS m g x y (prL m i ++ rowL i j) = v at *
          generalize hN2 : numN m (min (sw x y i) (sw x y j)) (max (sw x y i) (sw x y j)) = N2 at *
          generalize hN1 : numN m i j = N1 at *
          have hbv : bitV (g : Int) (N1 : Int) = ((g.testBit N1).toNat : Nat) := by rw [bitV_nat]; cases g.testBit N1 <;> rfl
          have hq2 : (g.testBit N1).toNat < 64 := by cases g.testBit N1 <;> decide
          generalize (g.testBit N1).toNat = qb at *
          have FX : Fits (N1 : Int) := ⟨by omega, by omega⟩
          have SQ : ShlF qb (N2 : Int) := ⟨hq2, by omega, by omega⟩
          have AQ : AndF v (shlV qb (N2 : Int)) := ⟨by omega, by have := shlV_lt SQ; omega⟩
          have HSL := hid hst
          have HST2 := hid HST.out
          have HEQ := hid (show sw x y i = i → sw x y j = j → N2 = N1 from fun h1 h2 => by rw [← hN2, ← hN1, h1, h2, Nat.min_eq_left (by omega), Nat.max_eq_right (by omega)])
          clear hN1 hN2 hst hn1 hn2 hq2 hsi hsj hsn

          by_cases hix : i = x
          · skip
            by_cases hjx : j = x
            · exfalso; omega
            · by_cases hjy : j = y
              · skip
                have hsi2 : sw x y i = y := by unfold sw; split <;> (try split) <;> omega
                have hsj2 : sw x y j = x := by unfold sw; split <;> (try split) <;> omega
                rw [hsi2, hsj2] at HC2
                have kix : ((i : Int) == x) = true := by first | (rw [beq_iff_eq]; omega) | (rw [beq_eq_false_iff_ne]; omega)
                have lix : (i == x) = true := by first | (rw [beq_iff_eq]; omega) | (rw [beq_eq_false_iff_ne]; omega)
                have kiy : ((i : Int) == y) = false := by first | (rw [beq_iff_eq]; omega) | (rw [beq_eq_false_iff_ne]; omega)
                have liy : (i == y) = false := by first | (rw [beq_iff_eq]; omega) | (rw [beq_eq_false_iff_ne]; omega)
                have kjx : ((j : Int) == x) = false := by first | (rw [beq_iff_eq]; omega) | (rw [beq_eq_false_iff_ne]; omega)
                have ljx : (j == x) = false := by first | (rw [beq_iff_eq]; omega) | (rw [beq_eq_false_iff_ne]; omega)
                have kjy : ((j : Int) == y) = true := by first | (rw [beq_iff_eq]; omega) | (rw [beq_eq_false_iff_ne]; omega)
                have ljy : (j == y) = true := by first | (rw [beq_iff_eq]; omega) | (rw [beq_eq_false_iff_ne]; omega)
                clear hsi2 hsj2 hij hj hix hjx hjy
                go_wp2_with fail
                go_quiet ((first | (go_at_call 100; with_reducible exact quietEq2 (HC1.out _)) | (go_at_call 100; with_reducible exact quietEq2 (HC2.out _))))
                go_wp2
                go_roundg (gk - 1)
                case measure => have := HJ.out; have := HLT2.out; omega
                case rel => exact ⟨j + 1, by have := HJ.out; have := HLT2.out; omega, by have := HIJ.out; omega, by go_num, by rw [HST2.out], by rw [HST2.out]; exact HSL.out, hid (HW.out.step _)⟩
              · skip
                have hsi2 : sw x y i = y := by unfold sw; split <;> (try split) <;> omega
                have hsj2 : sw x y j = j := by unfold sw; split <;> (try split) <;> omega
                rw [hsi2, hsj2] at HC2
                have kix : ((i : Int) == x) = true := by first | (rw [beq_iff_eq]; omega) | (rw [beq_eq_false_iff_ne]; omega)
                have lix : (i == x) = true := by first | (rw [beq_iff_eq]; omega) | (rw [beq_eq_false_iff_ne]; omega)
                have kiy : ((i : Int) == y) = false := by first | (rw [beq_iff_eq]; omega) | (rw [beq_eq_false_iff_ne]; omega)
                have liy : (i == y) = false := by first | (rw [beq_iff_eq]; omega) | (rw [beq_eq_false_iff_ne]; omega)
                have kjx : ((j : Int) == x) = false := by first | (rw [beq_iff_eq]; omega) | (rw [beq_eq_false_iff_ne]; omega)
                have ljx : (j == x) = false := by first | (rw [beq_iff_eq]; omega) | (rw [beq_eq_false_iff_ne]; omega)
                have kjy : ((j : Int) == y) = false := by first | (rw [beq_iff_eq]; omega) | (rw [beq_eq_false_iff_ne]; omega)
                have ljy : (j == y) = false := by first | (rw [beq_iff_eq]; omega) | (rw [beq_eq_false_iff_ne]; omega)
                clear hsi2 hsj2 hij hj hix hjx hjy
                go_wp2_with fail
                go_quiet ((first | (go_at_call 100; with_reducible exact quietEq2 (HC1.out _)) | (go_at_call 100; with_reducible exact quietEq2 (HC2.out _))))
                go_wp2
                go_roundg (gk - 1)
                case measure => have := HJ.out; have := HLT2.out; omega
                case rel => exact ⟨j + 1, by have := HJ.out; have := HLT2.out; omega, by have := HIJ.out; omega, by go_num, by rw [HST2.out], by rw [HST2.out]; exact HSL.out, hid (HW.out.step _)⟩
          · by_cases hiy : i = y
            · skip
              by_cases hjx : j = x
              · skip
                have hsi2 : sw x y i = x := by unfold sw; split <;> (try split) <;> omega
                have hsj2 : sw x y j = y := by unfold sw; split <;> (try split) <;> omega
                rw [hsi2, hsj2] at HC2
                have kix : ((i : Int) == x) = false := by first | (rw [beq_iff_eq]; omega) | (rw [beq_eq_false_iff_ne]; omega)
                have lix : (i == x) = false := by first | (rw [beq_iff_eq]; omega) | (rw [beq_eq_false_iff_ne]; omega)
                have kiy : ((i : Int) == y) = true := by first | (rw [beq_iff_eq]; omega) | (rw [beq_eq_false_iff_ne]; omega)
                have liy : (i == y) = true := by first | (rw [beq_iff_eq]; omega) | (rw [beq_eq_false_iff_ne]; omega)
                have kjx : ((j : Int) == x) = true := by first | (rw [beq_iff_eq]; omega) | (rw [beq_eq_false_iff_ne]; omega)
                have ljx : (j == x) = true := by first | (rw [beq_iff_eq]; omega) | (rw [beq_eq_false_iff_ne]; omega)
                have kjy : ((j : Int) == y) = false := by first | (rw [beq_iff_eq]; omega) | (rw [beq_eq_false_iff_ne]; omega)
                have ljy : (j == y) = false := by first | (rw [beq_iff_eq]; omega) | (rw [beq_eq_false_iff_ne]; omega)
                clear hsi2 hsj2 hij hj hix hiy hjx
                go_wp2_with fail
                go_quiet ((first | (go_at_call 100; with_reducible exact quietEq2 (HC1.out _)) | (go_at_call 100; with_reducible exact quietEq2 (HC2.out _))))
                go_wp2
                go_roundg (gk - 1)
                case measure => have := HJ.out; have := HLT2.out; omega
                case rel => exact ⟨j + 1, by have := HJ.out; have := HLT2.out; omega, by have := HIJ.out; omega, by go_num, by rw [HST2.out], by rw [HST2.out]; exact HSL.out, hid (HW.out.step _)⟩
              · by_cases hjy : j = y
                · exfalso; omega
                · skip
                  have hsi2 : sw x y i = x := by unfold sw; split <;> (try split) <;> omega
                  have hsj2 : sw x y j = j := by unfold sw; split <;> (try split) <;> omega
                  rw [hsi2, hsj2] at HC2
                  have kix : ((i : Int) == x) = false := by first | (rw [beq_iff_eq]; omega) | (rw [beq_eq_false_iff_ne]; omega)
                  have lix : (i == x) = false := by first | (rw [beq_iff_eq]; omega) | (rw [beq_eq_false_iff_ne]; omega)
                  have kiy : ((i : Int) == y) = true := by first | (rw [beq_iff_eq]; omega) | (rw [beq_eq_false_iff_ne]; omega)
                  have liy : (i == y) = true := by first | (rw [beq_iff_eq]; omega) | (rw [beq_eq_false_iff_ne]; omega)
                  have kjx : ((j : Int) == x) = false := by first | (rw [beq_iff_eq]; omega) | (rw [beq_eq_false_iff_ne]; omega)
                  have ljx : (j == x) = false := by first | (rw [beq_iff_eq]; omega) | (rw [beq_eq_false_iff_ne]; omega)
                  have kjy : ((j : Int) == y) = false := by first | (rw [beq_iff_eq]; omega) | (rw [beq_eq_false_iff_ne]; omega)
                  have ljy : (j == y) = false := by first | (rw [beq_iff_eq]; omega) | (rw [beq_eq_false_iff_ne]; omega)
                  clear hsi2 hsj2 hij hj hix hiy hjx hjy
                  go_wp2_with fail
                  go_quiet ((first | (go_at_call 100; with_reducible exact quietEq2 (HC1.out _)) | (go_at_call 100; with_reducible exact quietEq2 (HC2.out _))))
                  go_wp2
                  go_roundg (gk - 1)
                  case measure => have := HJ.out; have := HLT2.out; omega
                  case rel => exact ⟨j + 1, by have := HJ.out; have := HLT2.out; omega, by have := HIJ.out; omega, by go_num, by rw [HST2.out], by rw [HST2.out]; exact HSL.out, hid (HW.out.step _)⟩
            · skip
              by_cases hjx : j = x
              · skip
                have hsi2 : sw x y i = i := by unfold sw; split <;> (try split) <;> omega
                have hsj2 : sw x y j = y := by unfold sw; split <;> (try split) <;> omega
                rw [hsi2, hsj2] at HC2
                have kix : ((i : Int) == x) = false := by first | (rw [beq_iff_eq]; omega) | (rw [beq_eq_false_iff_ne]; omega)
                have lix : (i == x) = false := by first | (rw [beq_iff_eq]; omega) | (rw [beq_eq_false_iff_ne]; omega)
                have kiy : ((i : Int) == y) = false := by first | (rw [beq_iff_eq]; omega) | (rw [beq_eq_false_iff_ne]; omega)
                have liy : (i == y) = false := by first | (rw [beq_iff_eq]; omega) | (rw [beq_eq_false_iff_ne]; omega)
                have kjx : ((j : Int) == x) = true := by first | (rw [beq_iff_eq]; omega) | (rw [beq_eq_false_iff_ne]; omega)
                have ljx : (j == x) = true := by first | (rw [beq_iff_eq]; omega) | (rw [beq_eq_false_iff_ne]; omega)
                have kjy : ((j : Int) == y) = false := by first | (rw [beq_iff_eq]; omega) | (rw [beq_eq_false_iff_ne]; omega)
                have ljy : (j == y) = false := by first | (rw [beq_iff_eq]; omega) | (rw [beq_eq_false_iff_ne]; omega)
                clear hsi2 hsj2 hij hj hix hiy hjx
                go_wp2_with fail
                go_quiet ((first | (go_at_call 100; with_reducible exact quietEq2 (HC1.out _)) | (go_at_call 100; with_reducible exact quietEq2 (HC2.out _))))
                go_wp2
                go_roundg (gk - 1)
                case measure => have := HJ.out; have := HLT2.out; omega
                case rel => exact ⟨j + 1, by have := HJ.out; have := HLT2.out; omega, by have := HIJ.out; omega, by go_num, by rw [HST2.out], by rw [HST2.out]; exact HSL.out, hid (HW.out.step _)⟩
              · by_cases hjy : j = y
                · skip
                  have hsi2 : sw x y i = i := by unfold sw; split <;> (try split) <;> omega
                  have hsj2 : sw x y j = x := by unfold sw; split <;> (try split) <;> omega
                  rw [hsi2, hsj2] at HC2
                  have kix : ((i : Int) == x) = false := by first | (rw [beq_iff_eq]; omega) | (rw [beq_eq_false_iff_ne]; omega)
                  have lix : (i == x) = false := by first | (rw [beq_iff_eq]; omega) | (rw [beq_eq_false_iff_ne]; omega)
                  have kiy : ((i : Int) == y) = false := by first | (rw [beq_iff_eq]; omega) | (rw [beq_eq_false_iff_ne]; omega)
                  have liy : (i == y) = false := by first | (rw [beq_iff_eq]; omega) | (rw [beq_eq_false_iff_ne]; omega)
                  have kjx : ((j : Int) == x) = false := by first | (rw [beq_iff_eq]; omega) | (rw [beq_eq_false_iff_ne]; omega)
                  have ljx : (j == x) = false := by first | (rw [beq_iff_eq]; omega) | (rw [beq_eq_false_iff_ne]; omega)
                  have kjy : ((j : Int) == y) = true := by first | (rw [beq_iff_eq]; omega) | (rw [beq_eq_false_iff_ne]; omega)
                  have ljy : (j == y) = true := by first | (rw [beq_iff_eq]; omega) | (rw [beq_eq_false_iff_ne]; omega)
                  clear hsi2 hsj2 hij hj hix hiy hjx hjy
                  go_wp2_with fail
                  go_quiet ((first | (go_at_call 100; with_reducible exact quietEq2 (HC1.out _)) | (go_at_call 100; with_reducible exact quietEq2 (HC2.out _))))
                  go_wp2
                  go_roundg (gk - 1)
                  case measure => have := HJ.out; have := HLT2.out; omega
                  case rel => exact ⟨j + 1, by have := HJ.out; have := HLT2.out; omega, by have := HIJ.out; omega, by go_num, by rw [HST2.out], by rw [HST2.out]; exact HSL.out, hid (HW.out.step _)⟩
                · skip
                  have hsi2 : sw x y i = i := by unfold sw; split <;> (try split) <;> omega
                  have hsj2 : sw x y j = j := by unfold sw; split <;> (try split) <;> omega
                  obtain rfl := HEQ.out hsi2 hsj2
                  rw [hsi2, hsj2] at HC2
                  have kix : ((i : Int) == x) = false := by first | (rw [beq_iff_eq]; omega) | (rw [beq_eq_false_iff_ne]; omega)
                  have lix : (i == x) = false := by first | (rw [beq_iff_eq]; omega) | (rw [beq_eq_false_iff_ne]; omega)
                  have kiy : ((i : Int) == y) = false := by first | (rw [beq_iff_eq]; omega) | (rw [beq_eq_false_iff_ne]; omega)
                  have liy : (i == y) = false := by first | (rw [beq_iff_eq]; omega) | (rw [beq_eq_false_iff_ne]; omega)
                  have kjx : ((j : Int) == x) = false := by first | (rw [beq_iff_eq]; omega) | (rw [beq_eq_false_iff_ne]; omega)
                  have ljx : (j == x) = false := by first | (rw [beq_iff_eq]; omega) | (rw [beq_eq_false_iff_ne]; omega)
                  have kjy : ((j : Int) == y) = false := by first | (rw [beq_iff_eq]; omega) | (rw [beq_eq_false_iff_ne]; omega)
                  have ljy : (j == y) = false := by first | (rw [beq_iff_eq]; omega) | (rw [beq_eq_false_iff_ne]; omega)
                  clear hsi2 hsj2 hij hj hix hiy hjx hjy
                  go_wp2_with fail
                  go_quiet ((first | (go_at_call 100; with_reducible exact quietEq2 (HC1.out _)) | (go_at_call 100; with_reducible exact quietEq2 (HC2.out _))))
                  go_wp2
                  go_roundg (gk - 1)
                  case measure => have := HJ.out; have := HLT2.out; omega
                  case rel => exact ⟨j + 1, by have := HJ.out; have := HLT2.out; omega, by have := HIJ.out; omega, by go_num, by rw [HST2.out], by rw [HST2.out]; exact HSL.out, hid (HW.out.step _)⟩
        · obtain rfl : j = m := by have := HJ.out; omega
          have HS := hid (HPS.out i)
          clear hj hij hlt2
          go_wp2
          go_roundg (j - i - 1)
          case measure => have := HII.out; have := HLT.out; omega
          case rel => exact ⟨i + 1, by have := HLT.out; omega, by go_num, by rw [HS.out], by rw [HS.out]; exact hv64, HW⟩
    · obtain rfl : i = m := by have := HII.out; omega
      rw [HPM.out]
      clear hi hlt
      go_wp2
      go_ret
      exact ⟨rfl, HW.out⟩
end Go.Proofs.YtjddbglbodkihaaDoor
