/- Walk of evade.exchanges: what the exchanges of neighbouring nodes do to the pairs. Condition: at most four nodes. -/
import Derived.Test.YtjddbglbodkihaaDoorPrW
namespace Go.Proofs.YtjddbglbodkihaaDoor
open Go.RowKit

set_option maxRecDepth 100000 in
set_option maxHeartbeats 1000000 in
theorem swapS (a k : Nat) (b : Nat) (w : World) (ha : a ≤ 4) (hk : k ≤ 4) (hb : Blk w b 3 #[.int .i64 k]) :
    Calls Tryd.prog 116 #[.int .i64 a, .pointer (some ⟨b, 0, none⟩)] w fun e w' => e = .returned (.int .i64 (swapI k a)) ∧ w = w' := by
  have f0 := hb.cell 0
  simp only [List.getElem?_toArray, List.getElem?_cons_zero] at f0
  unfold swapI
  by_cases h1 : a = k
  · subst h1
    rw [if_pos rfl]
    have g : ((a : Int) == a) = true := by simp
    clear hb
    go_enter Tryd.func116, Tryd.ntmps116
    go_wp2
    go_ret
    exact ⟨rfl, rfl⟩
  · have g : ((a : Int) == k) = false := by rw [beq_eq_false_iff_ne]; omega
    have gn : (a == k) = false := by rw [beq_eq_false_iff_ne]; exact h1
    rw [if_neg (by omega)]
    by_cases h2 : a = k + 1
    · have g2 : ((a : Int) == k + 1) = true := by rw [beq_iff_eq]; omega
      have g2n : (a == k + 1) = true := by rw [beq_iff_eq]; exact h2
      rw [if_pos (by omega)]
      clear hb h1 h2
      go_enter Tryd.func116, Tryd.ntmps116
      go_wp2
      go_ret
      exact ⟨rfl, rfl⟩
    · have g2 : ((a : Int) == k + 1) = false := by rw [beq_eq_false_iff_ne]; omega
      have g2n : (a == k + 1) = false := by rw [beq_eq_false_iff_ne]; exact h2
      rw [if_neg (by omega)]
      clear hb h1 h2
      go_enter Tryd.func116, Tryd.ntmps116
      go_wp2
      go_ret
      exact ⟨rfl, rfl⟩
theorem quietEq {P : Program} {f : FuncId} {args : Array Value} {w : World} {n : Nat} {v : Value}
    (h : Calls P f args (w.drewN n) fun e w' => e = .returned v ∧ w.drewN n = w') : Calls P f args (w.drewN n) fun e w'' => e = .returned v ∧ ∃ m, w'' = w.drewN m :=
  h.mono fun _ _ ⟨he, hm⟩ => ⟨he, n, hm.symm⟩
theorem TI115 : TS Tryd.prog 115 22 1 24 (.slice none 0 0) := ⟨Tryd.underlying115, by kernel_rfl, rfl, by decide⟩
theorem own_kind2 {w : World} {B : Nat} {e : TypeId} {size : Nat} {v : Value} {n : Nat} {xs : List Value} (h : w.ownsRow B e size v n xs) : ∀ g, v.ownBlock = some g → ∃ c, w.heap[g]? = some (.cells c e (0, 0)) := by
  intro g hg
  rcases h.2 with ⟨rfl, _⟩ | ⟨g', cap, cur, rfl, _, hgg, _⟩
  · simp [Value.ownBlock] at hg
  · simp [Value.ownBlock] at hg
    subst hg
    exact ⟨cur, hgg⟩
theorem own_apart2 {w : World} {B B' : Nat} {e e' : TypeId} {size size' : Nat} {v v' : Value} {n n' : Nat} {xs xs' : List Value} (h : w.ownsRow B e size v n xs) (h' : w.ownsRow B' e' size' v' n' xs') (hne : e ≠ e') : v.ownBlock = none ∨ v.ownBlock ≠ v'.ownBlock := by
  cases hv : v.ownBlock with
  | none => exact .inl rfl
  | some g =>
    right
    intro he
    obtain ⟨c, hc⟩ := own_kind2 h g hv
    obtain ⟨c', hc'⟩ := own_kind2 h' g he.symm
    rw [hc] at hc'
    injection hc' with h1
    injection h1 with h2 h3
    exact hne h3
/-- Values that are slices of a world's own, with these numbers. -/
def LL (w : World) (base : Nat) (vs : List Value) (ls : List (List Int)) : Prop :=
  vs.length = ls.length ∧ ∀ (j : Nat) (v : Value) (l : List Int), vs[j]? = some v → ls[j]? = some l → w.ownsRow base 3 1 v l.length (l.map (Value.int .i64))
section
variable {w w' : World} {base : Nat} {vs : List Value} {ls : List (List Int)}
theorem LL.below (h : LL w base vs ls) (hb : Below w.heap.size w w') : LL w' base vs ls := ⟨h.1, fun j v l h1 h2 => own_below (h.2 j v l h1 h2) hb⟩
theorem LL.alloc (h : LL w base vs ls) (o : Obj) : LL (w.alloc o) base vs ls := ⟨h.1, fun j v l h1 h2 => (h.2 j v l h1 h2).alloc o⟩
theorem LL.grown {B : Nat} {e : TypeId} {size n : Nat} {v : Value} {xs : List Value} (h : LL w base vs ls) (ho : w.ownsRow B e size v n xs) (hg : w.grownBy w' v.ownBlock) (hne : 3 ≠ e) : LL w' base vs ls :=
  ⟨h.1, fun j u l h1 h2 => World.ownsRow.kept (h.2 j u l h1 h2) hg (own_apart2 (h.2 j u l h1 h2) ho hne)⟩
theorem LL.snoc {v : Value} {l : List Int} (h : LL w base vs ls) (hv : w.ownsRow base 3 1 v l.length (l.map (Value.int .i64))) : LL w base (vs ++ [v]) (ls ++ [l]) := by
  refine ⟨by simp [h.1], fun j u k h1 h2 => ?_⟩
  rw [List.getElem?_append] at h1 h2
  by_cases hj : j < vs.length
  · rw [if_pos hj] at h1
    rw [if_pos (by have := h.1; omega)] at h2
    exact h.2 j u k h1 h2
  · rw [if_neg hj] at h1
    rw [if_neg (by have := h.1; omega)] at h2
    have := h.1
    have e1 : j - vs.length = 0 := by
      have := (List.getElem?_eq_some_iff.1 h1).1
      simp at this; omega
    have e2 : j - ls.length = 0 := by omega
    rw [e1] at h1; rw [e2] at h2
    simp at h1 h2
    subst h1 h2
    exact hv
end
theorem pairs_bd : ∀ m : Fin 5, ∀ p ∈ pairsL m.val, 0 ≤ p.1 ∧ p.1 < 4 ∧ 0 ≤ p.2 ∧ p.2 < 4 := by decide
theorem swapI_bd {k a : Nat} (ha : a ≤ 4) (hk : k ≤ 4) : ∃ u : Nat, swapI k a = u ∧ u ≤ 5 := by
  unfold swapI
  by_cases h1 : (a : Int) = k
  · rw [if_pos h1]; exact ⟨k + 1, by omega, by omega⟩
  · rw [if_neg h1]
    by_cases h2 : (a : Int) = k + 1
    · rw [if_pos h2]; exact ⟨k, rfl, by omega⟩
    · rw [if_neg h2]; exact ⟨a, rfl, by omega⟩
theorem pairs_len : ∀ m : Fin 5, (pairsL m.val).length ≤ 6 := by decide
theorem idxL_bd {l : List (Int × Int)} {p : Int × Int} : -1 ≤ idxL l p ∧ idxL l p ≤ l.length := by
  unfold idxL
  split
  · have := List.idxOf_le_length (a := p) (l := l); omega
  · omega
theorem toL_take {m k d : Nat} {p : Int × Int} (h : (pairsL m)[d]? = some p) : (toL m k).take (d + 1) = (toL m k).take d ++ [idxL (pairsL m) (swapP k p)] := by
  unfold toL
  rw [List.take_add_one, List.getElem?_map, h]; rfl
theorem exL_take {m k : Nat} (h : k < m - 1) : (exL m).take (k + 1) = (exL m).take k ++ [toL m k] := by
  unfold exL
  rw [List.take_add_one, List.getElem?_map, List.getElem?_range h]; rfl
set_option maxRecDepth 100000 in
set_option maxHeartbeats 4000000 in
theorem exchangesS (m : Nat) (w : World) (hm : m ≤ 4) (hm2 : 2 ≤ m) :
    Calls Tryd.prog 98 #[.int .i64 m] w fun e w' => ∃ A c vs, e = .returned (.slice A (m - 1) c) ∧ w'.ownsRow w.heap.size 22 1 (.slice A (m - 1) c) (m - 1) vs ∧ LL w' w.heap.size vs (exL m) ∧ Below w.heap.size w w' := by
  have HP := hid (pairsS m w hm)
  have HBD := hid (pairs_bd ⟨m, by omega⟩)
  have hpl := pairs_len ⟨m, by omega⟩
  have HTT := hid fun k d p (h : (pairsL m)[d]? = some p) => toL_take (k := k) h
  have HTL := hid fun k => (show (toL m k).length = (pairsL m).length from by unfold toL; simp)
  have HEX := hid fun k (h : k < m - 1) => exL_take h
  have HEL := hid (show (exL m).length = m - 1 from by unfold exL; simp)
  simp only at HBD hpl
  generalize pairsL m = PM at *
  generalize exL m = EX at *
  generalize toL m = TL at *
  go_enter Tryd.func98, Tryd.ntmps98
  go_wp2_with fail
  refine HP.out.mono ?_; rintro e w1 ⟨A3, c3, rfl, ho, hb⟩
  have HO1 := hid ho
  have HB1 := hid hb
  have hz1 := hb.size
  clear ho hb
  go_wp2
  go_loopg [4, 16] (m - 1) (fun gk v i wr => ∃ (k : Nat) (A : Option Addr) (c : Nat) (vs : List Value), gk + k = m - 1 ∧ i = .int .i64 k ∧ v = .slice A k c ∧ Hid (wr.ownsRow w.heap.size 22 1 (.slice A k c) k vs) ∧ Hid (LL wr w.heap.size vs (EX.take k)) ∧ Hid (wr.ownsRow w.heap.size 66 2 (.slice A3 PM.length c3) PM.length (flat PM)) ∧ Hid (Below w.heap.size w wr))
  case atStart => exact ⟨0, none, 0, [], by omega, rfl, rfl, hid (World.ownsRow_nil _ _ _ _), hid ⟨by simp, fun j v l h => by simp at h⟩, HO1, HB1⟩
  case round =>
    obtain ⟨k, A, c, vs, hk, rfl, rfl, HO, HLL, HPO, HB⟩ := hrel
    have HK := hid hk
    by_cases hlt : k < m - 1
    · have HLT := hid hlt
      have g0 : decide ((k : Int) < (m : Int) - 1) = true := decide_eq_true (by omega)
      have hzr := HB.out.size
      have HO0 := hid (HO.out.alloc (.cells #[.int .i64 k] 3))
      have HLL0 := hid (HLL.out.alloc (.cells #[.int .i64 k] 3))
      have HPO0 := hid (HPO.out.alloc (.cells #[.int .i64 k] 3))
      have HB0 := hid (HB.out.alloc hzr (.cells #[.int .i64 k] 3))
      have HK0 := hid (Blk.new wr 3 #[.int .i64 k])
      have HK4 : Hid (k ≤ 4) := hid (by omega)
      have HZB := hid (show wr.heap.size < (wr.alloc (.cells #[.int .i64 k] 3)).heap.size from by simp)
      have HZB2 := hid hzr
      clear hk hzr
      go_wp2
      generalize wr.alloc (.cells #[.int .i64 k] 3) = W0 at *
      generalize wr.heap.size = BK at *
      go_loopg [7, 22] PM.length (fun gj v i wx => ∃ (d : Nat) (A' : Option Addr) (c' : Nat), gj + d = PM.length ∧ i = .int .i64 d ∧ v = .slice A' d c' ∧ Hid (wx.ownsRow W0.heap.size 3 1 (.slice A' d c') d (((TL k).take d).map (Value.int .i64))) ∧ Hid (Below W0.heap.size W0 wx))
      case atStart => exact ⟨0, none, 0, by omega, rfl, rfl, hid (by simpa using World.ownsRow_nil _ _ _ _), hid (Below.refl _ _)⟩
      case round =>
        obtain ⟨d, A', c', hd, rfl, rfl, HI, HW⟩ := hrel
        have HD := hid hd
        by_cases hlt2 : d < PM.length
        · have HLT2 := hid hlt2
          obtain ⟨b, o, u, hA3, lb, hu, q0, q1⟩ := (Sl2.of_own (own_below HPO0.out HW.out)).at hlt2
          have HU := hid hu
          have hub := HBD.out u (List.mem_of_getElem? hu)
          obtain ⟨x, y⟩ := u
          simp only at q0 q1 hub
          obtain ⟨x, rfl⟩ := Int.eq_ofNat_of_zero_le hub.1
          obtain ⟨y, rfl⟩ := Int.eq_ofNat_of_zero_le hub.2.2.1
          subst hA3
          have q1' := q1
          rw [← Nat.add_assoc] at q1'
          have HKX := hid (HK0.out.keep HW.out)
          have HSX := hid fun (W : World) (hb : Blk W BK 3 #[.int .i64 k]) => swapS x k BK W (by omega) HK4.out hb
          have HSY := hid fun (W : World) (hb : Blk W BK 3 #[.int .i64 k]) => swapS y k BK W (by omega) HK4.out hb
          have HTN := hid (HTT.out k d _ hu)
          unfold swapP at HTN
          simp only at HTN
          obtain ⟨x2, hx2, hx5⟩ := swapI_bd (k := k) (a := x) (by omega) HK4.out
          obtain ⟨y2, hy2, hy5⟩ := swapI_bd (k := k) (a := y) (by omega) HK4.out
          rw [hx2] at HSX HTN; rw [hy2] at HSY HTN
          have HWB := hid (HW.out.alloc HW.out.size (.cells #[.int .i64 x, .int .i64 y] 66))
          have HIB := hid (HI.out.alloc (.cells #[.int .i64 x, .int .i64 y] 66))
          have HKB := hid (HKX.out.alloc (.cells #[.int .i64 x, .int .i64 y] 66))
          have HBB := hid (Blk.new wr 66 #[.int .i64 x, .int .i64 y])
          have f0 := HBB.out.cell 0; have f1 := HBB.out.cell 1
          simp only [List.getElem?_toArray, List.getElem?_cons_zero, List.getElem?_cons_succ] at f0 f1
          clear hd q1 hu hub hx2 hy2 lb
          go_wp2_with fail
          go_quiet ((first | (go_at_call 116; with_reducible exact quietEq (HSX.out _ (HKB.out.drewN _))) | (go_at_call 116; with_reducible exact quietEq (HSY.out _ (HKB.out.drewN _)))))
          have HI1 := hid (own_drewN HIB.out nq)
          have HW1 := hid (below_drewN HWB.out nq)
          generalize ((wr.alloc (.cells #[.int .i64 (x : Int), .int .i64 (y : Int)] 66)).drewN nq) = W1 at *
          have HIX := hid (indexP _ PM.length c3 PM (min (x2 : Int) y2, max (x2 : Int) y2) W1 (Sl2.of_own (own_below HPO0.out HW1.out)))
          clear f0 f1 HKB HBB HWB HIB q0 q1'
          have hib := idxL_bd (l := PM) (p := (min (x2 : Int) y2, max (x2 : Int) y2))
          generalize idxL PM (min (x2 : Int) y2, max (x2 : Int) y2) = ix at *
          go_wp2_with fail
          refine (HIX.out).mono ?_; rintro e W2 ⟨rfl, b2⟩
          have HI2 := hid (own_below HI1.out b2)
          have HW2 := hid (below_call HW1.out b2 HW1.out.size)
          have hz2 := HW2.out.size
          clear b2 hib
          go_wp2_with (at_builtin; refine push1P TI22 W2 #[.int .i64 ix] W0.heap.size _ _ _ HI2.out _ _ W2.heap.size rfl rfl rfl rfl rfl rfl (by simp [Value.oneCell']) (by have := HLT2.out; omega) (by have := HLT2.out; omega) hz2 ?_; intro v1 w8 hown1 hgr)
          have HW8 := hid (below_push HW2.out HI2.out hgr hz2 (Nat.le_refl _))
          obtain ⟨A8, c8, rfl⟩ := own_form hown1
          have HI8 := hid hown1
          clear hown1 hgr hz2
          go_wp2
          go_roundg (gk - 1)
          case measure => have := HD.out; have := HLT2.out; omega
          case rel =>
            refine ⟨d + 1, A8, c8, by have := HD.out; have := HLT2.out; omega, by go_num, rfl, hid ?_, HW8⟩
            rw [HTN.out, List.map_append]
            exact HI8.out
        · obtain rfl : d = PM.length := by have := HD.out; omega
          have e : (TL k).take PM.length = TL k := List.take_of_length_le (by have := HTL.out k; omega)
          rw [e] at HI
          have HI2 := hid HI.out
          have HO2 := hid (own_below HO0.out HW.out)
          have HLL2 := hid (HLL0.out.below HW.out)
          have HPO2 := hid (own_below HPO0.out HW.out)
          have HB2 := hid (below_call HB0.out HW.out HB0.out.size)
          have hz2 := HB2.out.size
          have hzw := HB0.out.size
          have HZW := hid hzw
          clear hd hlt2 e HI hzw
          go_wp2_with (at_builtin; refine push1P TI115 wr #[.slice A' PM.length c'] w.heap.size _ _ _ HO2.out _ _ wr.heap.size rfl rfl rfl rfl rfl rfl (by simp [Value.oneCell']) (by have := HLT.out; omega) (by have := HLT.out; omega) hz2 ?_; intro v1 w8 hown1 hgr)
          have HB8 := hid (below_push HB2.out HO2.out hgr hz2 (Nat.le_refl _))
          have HPO8 := hid (World.ownsRow.kept (HPO2.out.alloc (.cells #[.slice A' PM.length c'] 22)) hgr (own_apart2 HPO2.out HO2.out (by decide)))
          have hin : (wr.alloc (.cells #[.slice A' PM.length c'] 22)).ownsRow w.heap.size 3 1 (.slice A' PM.length c') (TL k).length ((TL k).map (Value.int .i64)) := by
            rw [HTL.out k]; exact (own_more HI2.out HZW.out).alloc _
          have HLL8 := hid (LL.grown ((HLL2.out.alloc (.cells #[.slice A' PM.length c'] 22)).snoc hin) (HO2.out.alloc (.cells #[.slice A' PM.length c'] 22)) hgr (by decide))
          rw [← HEX.out k HLT.out] at HLL8
          obtain ⟨A8, c8, rfl⟩ := own_form hown1
          have HO8 := hid hown1
          clear hown1 hgr hz2 hin
          go_wp2
          go_roundg (m - 1 - k - 1)
          case measure => have := HK.out; have := HLT.out; omega
          case rel => exact ⟨k + 1, A8, c8, _, by have := HK.out; have := HLT.out; omega, by go_num, rfl, HO8, HLL8, HPO8, HB8⟩
    · obtain rfl : k = m - 1 := by have := HK.out; omega
      have g0 : decide (((m - 1 : Nat) : Int) < (m : Int) - 1) = false := decide_eq_false (by omega)
      have e : EX.take (m - 1) = EX := List.take_of_length_le (by have := HEL.out; omega)
      rw [e] at HLL
      have HLL2 := hid HLL.out
      clear hk hlt e
      go_wp2
      go_ret
      exact ⟨A, c, vs, rfl, HO.out, HLL2.out, HB.out⟩
end Go.Proofs.YtjddbglbodkihaaDoor
