/- Walk of the reference's groups: the codes that each pair of marks leaves, in 25 places. Conditions: the game's numbers are small; the slice reads as codes. -/
import Derived.Test.YtdclmhmdkhpekaaSolveK
import Derived.Test.YtdclmhmdkhpekaaRefMarks
namespace Go.Proofs.Ytdclmhmdkhpekaa
open Go.RowKit Go.Maps

def arrV (n : Nat) (vs : Nat → Value) : Array Value := ((List.range n).map vs).toArray
theorem arrV_get {n : Nat} {f : Nat → Value} {i : Nat} (h : i < n) : (arrV n f)[i]? = some (f i) := by simp [arrV, h]
theorem arrV_size (n : Nat) (f : Nat → Value) : (arrV n f).size = n := by simp [arrV]
theorem arrV_set {n : Nat} {f : Nat → Value} {i : Nat} (v : Value) : (arrV n f).setIfInBounds i v = arrV n (fun j => if j = i then v else f j) := by
  apply Array.ext_getElem?
  intro j
  rw [Array.getElem?_setIfInBounds]
  by_cases hj : j < n
  · rw [arrV_get hj, arrV_get hj, arrV_size]
    by_cases e : i = j
    · subst e; simp [hj]
    · rw [if_neg e, if_neg (Ne.symm e)]
  · have hz : ∀ g : Nat → Value, (arrV n g)[j]? = none := fun g => Array.getElem?_eq_none (by rw [arrV_size]; omega)
    rw [hz, hz, arrV_size]
    by_cases e : i = j
    · subst e; simp [hj]
    · rw [if_neg e]
theorem run_index96 (vs : Nat → Value) (i : Nat) (hi : i < 25) (w : World) : (Instr.index 96 (.agg (arrV 25 vs)) (.int .i64 i)).run Try.prog w = .ok (vs i) w := by
  have hs : ∀ w, (sizeOf 34).run Try.prog w = .ok 1 w := fun w => by simp [go_sem]
  simp [Instr.index, asIntOf, run_underlying Try.underlying96, Result.andThen, hs, hi, part, arrV_get hi]

/-- A whole block loaded, or stored, at once. -/
theorem wpList_load_blk {P : Program} {ops : Array Oper} {rest : List Oper} {o : Oper} {a : Act} {w : World} {Q : Exit → Act → World → Prop} (hgd : o.guard = none) (ty t : TypeId) (x : Operand) (ho : o.op = .load ty x)
    (b : Nat) (hx : a.eval x = .pointer (some ⟨b, 0, none⟩)) (cs : Array Value) (hb : Blk w b t cs) (d : TypeDesc) (hu : P.underlying ty = some d) (hd : (match d with | .struct _ | .array _ _ => true | _ => false) = true) (hi : (P.info? ty).map (·.size) = some cs.size)
    (h : wpList P ops Q rest (a.put o.dst (.agg cs)) w) : wpList P ops Q (o :: rest) a w :=
  wpList_plain hgd fun K hK => by
    unfold Oper.wp execOp
    simp only [ho, hx, Instr.loadAt, Instr.sureAddr, Sem.run_bind, Sem.run_pure, Result.andThen_ok, run_loadVar_row w b t ty cs (0, 0) d hb hu hd hi]
    exact hK _ _ h
theorem wpList_store_blk {P : Program} {ops : Array Oper} {rest : List Oper} {o : Oper} {a : Act} {w : World} {Q : Exit → Act → World → Prop} (hgd : o.guard = none) (ty t : TypeId) (x y : Operand) (ho : o.op = .store ty x y)
    (b : Nat) (old cs : Array Value) (hx : a.eval x = .pointer (some ⟨b, 0, none⟩)) (hy : a.eval y = .agg cs) (hb : Blk w b t old) (hi : (P.info? ty).map (·.size) = some cs.size) (hs : old.size = cs.size) (h1 : cs.all (·.oneCell') = true)
    (h : ∀ w', Blk w' b t cs → w.grownBy w' (some b) → wpList P ops Q rest (a.put o.dst undef) w') : wpList P ops Q (o :: rest) a w :=
  wpList_plain hgd fun K hK => by
    unfold Oper.wp execOp
    simp only [ho, hx, hy, Instr.storeAt, Instr.sureAddr, Sem.run_bind, Sem.run_pure, Result.andThen_ok, run_storeVar_row w b t ty old cs hb hi hs h1]
    exact hK _ _ (h _ (setRow_heap w b old cs t (0, 0) hb) ⟨rfl, rfl, rfl, by simp [World.setRow], fun k _ hk => setRow_other w b k cs (fun e => hk (by rw [e]))⟩)
theorem set_grow {w : World} {p : Addr} (v : Value) : w.grownBy (w.setCell p v) (some p.block) :=
  ⟨rfl, rfl, rfl, by simp, fun k _ hk => Below.heap_setCell w p v k (fun e => hk (by rw [e]))⟩
theorem own_one {w : World} {base n : Nat} {v : Value} {xs : List Value} (h : w.ownsRow base 3 1 v n xs) : v.oneCell' = true := by
  obtain ⟨A, c, rfl⟩ := own_form h
  rfl

/-- 25 slices of the call's own, no two of them in one block. -/
structure Rows25 (w : World) (base : Nat) (vs : Nat → Value) (F : Nat → List Int) : Prop where
  own : ∀ i, i < 25 → w.ownsRow base 3 1 (vs i) (F i).length ((F i).map (Value.int .i64))
  apart : ∀ i j, i < 25 → j < 25 → i ≠ j → (vs i).ownBlock = none ∨ (vs i).ownBlock ≠ (vs j).ownBlock
theorem Rows25.keep {w w' : World} {base : Nat} {vs : Nat → Value} {F : Nat → List Int} (h : Rows25 w base vs F) (hb : Below w.heap.size w w') : Rows25 w' base vs F :=
  ⟨fun i hi => own_below (h.own i hi) hb, h.apart⟩
/-- The place of marks; the codes at a place. -/
def grpL (c : Int) (p : Nat) (l : List Int) (a : Int) (i : Nat) : List Int := l.filter fun b => decide (5 * black c a b p + white c a b p = (i : Int))
theorem grp_take {c : Int} {p : Nat} {l : List Int} {a : Int} {k i0 : Nat} {x : Int} (hx : l[k]? = some x) (h0 : 5 * black c a x p + white c a x p = (i0 : Int)) (i : Nat) : grpL c p (l.take (k + 1)) a i = if i = i0 then grpL c p (l.take k) a i ++ [x] else grpL c p (l.take k) a i := by
  have e : l.take (k + 1) = l.take k ++ [x] := by rw [List.take_add_one, hx]; rfl
  unfold grpL
  rw [e, List.filter_append]
  by_cases h : i = i0
  · subst h; simp [h0]
  · have h2 : ¬ ((i0 : Int) = (i : Int)) := by omega
    simp [h, h2, h0]
/-- The marks of codes are small. -/
theorem marks_bd {c a b : Int} {p : Nat} (_ : p ≤ 4) (hc1 : 1 ≤ c) (hc2 : c ≤ 6) : 0 ≤ black c a b p ∧ black c a b p ≤ p ∧ 0 ≤ white c a b p ∧ white c a b p + black c a b p ≤ p := by
  have h1 := hits_bd c a b p
  have h2 := hits_le_pairs c a b hc1 hc2 p
  have h3 := pairs_le c a b hc1 hc2 p
  unfold black white
  omega

set_option maxRecDepth 100000 in
set_option maxHeartbeats 4000000 in
theorem groupsS (p : Nat) (c : Int) (A : Option Addr) (n cp : Nat) (l : List Int) (a : Int) (w : World) (hp : p ≤ 4) (hc1 : 1 ≤ c) (hc2 : c ≤ 6) (hs : Sl w A n cp (l.map (Value.int .i64))) (hl : ∀ x ∈ l, 0 ≤ x ∧ x ≤ 1000) (hn : n ≤ 1000) (ha : 0 ≤ a ∧ a ≤ 1000) :
    Calls Try.prog 73 #[.int .i64 p, .int .i64 c, .slice A n cp, .int .i64 a] w fun e w' => ∃ vs, e = .returned (.agg (arrV 25 vs)) ∧ Rows25 w' (w.heap.size + 1 + 1) vs (grpL c p l a) ∧ Below w.heap.size w w' := by
  have hlen : l.length = n := by simpa using hs.len
  have HL := hid hl
  have HLN := hid hlen
  obtain ⟨i0, hi, hz0, hz1, hz2⟩ := info_parts TI.inf
  clear hl hlen
  go_enter Try.func73, Try.ntmps73
  go_wp2
  go_loopg [16] n (fun g i wr => ∃ k vs, g + k = n ∧ i = .int .i64 (k : Nat) ∧ Hid (Blk wr w.heap.size 96 (arrV 25 fun _ => .slice none 0 0)) ∧ Hid (Blk wr (w.heap.size + 1) 96 (arrV 25 vs)) ∧ Hid (Rows25 wr (w.heap.size + 1 + 1) vs (grpL c p (l.take k) a)) ∧ Below w.heap.size w wr ∧ w.heap.size + 1 + 1 ≤ wr.heap.size)
  case atStart =>
    refine ⟨0, fun _ => .slice none 0 0, by omega, rfl, ?_, ?_, ?_, ?_, by simp⟩
    · exact hid ((Blk.new _ _ _).alloc _)
    · exact hid (Blk.new_at _ _ _ (by simp))
    · exact hid ⟨fun i _ => by simpa [grpL] using World.ownsRow_nil _ _ _ _, fun i j _ _ _ => .inl rfl⟩
    · exact ((Below.refl _ _).alloc (Nat.le_refl _) _).alloc (by simp) _
  case round =>
    obtain ⟨k, vs, hk, rfl, b0, b1, hR, hb, hsz⟩ := hrel
    have HK := hid hk
    by_cases hlt : k < n
    · obtain ⟨b, o, u, rfl, lb, hx, hcl⟩ := hs.at2 hb hlt
      rw [List.getElem?_map] at hx
      obtain ⟨x, hxl, rfl⟩ := Option.map_eq_some_iff.1 hx
      have hxr := HL.out x (List.mem_of_getElem? hxl)
      have HX := hid hxl
      have HB := hid hb
      have HM := hid fun W => refMarks p c a x (by omega) hc1 hc2 ha.1 ha.2 hxr.1 hxr.2 W
      have hmb := marks_bd (c := c) (a := a) (b := x) hp hc1 hc2
      have hm1 := hmb.1; have hm2 := hmb.2.1; have hm3 := hmb.2.2.1; have hm4 := hmb.2.2.2
      obtain ⟨q, hq⟩ := Int.eq_ofNat_of_zero_le (show 0 ≤ 5 * black c a x p + white c a x p by omega)
      have hq25 : q < 25 := by omega
      have HQ := hid hq
      have HGT := hid (fun i => grp_take hxl hq i)
      generalize black c a x p = bk at *
      generalize white c a x p = wh at *
      clear hk hx hxl hmb hq
      go_wp2_with fail
      refine (HM.out _).mono ?_; rintro e w1 ⟨rfl, hb1⟩
      have hz1' := hb1.size
      obtain ⟨v, hv⟩ : ∃ v, vs q = v := ⟨_, rfl⟩
      have hqn : (5 * bk + wh).toNat = q := by have := HQ.out; omega
      have HV := hid hv
      have HQN := hid hqn
      have hB1 := b1.out.keep hb1
      have c1 : w1.cell? ⟨w.heap.size + 1, (5 * bk + wh).toNat, none⟩ = some v := by rw [hqn, hB1.cell, arrV_get hq25, hv]
      have hlen2 : (grpL c p (l.take k) a q).length ≤ k := Nat.le_trans (List.length_filter_le _ _) (by rw [List.length_take]; omega)
      have ho := own_below (hR.out.own q hq25) hb1
      rw [hv] at ho
      have HO := hid ((ho.alloc (.cells #[.int .i64 x] 3)))
      have hz2' : w.heap.size + 1 + 1 ≤ w1.heap.size := by omega
      have hB2 := hB1.alloc (.cells #[.int .i64 x] 3)
      have HB2 := hid hB2
      have HB1 := hid hb1
      have hvb : ∀ j, v.ownBlock = some j → w.heap.size + 1 + 1 ≤ j := fun j hj => (ho.lt j hj).1
      have HVB := hid hvb
      clear hv hqn hB1 ho hB2 hb1 hvb
      go_wp2_with (at_builtin; go_loud (refine wpList_append_own_at _ rfl _ _ 34 rfl (w.heap.size + 1 + 1) 3 i0 (.int .i64 0) 1 8 Try.underlying34 hi hz0 hz1 hz2 rfl (by decide) v _ _ rfl HO.out ⟨w1.heap.size, 0, none⟩ 1 1 [.int .i64 x] rfl rfl (cells_new w1 #[.int .i64 x] 3) (by simp [Value.oneCell']) (by unfold maxLen; omega) (by omega) (by simp <;> omega) ?_; intro v' w3 hown' hgr _ hloc; obtain ⟨A3, cp3, rfl⟩ := own_form hown'; have HO3 := hid hown'; have HG3 := hid hgr; have HLO := hid hloc; have hB3 := HB2.out.grown hgr (by intro e; have := HVB.out _ e.symm; omega); have f3 := hB3.free (5 * bk + wh).toNat; have d3 : w3.cell? ⟨w.heap.size + 1, (5 * bk + wh).toNat, none⟩ = some v := (hB3.cell _).trans (by rw [HQN.out, arrV_get hq25, HV.out]); have HB3 := hid hB3; clear hown' hgr hloc hB3))
      go_roundg (gk - 1)
      case measure => have := HK.out; omega
      case rel =>
        have hz3 : (w1.alloc (.cells #[.int .i64 x] 3)).heap.size ≤ w3.heap.size := HG3.out.size
        have hz3' : w1.heap.size + 1 ≤ w3.heap.size := by simpa using hz3
        have hb4 : Below w.heap.size w (w3.setCell ⟨w.heap.size + 1, (5 * bk + wh).toNat, none⟩ (.slice A3 ((grpL c p (l.take k) a q).length + 1) cp3)) :=
          (((below_call HB.out HB1.out (by omega)).alloc (by omega) _).grown HG3.out (by simp; omega) (fun j hj => by have := HVB.out j hj; omega)).setCell (by simp) _
        have hb0 := ((((b0.out.keep HB1.out).alloc (.cells #[.int .i64 x] 3)).grown HG3.out (by intro e; have := HVB.out _ e.symm; omega)).far (p := ⟨w.heap.size + 1, (5 * bk + wh).toNat, none⟩) (by simp) (.slice A3 ((grpL c p (l.take k) a q).length + 1) cp3))
        have hb1 := HB3.out.set (5 * bk + wh).toNat (.slice A3 ((grpL c p (l.take k) a q).length + 1) cp3)
        rw [HQN.out, arrV_set] at hb1
        refine ⟨k + 1, fun j => if j = q then .slice A3 ((grpL c p (l.take k) a q).length + 1) cp3 else vs j, by have := HK.out; omega, by go_num, hid hb0, hid (by rw [HQN.out]; exact hb1), hid ⟨fun i hi => ?_, fun i j hi hj hij => ?_⟩, hb4, ?_⟩
        · rw [HGT.out]
          by_cases e : i = q
          · subst e
            rw [if_pos rfl, if_pos rfl, List.length_append]
            exact (by simpa using HO3.out : w3.ownsRow (w.heap.size + 1 + 1) 3 1 (.slice A3 ((grpL c p (l.take k) a i).length + 1) cp3) ((grpL c p (l.take k) a i).length + 1) ((grpL c p (l.take k) a i ++ [x]).map (Value.int .i64))).kept (set_grow _) (.inr (by intro e; have := (HO3.out.lt _ e).1; simp at this; omega))
          · rw [if_neg e, if_neg e]
            have o1 := own_below (hR.out.own i hi) HB1.out
            have o2 := (o1.alloc (.cells #[.int .i64 x] 3)).kept HG3.out (by rw [← HV.out]; exact hR.out.apart i q hi hq25 e)
            exact o2.kept (set_grow _) (.inr (by intro e; have := (o2.lt _ e).1; simp at this; omega))
        · by_cases ei : i = q
          · subst ei
            have ej : ¬ j = i := fun h => hij h.symm
            rw [if_pos rfl, if_neg ej]
            rcases HLO.out with h | h
            · rw [h, ← HV.out]; exact hR.out.apart i j hi hj hij
            · right
              rw [h]
              intro e
              have := ((hR.out.own j hj).lt _ e.symm).2
              simp at this; omega
          · rw [if_neg ei]
            by_cases ej : j = q
            · subst ej
              rw [if_pos rfl]
              rcases HLO.out with h | h
              · rw [h, ← HV.out]; exact hR.out.apart i j hi hj hij
              · right
                rw [h]
                intro e
                have := ((hR.out.own i hi).lt _ e).2
                simp at this; omega
            · rw [if_neg ej]; exact hR.out.apart i j hi hj hij
        · have : (w3.setCell ⟨w.heap.size + 1, (5 * bk + wh).toNat, none⟩ (.slice A3 ((grpL c p (l.take k) a q).length + 1) cp3)).heap.size = w3.heap.size := by simp
          rw [this]; omega
    · obtain rfl : k = n := by omega
      have e : l.take k = l := List.take_of_length_le (by have := HLN.out; omega)
      rw [e] at hR
      have hone : (arrV 25 vs).all (·.oneCell') = true := by
        rw [Array.all_eq_true_iff_forall_mem]
        intro v hv
        simp only [arrV, List.mem_toArray, List.mem_map, List.mem_range] at hv
        obtain ⟨i, hi, rfl⟩ := hv
        exact own_one (hR.out.own i hi)
      have HON := hid hone
      clear hk e hone
      go_wp2_with (first
        | (with_reducible refine wpList_load_blk rfl 96 96 _ rfl (w.heap.size + 1) rfl (arrV 25 vs) b1.out _ Try.underlying96 rfl (by kernel_rfl) ?_)
        | (with_reducible refine wpList_store_blk rfl 96 96 _ _ rfl w.heap.size _ (arrV 25 vs) rfl rfl b0.out (by kernel_rfl) (by rw [arrV_size, arrV_size]) HON.out ?_; intro w4 hb4 hg4))
      refine bodyPost_ret (results_cell_row rfl _ _ w.heap.size 96 _ (0, 0) _ rfl hb4 Try.underlying96 rfl (by kernel_rfl)) rfl ⟨vs, rfl, ⟨fun i hi => ?_, hR.out.apart⟩, ?_⟩
      · have o1 := hR.out.own i hi
        exact o1.kept hg4 (.inr (by intro e; have := (o1.lt _ e).1; omega))
      · exact ⟨hg4.os.trans hb.os, hg4.tape.trans hb.tape, hg4.output.trans hb.output, Nat.le_trans hb.size hg4.size, fun i hi => (hg4.block i (by omega) (by simp; omega)).trans (hb.block i hi)⟩
end Go.Proofs.Ytdclmhmdkhpekaa
