/- slices.Sort on a row of the call's own; append of all of a slice. Condition: the slices read as numbers. -/
import Derived.Test.YtdclmhmdkhpekaaShelf
import Derived.Test.YtdclmhmdkhpekaaPartsM
import Derived.Sort.OwnSortedInts
namespace Go.Proofs.Ytdclmhmdkhpekaa
open Go.RowKit Go.Maps

theorem sortS (base : Nat) (v : Value) (n : Nat) (xs : List Int) (w : World) (ho : w.ownsRow base 3 1 v n (xs.map (Value.int .i64))) (h0 : 0 < n) (hn : n ≤ 100000) :
    Calls Try.prog 52 #[v] w fun e w' => e = .returned (.tuple #[]) ∧ w'.ownsRow base 3 1 v n ((sortI xs).map (Value.int .i64)) ∧ w.grownBy w' v.ownBlock := by
  have hl : xs.length = n := by simpa using ho.1
  rcases ho.2 with ⟨rfl, rfl⟩ | ⟨g, cap, cur, rfl, hg, hblk, hc, hm, hs, ht⟩
  · omega
  · subst hl
    have ht' : cur.toList.take xs.length = xs.map (Value.int .i64) := by rw [← ht, Nat.mul_one]
    refine (slicesSort g 0 cap xs w (holds_of_blockI hblk ht') (lt_of_block hblk) (by omega)).mono ?_
    rintro e w' ⟨rfl, n, os, rfl⟩
    exact ⟨rfl, ownsRow_sortedI (List.length_mergeSort ..) hg hblk hc hm hs, grownBy_sortedI _⟩

theorem run_append_none {w : World} {base n c : Nat} {ty : TypeId} {v : Value} {xs : List Value} (ho : w.ownsRow base 3 1 v n xs) : (Builtin.append_ #[34, 34] ty #[v, .slice none 0 c]).run Try.prog w = .ok v w := by
  obtain ⟨i, hi, hz0, hz1, hz2⟩ := info_parts TI.inf
  have hf : (Builtin.firstCells 1 0 (Value.slice none 0 c)).run Try.prog w = .ok #[] w := by simp [Builtin.firstCells]
  rcases ho.2 with ⟨rfl, rfl⟩ | ⟨g, cap, cur, rfl, hg, hblk, hc, hm, hs, ht⟩
  · simp [Builtin.append_, run_underlying TI.und, sizeOf, typeInfo, hi, hz1, Builtin.lenOf, hf]
  · simp [Builtin.append_, run_underlying TI.und, sizeOf, typeInfo, hi, hz1, Builtin.lenOf, hc, hf, Addr.add_lit, storeCells]

/-- 'append(s, l...)'. -/
theorem pushAll {ops : Array Oper} {rest : List Oper} {o : Oper} {a : Act} {Q : Exit → Act → World → Prop} (w : World) (base n : Nat) (v : Value) (xs : List Int) (hown : w.ownsRow base 3 1 v n (xs.map (Value.int .i64)))
    (A : Option Addr) (m c : Nat) (ys : List Int) (hsl : Sl w A m c (ys.map (Value.int .i64)))
    (s x : Operand) (hgd : o.guard = none) (ho : o.op = .call { callee := .builtin .append, args := #[s, x], argTypes := #[34, 34] })
    (hs : a.eval s = v) (hx : a.eval x = .slice A m c) (hn : n + m ≤ 100000) (hb : base ≤ w.heap.size)
    (h : ∀ v' w', w'.ownsRow base 3 1 v' (n + m) ((xs ++ ys).map (Value.int .i64)) → w.grownBy w' v.ownBlock → wpList Try.prog ops Q rest (a.put o.dst v') w') :
    wpList Try.prog ops Q (o :: rest) a w := by
  have hl : ys.length = m := by simpa using hsl.len
  obtain ⟨i, hi, hz0, hz1, hz2⟩ := info_parts TI.inf
  cases A with
  | none =>
    have hm : m = 0 := by
      rcases Nat.eq_zero_or_pos m with h0 | h0
      · exact h0
      · obtain ⟨b, o, e, _⟩ := hsl.pos h0
        cases e
    subst hm
    have hy : ys = [] := List.eq_nil_of_length_eq_zero hl
    subst hy
    refine wpList_plain hgd fun K hK => ?_
    have hr := run_append_none (c := c) (ty := o.type) hown
    unfold Oper.wp execOp
    simp only [ho, resolve, invoke, builtin, Sem.run_bind, Sem.run_pure, Result.andThen_ok, List.map_toArray, List.map_cons, List.map_nil, hs, hx, hr]
    refine hK _ _ (h v w ?_ ⟨rfl, rfl, rfl, Nat.le_refl _, fun _ _ _ => rfl⟩)
    simpa using hown
  | some ad =>
    refine wpList_append_own _ hgd s x 34 ho base 3 i _ 1 8 TI.und hi hz0 hz1 hz2 TI.zc TI.sz v n _ hs hown ad m c (ys.map (Value.int .i64)) hx (by simpa using hl) ?_ ?_ (by unfold maxLen; omega) (by omega) hb fun v' w' a1 a2 _ => h v' w' (by simpa using a1) a2
    · intro j u hu
      have hj : j < m := by have := (List.getElem?_eq_some_iff.1 hu).1; simp at this; omega
      obtain ⟨b, o, u', e, _, e2, e3⟩ := hsl.at hj
      cases e
      have e4 : (⟨b, o, none⟩ : Addr).add j = ⟨b, o + j, none⟩ := by unfold Addr.add; split <;> simp_all
      rw [e4, e3, ← e2, hu]
    · intro u hu
      obtain ⟨y, _, rfl⟩ := List.mem_map.1 hu
      rfl
end Go.Proofs.Ytdclmhmdkhpekaa
