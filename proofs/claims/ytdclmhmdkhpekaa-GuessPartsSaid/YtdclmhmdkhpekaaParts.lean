/- Walks of guess.all and guess.parts: the codes; a map of the codes that each pair of marks leaves. Conditions: the game's numbers are small. -/
import Derived.Test.YtdclmhmdkhpekaaGrp
import Derived.Test.YtdclmhmdkhpekaaMarks
namespace Go.Proofs.Ytdclmhmdkhpekaa
open Go.RowKit Go.Maps

set_option maxRecDepth 100000 in
set_option maxHeartbeats 1000000 in
theorem allS (p c : Int) (N : Nat) (hN : N ≤ 1000) (w : World) :
    Calls Try.prog 56 #[.agg #[.int .i64 p, .int .i64 c, .int .i64 N]] w fun e w' => ∃ A c', e = .returned (.slice A N c') ∧
      w'.ownsRow w.heap.size 3 1 (.slice A N c') N ((upto N).map (Value.int .i64)) ∧ Below w.heap.size w w' := by
  go_enter Try.func56, Try.ntmps56
  go_wp2
  go_loopg [3, 7] N (fun g v i wr => ∃ k : Nat, g + k = N ∧ i = .int .i64 k ∧ wr.ownsRow (w.heap.size + 1) 3 1 v k ((upto k).map (Value.int .i64)) ∧ Below (w.heap.size + 1) (w.alloc (.cells #[.int .i64 p, .int .i64 c, .int .i64 N] 68)) wr)
  case atStart => exact ⟨0, rfl, rfl, World.ownsRow_nil _ _ _ _, Below.refl _ _⟩
  case round =>
    obtain ⟨k, hk, rfl, hown, hb⟩ := hrel
    have hsz := hb.size
    simp at hsz
    have HK := hid hk
    by_cases hlt : k < N
    · clear hk
      go_wp2_with (at_builtin; refine push1 TI wr #[.int .i64 (k : Int)] _ k _ _ hown _ _ rfl rfl rfl rfl rfl (by simp [Value.oneCell']) (by omega) (by omega) (by omega) ?_; intro v' w1 hown1 hg1; have hb1 := below_push hb hown hg1 (by omega) (by omega); clear hg1)
      go_roundg (gk - 1)
      case measure => have := HK.out; omega
      case rel => exact ⟨k + 1, by have := HK.out; omega, by go_num, by rw [upto_succ]; simpa using hown1, hb1⟩
    · obtain rfl : k = N := by omega
      clear hk
      go_wp2
      go_ret
      obtain ⟨A, c', rfl⟩ := own_form hown
      exact ⟨A, c', rfl, own_more hown (by omega), ((Below.refl _ _).alloc (Nat.le_refl _) _).trans (hb.mono (by omega))⟩

/-- The codes of a list that marks leave, filled one by one. -/
theorem part_take {c : Int} {p : Nat} {l : List Int} {a : Int} {k : Nat} {x : Int} (hx : l[k]? = some x) : partL c p (l.take (k + 1)) a = addG (partL c p (l.take k) a) (mrk c p a x) x := by
  funext m
  have e : l.take (k + 1) = l.take k ++ [x] := by rw [List.take_add_one, hx]; rfl
  unfold addG partL
  rw [e, List.filter_append]
  by_cases h : m = mrk c p a x
  · subst h; simp
  · have h2 : ¬ mrk c p a x = m := fun e => h e.symm
    simp [h, h2]
theorem part_len_le (c : Int) (p : Nat) (l : List Int) (a : Int) (m : Int × Int) : (partL c p l a m).length ≤ l.length := List.length_filter_le _ _
theorem small_mrk {c : Int} {p : Nat} (hp : p ≤ 10) (a b : Int) : Small (mrk c p a b) := by
  have h1 := hits_bd c a b p
  have h2 := pairs_bd c a b p 6
  unfold Small mrk black white
  simp only
  have : ((6 : Nat) : Int) * (p : Int) ≤ 60 := by omega
  omega

set_option maxRecDepth 100000 in
set_option maxHeartbeats 4000000 in
theorem partsS (p : Nat) (c : Int) (N : Nat) (A : Option Addr) (n cp : Nat) (l : List Int) (a : Int) (w : World) (hp : p ≤ 10) (hc1 : 1 ≤ c) (hc2 : c ≤ 6) (hs : Sl w A n cp (l.map (Value.int .i64))) (hl : ∀ x ∈ l, 0 ≤ x ∧ x ≤ 1000) (hn : n ≤ 1000) (ha : 0 ≤ a ∧ a ≤ 1000) :
    Calls Try.prog 85 #[.agg #[.int .i64 p, .int .i64 c, .int .i64 N], .slice A n cp, .int .i64 a] w fun e w' => e = .returned (.map (some (w.heap.size + 1))) ∧
      Grp w' (w.heap.size + 1) (w.heap.size + 1 + 1) (partL c p l a) ∧ Below w.heap.size w w' := by
  have hmm := @run_makeMap Try.prog
  have hlen : l.length = n := by simpa using hs.len
  have HL := hid hl
  have HLN := hid hlen
  obtain ⟨i0, hi, hz0, hz1, hz2⟩ := info_parts TI.inf
  clear hl hlen
  go_enter Try.func85, Try.ntmps85
  go_wp2
  go_loopg [14] n (fun g i wr => ∃ k : Nat, g + k = n ∧ i = .int .i64 k ∧ wr.cell? ⟨w.heap.size, 0, none⟩ = some (.int .i64 p) ∧ wr.cell? ⟨w.heap.size, 1, none⟩ = some (.int .i64 c) ∧ wr.cell? ⟨w.heap.size, 2, none⟩ = some (.int .i64 N) ∧
      Grp wr (w.heap.size + 1) (w.heap.size + 1 + 1) (partL c p (l.take k) a) ∧ Below w.heap.size w wr ∧ w.heap.size + 1 + 1 ≤ wr.heap.size)
  case atStart =>
    refine ⟨0, by omega, rfl, ?_, ?_, ?_, ?_, ?_, by simp⟩
    · simp [go_sem]
    · simp [go_sem]
    · simp [go_sem]
    · have := Grp.made (w.alloc (.cells #[.int .i64 p, .int .i64 c, .int .i64 N] 68)) (base := w.heap.size + 1 + 1)
      have e0 : partL c p (l.take 0) a = fun _ => [] := by funext m; simp [partL]
      rw [e0]; simpa using this
    · exact ((Below.refl _ _).alloc (Nat.le_refl _) _).alloc (by simp) _
  case round =>
    obtain ⟨k, hk, rfl, c0, c1, c2, hG, hb, hsz⟩ := hrel
    have HK := hid hk
    by_cases hlt : k < n
    · obtain ⟨b, o, u, rfl, lb, hx, hcl⟩ := hs.at2 hb hlt
      rw [List.getElem?_map] at hx
      obtain ⟨x, hxl, rfl⟩ := Option.map_eq_some_iff.1 hx
      have hxr := HL.out x (List.mem_of_getElem? hxl)
      have HX := hid hxl
      have HG := hid hG
      have HB := hid hb
      have HM := hid fun W => marks p c N a x hp hc1 hc2 ha.1 ha.2 hxr.1 hxr.2 W
      clear hk hx hxl hG
      go_wp2_with fail
      refine (HM.out _).mono ?_; rintro e w1 ⟨rfl, hb1⟩
      have hz1' := hb1.size
      have hG2 : Grp ((w1.alloc (.cells #[.int .i64 (black c a x p), .int .i64 (white c a x p)] 72)).alloc (.cells #[.int .i64 x] 3)) (w.heap.size + 1) (w.heap.size + 1 + 1) (partL c p (l.take k) a) :=
        ((HG.out.below hb1).below ((Below.refl _ _).alloc (Nat.le_refl _) _)).below ((Below.refl _ _).alloc (Nat.le_refl _) _)
      obtain ⟨v, st, w2, hrun, hg2, hsz2, ho2, hback⟩ := hG2.entry (m0 := mrk c p a x) (small_mrk hp a x) x
      have hrun' : (Instr.mapEntry 108 (.map (some (w.heap.size + 1))) (.agg #[.int .i64 (black c a x p), .int .i64 (white c a x p)])).run Try.prog ((w1.alloc (.cells #[.int .i64 (black c a x p), .int .i64 (white c a x p)] 72)).alloc (.cells #[.int .i64 x] 3)) = .ok (.tuple #[v, .int .i64 st]) w2 := hrun
      have hlen2 := part_len_le c p (l.take k) a (mrk c p a x)
      rw [List.length_take] at hlen2
      have hlen3 : (partL c p (l.take k) a (mrk c p a x)).length ≤ 1000 := by omega
      have hcx : w2.cell? ⟨w1.heap.size + 1, 0, none⟩ = some (.int .i64 x) := by
        have e := hg2.block (w1.heap.size + 1) (by simp) (by simp; omega)
        have e2 : ((w1.alloc (.cells #[.int .i64 (black c a x p), .int .i64 (white c a x p)] 72)).alloc (.cells #[.int .i64 x] 3)).cell? ⟨w1.heap.size + 1, 0, none⟩ = some (.int .i64 x) := by simp [go_sem]
        exact (World.cell?_of_block (a := ⟨w1.heap.size + 1, 0, none⟩) e).trans e2
      have hadd : ∀ j u, [Value.int .i64 x][j]? = some u → w2.cell? ((⟨w1.heap.size + 1, 0, none⟩ : Addr).add j) = some u := by
        intro j u hu
        cases j with
        | zero => simp at hu; subst hu; simpa [Addr.add] using hcx
        | succ j => simp at hu
      have HBA := hid hback
      have HO2 := hid ho2
      have HG2 := hid hg2
      have HAD := hid hadd
      have HL3 := hid hlen3
      have hs2 : w2.heap.size = w1.heap.size + 1 + 1 := by rw [hsz2]; simp
      have HS2 := hid hs2
      have HB1 := hid hb1
      clear hrun hg2 hsz2 ho2 hback hlen2 hcx hadd hG2 hlen3 hs2 hb1
      go_wp2_with (at_builtin; refine wpList_append_own_at _ rfl _ _ 34 rfl (w.heap.size + 1 + 1) 3 i0 (.int .i64 0) 1 8 Try.underlying34 hi hz0 hz1 hz2 rfl (by decide) v _ _ rfl HO2.out ⟨w1.heap.size + 1, 0, none⟩ 1 1 [.int .i64 x] rfl rfl HAD.out (by simp [Value.oneCell']) (by have := HL3.out; unfold maxLen; omega) (by have := HL3.out; omega) (by have := HS2.out; omega) ?_; intro v' w3 hown' hgr _ hloc; obtain ⟨w4, hst, hG4, hg4⟩ := HBA.out w3 v' hgr (by simpa using hown') hloc; have HG4 := hid hG4; have HGR := hid hgr; have HGS := hid hg4; clear hown' hgr hloc hG4 hg4)
      have hv : ∀ j, v.ownBlock = some j → w.heap.size + 1 + 1 ≤ j := fun j hj => (HO2.out.lt j hj).1
      have hzz : w.heap.size + 1 + 1 ≤ w1.heap.size := by omega
      have keep0 : ∀ i, i < w.heap.size + 1 → w4.heap[i]? = w1.heap[i]? := fun i hi => by
        have s1 := HS2.out
        have a1 := HGS.out.block i (by have := HGR.out.size; omega) (by simp; omega)
        have a2 := HGR.out.block i (by omega) (fun e => by have := hv i e.symm; omega)
        have a3 := HG2.out.block i (by simp; omega) (by simp; omega)
        rw [a1, a2, a3]
        exact ((World.grownBy_alloc _ _ none).block i (by simp; omega) (by simp)).trans ((World.grownBy_alloc _ _ none).block i (by omega) (by simp))
      have hb4 : Below w.heap.size w w4 := by
        have g1 : Below w.heap.size w w1 := below_call HB.out HB1.out (by omega)
        exact ⟨(HGS.out.os.trans (HGR.out.os.trans HG2.out.os)).trans g1.os, (HGS.out.tape.trans (HGR.out.tape.trans HG2.out.tape)).trans g1.tape, (HGS.out.output.trans (HGR.out.output.trans HG2.out.output)).trans g1.output, by have := HGS.out.size; have := HGR.out.size; have := HS2.out; omega, fun i hi => (keep0 i (by omega)).trans (g1.block i hi)⟩
      have kc : ∀ j u, wr.cell? ⟨w.heap.size, j, none⟩ = some u → w4.cell? ⟨w.heap.size, j, none⟩ = some u := fun j u h =>
        (World.cell?_of_block (a := ⟨w.heap.size, j, none⟩) (keep0 w.heap.size (by omega))).trans (cell_keep HB1.out h)
      go_roundg (gk - 1)
      case measure => have := HK.out; omega
      case rel => exact ⟨k + 1, by have := HK.out; omega, by go_num, kc _ _ c0, kc _ _ c1, kc _ _ c2, by rw [part_take HX.out]; exact HG4.out, hb4, by have := HGS.out.size; have := HGR.out.size; have := HS2.out; omega⟩
    · obtain rfl : k = n := by omega
      have e : l.take k = l := List.take_of_length_le (by have := HLN.out; omega)
      rw [e] at hG
      have HG := hid hG
      clear hk hG e
      go_wp2
      go_ret
      exact ⟨rfl, HG.out, hb⟩
end Go.Proofs.Ytdclmhmdkhpekaa
