/- Texts of this proof, one behind the other; each says its condition at its head. -/
import Derived.Test.YtciadmjdadnolaaGreatDoorK2
/- Walks of slices.Clone at copies, strings and numbers; of the copies that are in reach; of most; of begin. Condition: slices read as lists. -/
namespace Go.Proofs.YtciadmjdadnolaaGreatDoor
open Go.RowKit Go.Maps
theorem Sl.cells {w : World} {ad : Addr} {n c : Nat} {xs : List Value} (h : Sl w (some ad) n c xs) : ∀ j u, xs[j]? = some u → w.cell? (ad.add j) = some u := by
 intro j u hu
 have hj := (List.getElem?_eq_some_iff.1 hu).1
 obtain ⟨b, o, e, hb, hc⟩ := h.pos (by have := h.len; omega)
 obtain rfl := Option.some.inj e
 have hadd : (⟨b, o, none⟩ : Addr).add j = ⟨b, o + j, none⟩ := by unfold Addr.add; split <;> simp_all
 rw [hadd]
 exact hc j u hu
theorem Sl.none_zero {w : World} {n c : Nat} {xs : List Value} (h : Sl w none n c xs) : n = 0 ∧ xs = [] := by
 have h0 : n = 0 := by
  rcases Nat.eq_zero_or_pos n with h0 | h0
  · exact h0
  · obtain ⟨_, _, e, _⟩ := h.pos h0
    cases e
 exact ⟨h0, List.eq_nil_of_length_eq_zero (by have := h.len; omega)⟩
theorem TS22 : TS Tryz.prog 28 9 1 16 (.string ByteArray.empty) := ⟨Tryz.underlying28, by kernel_rfl, rfl, by decide⟩
theorem TI27 : TS Tryz.prog 89 3 1 8 (.int .i64 0) := ⟨Tryz.underlying89, by kernel_rfl, rfl, by decide⟩
set_option maxRecDepth 100000 in
set_option maxHeartbeats 400000 in
theorem cloneC (A : Option Addr) (n c : Nat) (xs : List Value) (hone : ∀ u ∈ xs, u.oneCell' = true) (hn : n ≤ 1000000) (w : World) (hs : Sl w A n c xs) :
 Calls Tryz.prog 11 #[.slice A n c] w fun e w' => ∃ A' c', e = .returned (.slice A' n c') ∧ w'.ownsRow w.heap.size 42 1 (.slice A' n c') n xs ∧ Below w.heap.size w w' := by
 have qT : ∀ (w : World) (a : Option Addr) (n c n' c' : Nat), (binOp .eql 23 (.slice a n c) (.slice none n' c')).run Tryz.prog w = .ok (.bool a.isNone) w := fun w a n c n' c' => Lib.run_eql_slice_nil w _ _ a n c n' c' Tryz.underlying23
 obtain ⟨i0, hi, hz0, hz1, hz2⟩ := info_parts TC.inf
 cases A with
 | none =>
  obtain ⟨rfl, hx⟩ := hs.none_zero
  have HX := hid hx
  clear hx
  go_enter Tryz.func11, Tryz.ntmps11
  go_wp2
  go_ret
  exact ⟨none, 0, rfl, by rw [HX.out]; exact World.ownsRow_nil _ _ _ _, Below.refl _ _⟩
 | some ad =>
  have hl := hid (show xs.length = n from hs.len)
  have hcell := hid hs.cells
  clear hs
  go_enter Tryz.func11, Tryz.ntmps11
  go_wp2_with (at_builtin; refine wpList_append_own _ rfl _ _ 23 rfl w.heap.size 42 i0 (.pointer none) 1 8 TC.und hi hz0 hz1 hz2 rfl (by decide) _ 0 [] rfl (World.ownsRow_made w #[] 0 (Nat.le_refl _) (by unfold maxLen; omega) rfl) ad n c xs rfl ?c1 ?c2 hone ?c3 ?c4 ?c5 ?c6)
  case c1 => rw [hl.out]; omega
  case c2 => exact fun j u hu => cell_keep ((Below.refl _ _).alloc (Nat.le_refl _) _) (hcell.out j u hu)
  case c3 => unfold maxLen; omega
  case c4 => omega
  case c5 => simp
  case c6 =>
   intro v' w1 hown hg _
   obtain ⟨A', c', rfl⟩ := own_form hown
   have hb : Below w.heap.size w w1 := ((Below.refl _ _).alloc (Nat.le_refl _) _).grown hg (by simp) (fun k hk => by simp [Value.ownBlock] at hk; omega)
   clear hg
   go_wp2
   go_ret
   exact ⟨A', c', rfl, hown, hb⟩
set_option maxRecDepth 100000 in
set_option maxHeartbeats 400000 in
theorem cloneS (A : Option Addr) (n c : Nat) (xs : List Value) (hone : ∀ u ∈ xs, u.oneCell' = true) (hn : n ≤ 1000000) (w : World) (hs : Sl w A n c xs) :
 Calls Tryz.prog 20 #[.slice A n c] w fun e w' => ∃ A' c', e = .returned (.slice A' n c') ∧ w'.ownsRow w.heap.size 9 1 (.slice A' n c') n xs ∧ Below w.heap.size w w' := by
 have qT : ∀ (w : World) (a : Option Addr) (n c n' c' : Nat), (binOp .eql 28 (.slice a n c) (.slice none n' c')).run Tryz.prog w = .ok (.bool a.isNone) w := fun w a n c n' c' => Lib.run_eql_slice_nil w _ _ a n c n' c' Tryz.underlying28
 obtain ⟨i0, hi, hz0, hz1, hz2⟩ := info_parts TS22.inf
 cases A with
 | none =>
  obtain ⟨rfl, hx⟩ := hs.none_zero
  have HX := hid hx
  clear hx
  go_enter Tryz.func20, Tryz.ntmps20
  go_wp2
  go_ret
  exact ⟨none, 0, rfl, by rw [HX.out]; exact World.ownsRow_nil _ _ _ _, Below.refl _ _⟩
 | some ad =>
  have hl := hid (show xs.length = n from hs.len)
  have hcell := hid hs.cells
  clear hs
  go_enter Tryz.func20, Tryz.ntmps20
  go_wp2_with (at_builtin; refine wpList_append_own _ rfl _ _ 28 rfl w.heap.size 9 i0 (.string ByteArray.empty) 1 16 TS22.und hi hz0 hz1 hz2 rfl (by decide) _ 0 [] rfl (World.ownsRow_made w #[] 0 (Nat.le_refl _) (by unfold maxLen; omega) rfl) ad n c xs rfl ?c1 ?c2 hone ?c3 ?c4 ?c5 ?c6)
  case c1 => rw [hl.out]; omega
  case c2 => exact fun j u hu => cell_keep ((Below.refl _ _).alloc (Nat.le_refl _) _) (hcell.out j u hu)
  case c3 => unfold maxLen; omega
  case c4 => omega
  case c5 => simp
  case c6 =>
   intro v' w1 hown hg _
   obtain ⟨A', c', rfl⟩ := own_form hown
   have hb : Below w.heap.size w w1 := ((Below.refl _ _).alloc (Nat.le_refl _) _).grown hg (by simp) (fun k hk => by simp [Value.ownBlock] at hk; omega)
   clear hg
   go_wp2
   go_ret
   exact ⟨A', c', rfl, hown, hb⟩
set_option maxRecDepth 100000 in
set_option maxHeartbeats 400000 in
theorem cloneI (A : Option Addr) (n c : Nat) (xs : List Value) (hone : ∀ u ∈ xs, u.oneCell' = true) (hn : n ≤ 1000000) (w : World) (hs : Sl w A n c xs) :
 Calls Tryz.prog 51 #[.slice A n c] w fun e w' => ∃ A' c', e = .returned (.slice A' n c') ∧ w'.ownsRow w.heap.size 3 1 (.slice A' n c') n xs ∧ Below w.heap.size w w' := by
 have qT : ∀ (w : World) (a : Option Addr) (n c n' c' : Nat), (binOp .eql 89 (.slice a n c) (.slice none n' c')).run Tryz.prog w = .ok (.bool a.isNone) w := fun w a n c n' c' => Lib.run_eql_slice_nil w _ _ a n c n' c' Tryz.underlying89
 obtain ⟨i0, hi, hz0, hz1, hz2⟩ := info_parts TI27.inf
 cases A with
 | none =>
  obtain ⟨rfl, hx⟩ := hs.none_zero
  have HX := hid hx
  clear hx
  go_enter Tryz.func51, Tryz.ntmps51
  go_wp2
  go_ret
  exact ⟨none, 0, rfl, by rw [HX.out]; exact World.ownsRow_nil _ _ _ _, Below.refl _ _⟩
 | some ad =>
  have hl := hid (show xs.length = n from hs.len)
  have hcell := hid hs.cells
  clear hs
  go_enter Tryz.func51, Tryz.ntmps51
  go_wp2_with (at_builtin; refine wpList_append_own _ rfl _ _ 89 rfl w.heap.size 3 i0 (.int .i64 0) 1 8 TI27.und hi hz0 hz1 hz2 rfl (by decide) _ 0 [] rfl (World.ownsRow_made w #[] 0 (Nat.le_refl _) (by unfold maxLen; omega) rfl) ad n c xs rfl ?c1 ?c2 hone ?c3 ?c4 ?c5 ?c6)
  case c1 => rw [hl.out]; omega
  case c2 => exact fun j u hu => cell_keep ((Below.refl _ _).alloc (Nat.le_refl _) _) (hcell.out j u hu)
  case c3 => unfold maxLen; omega
  case c4 => omega
  case c5 => simp
  case c6 =>
   intro v' w1 hown hg _
   obtain ⟨A', c', rfl⟩ := own_form hown
   have hb : Below w.heap.size w w1 := ((Below.refl _ _).alloc (Nat.le_refl _) _).grown hg (by simp) (fun k hk => by simp [Value.ownBlock] at hk; omega)
   clear hg
   go_wp2
   go_ret
   exact ⟨A', c', rfl, hown, hb⟩
theorem ptrs_one (l : List Nat) : ∀ u ∈ ptrs l, u.oneCell' = true := by
 intro u hu
 obtain ⟨b, _, rfl⟩ := List.mem_map.1 hu
 rfl
theorem TCs : TS Tryz.prog 56 42 1 8 (.pointer none) := ⟨Tryz.underlying56, by kernel_rfl, rfl, by decide⟩
theorem mostF (A : Option Addr) (n c : Nat) (k : Int) (w : World) (h0 : 0 ≤ k) (h1 : k ≤ 1000000) :
 Calls Tryz.prog 23 #[.slice A n c, .int .i64 k] w fun e w' => e = .returned (.bool (decide ((n : Int) < 2 * k))) ∧ w = w' := by
 go_enter Tryz.func23, Tryz.ntmps23
 go_wp2
 go_ret
 exact ⟨rfl, rfl⟩
/-- The copies in reach, of some with what they tell. -/
def onL (l : List (Nat × Bool)) : List Nat := (l.filter fun p => !p.2).map (·.1)
theorem onL_snoc (l : List (Nat × Bool)) (p : Nat × Bool) : onL (l ++ [p]) = onL l ++ if p.2 then [] else [p.1] := by
 unfold onL
 rw [List.filter_append, List.map_append]
 obtain ⟨b, a⟩ := p
 cases a <;> rfl
set_option maxRecDepth 100000 in
set_option maxHeartbeats 2000000 in
theorem inReachF (A : Option Addr) (n c : Nat) (l : List (Nat × Bool)) (w : World) (hn : n ≤ 1000) (hs : Sl w A n c (ptrs (l.map (·.1)))) (hc : ∀ p ∈ l, w.cell? ⟨p.1, 2, none⟩ = some (.bool p.2)) :
 Calls Tryz.prog 22 #[.slice A n c] w fun e w' => ∃ A' c', e = .returned (.slice A' (onL l).length c') ∧ w'.ownsRow w.heap.size 42 1 (.slice A' (onL l).length c') (onL l).length (ptrs (onL l)) ∧ Below w.heap.size w w' := by
 have HS := hid hs
 have HC := hid hc
 have HL := hid (show l.length = n by have := hs.len; simpa [ptrs] using this)
 clear hs hc
 go_enter Tryz.func22, Tryz.ntmps22
 go_wp2
 go_loopg [3, 8] n (fun gk v i wr => ∃ (d m : Nat) (A' : Option Addr) (c' : Nat), gk + d = n ∧ i = .int .i64 d ∧ v = .slice A' m c' ∧ m = (onL (l.take d)).length ∧ m ≤ d ∧ Hid (wr.ownsRow w.heap.size 42 1 (.slice A' m c') m (ptrs (onL (l.take d)))) ∧ Hid (Below w.heap.size w wr))
 case atStart => exact ⟨0, 0, none, 0, by omega, rfl, rfl, rfl, by omega, hid (by simpa [ptrs, onL] using World.ownsRow_nil _ _ _ _), hid (Below.refl _ _)⟩
 case round =>
  obtain ⟨d, m, A', c', hd, rfl, rfl, hm, hmd, HO, HB⟩ := hrel
  have HD := hid hd
  have HM := hid hm
  by_cases hlt : d < n
  · have HLT := hid hlt
    obtain ⟨b, o, u, rfl, lb, e1, ca⟩ := (HS.out.below HB.out).at hlt
    obtain ⟨y, hy, rfl⟩ := Option.map_eq_some_iff.1 (show ((l.map (·.1))[d]?).map (fun b => Value.pointer (some ⟨b, 0, none⟩)) = some u by rw [← List.getElem?_map]; exact e1)
    rw [List.getElem?_map] at hy
    obtain ⟨p, hp, rfl⟩ := Option.map_eq_some_iff.1 hy
    obtain ⟨pb, pa⟩ := p
    have h2 := cell_keep HB.out (HC.out _ (List.mem_of_getElem? hp))
    have HT := hid (show l.take (d + 1) = l.take d ++ [(pb, pa)] by rw [List.take_add_one, hp]; rfl)
    have HON := hid (onL_snoc (l.take d) (pb, pa))
    have hz := HB.out.size
    simp only at h2
    clear hd hm e1 hy hp lb
    cases pa
    · go_wp2_with (at_builtin; refine push1P TCs wr #[.pointer (some ⟨pb, 0, none⟩)] w.heap.size _ _ _ HO.out _ _ wr.heap.size rfl rfl rfl rfl rfl rfl (by simp [Value.oneCell']) (by omega) (by omega) hz ?_; intro v1 w8 hown1 hgr)
      have HB8 := hid (below_push HB.out HO.out hgr hz (Nat.le_refl _))
      obtain ⟨A8, c8, rfl⟩ := own_form hown1
      have HO8 := hid hown1
      clear hown1 hgr hz
      go_wp2
      go_roundg (gk - 1)
      case measure => have := HD.out; have := HLT.out; omega
      case rel =>
       refine ⟨d + 1, m + 1, A8, c8, by have := HD.out; have := HLT.out; omega, by go_num, rfl, ?_, by omega, hid ?_, HB8⟩
       · rw [HT.out, HON.out, HM.out]; simp
       · rw [HT.out, HON.out]
         simp only [Bool.false_eq_true, if_false]
         rw [ptrs_snoc]
         exact HO8.out
    · go_wp2
      go_roundg (gk - 1)
      case measure => have := HD.out; have := HLT.out; omega
      case rel =>
       refine ⟨d + 1, m, A', c', by have := HD.out; have := HLT.out; omega, by go_num, rfl, ?_, by omega, hid ?_, HB⟩
       · rw [HT.out, HON.out, HM.out]; simp
       · rw [HT.out, HON.out]
         simp only [if_true, List.append_nil]
         exact HO.out
  · obtain rfl : d = n := by have := HD.out; omega
    have e : l.take d = l := List.take_of_length_le (by have := HL.out; omega)
    rw [e] at HO HM
    obtain rfl := HM.out
    clear hd hlt hmd e hm
    go_wp2
    go_ret
    exact ⟨A', c', rfl, HO.out, HB.out⟩
end Go.Proofs.YtciadmjdadnolaaGreatDoor
/- Walks of begin, and of reading copies that hold nothing yet. Conditions: copies that NewCopy made. -/
namespace Go.Proofs.YtciadmjdadnolaaGreatDoor
open Go.RowKit Go.Maps
/-- The cells of the first state. -/
def begC : Array Value := #[.slice none 0 0, .slice none 0 0, .slice none 0 0, .slice none 0 0, .int .i64 0, .int .i64 0, .int .i64 0, .int .i64 1, .bool true, .slice none 0 0]
set_option maxRecDepth 100000 in
theorem beginF (w : World) :
 Calls Tryz.prog 29 #[] w fun e w' => ∃ b, e = .returned (.pointer (some ⟨b, 0, none⟩)) ∧ Blk w' b 102 begC ∧ w.heap.size ≤ b ∧ Below w.heap.size w w' := by
 go_enter Tryz.func29, Tryz.ntmps29
 go_wp2
 go_ret
 exact ⟨_, rfl, Blk.new _ _ _, Nat.le_refl _, (Below.refl _ w).alloc (Nat.le_refl _) _⟩
/-- Copies that hold nothing at number i. -/
def NoEnt (w : World) (i : Nat) (l : List Nat) : Prop := ∀ b ∈ l, ∃ mb mark away e, CpM w b mb mark away e ∧ e i = none
theorem NoEnt.keep {w w' : World} {i : Nat} {l : List Nat} (h : NoEnt w i l) (hb : Below w.heap.size w w') : NoEnt w' i l := fun b hm => by
 obtain ⟨mb, mark, away, e, k, h0⟩ := h b hm
 exact ⟨mb, mark, away, e, k.keep hb, h0⟩
set_option maxRecDepth 100000 in
set_option maxHeartbeats 2000000 in
theorem entryNone (A : Option Addr) (n c i : Nat) (l : List Nat) (w : World) (hn : n ≤ 1000) (hi : i < 1000) (hs : Sl w A n c (ptrs l)) (hl : NoEnt w i l) :
 Calls Tryz.prog 40 #[.slice A n c, .int .i64 (i : Nat)] w fun x w' => x = .returned (.tuple #[.agg #[.int .i64 0, .string ByteArray.empty], .bool false]) ∧ Below w.heap.size w w' := by
 have HS := hid hs
 have HN := hid hl
 have HL := hid (show l.length = n by have := hs.len; simpa [ptrs] using this)
 clear hs hl
 go_enter Tryz.func40, Tryz.ntmps40
 go_wp2
 go_loopg [7, 14] n (fun gk v t wr => ∃ d : Nat, gk + d = n ∧ t = .int .i64 d ∧ v = .bool false ∧ Hid (Blk wr w.heap.size 78 #[.int .i64 0, .string ByteArray.empty]) ∧ Hid (Blk wr (w.heap.size + 1) 78 #[.int .i64 0, .string ByteArray.empty]) ∧ Hid (Below w.heap.size w wr))
 case atStart => exact ⟨0, by omega, rfl, rfl, hid ((Blk.new w _ _).alloc _), hid (Blk.new_at _ _ _ (by simp)), hid (((Below.refl _ w).alloc (Nat.le_refl _) _).alloc (by simp) _)⟩
 case round =>
  obtain ⟨d, hd, rfl, rfl, HB4, HB6, HB⟩ := hrel
  have HD := hid hd
  by_cases hlt : d < n
  · have HLT := hid hlt
    obtain ⟨b, o, u, rfl, lb, e1, ca⟩ := (HS.out.below HB.out).at hlt
    obtain ⟨y, hy, rfl⟩ := Option.map_eq_some_iff.1 (show (l[d]?).map (fun b => Value.pointer (some ⟨b, 0, none⟩)) = some u by rw [← List.getElem?_map]; exact e1)
    obtain ⟨mb, mark, away, e, hcp, he0⟩ := HN.out.keep HB.out y (List.mem_of_getElem? hy)
    have c0 := hcp.blk.cell 0
    simp only [List.getElem?_toArray, List.getElem?_cons_zero] at c0
    have HLK : (Instr.lookup 71 (.map (some mb)) (.int .i64 (i : Int)) true).run Tryz.prog wr = .ok (.tuple #[.agg #[.int .i64 0, .string ByteArray.empty], .bool false]) wr := hcp.map.look_out (int_keyed Tryz.underlying3) Tryz.underlying71 (z := .agg #[.int .i64 0, .string ByteArray.empty]) (fun W => by kernel_rfl) (keyOf_int_mk Tryz.underlying3 (WalkArith.wf_i64 (by omega))) (show fX e (.int .i64 (i : Int)) = none by rw [fX_nat, he0]; rfl) 0 true
    have H4 := hid (HB4.out.alloc (.cells #[.int .i64 0, .string ByteArray.empty] 78))
    have H6 := hid (HB6.out.alloc (.cells #[.int .i64 0, .string ByteArray.empty] 78))
    have HBB := hid (HB.out.alloc HB.out.size (.cells #[.int .i64 0, .string ByteArray.empty] 78))
    clear hd e1 hy lb hcp he0
    go_wp2
    go_roundg (gk - 1)
    case measure => have := HD.out; have := HLT.out; omega
    case rel => exact ⟨d + 1, by have := HD.out; have := HLT.out; omega, by go_num, rfl, H4, H6, HBB⟩
  · obtain rfl : d = n := by have := HD.out; omega
    have c60 := HB6.out.cell 0
    have c61 := HB6.out.cell 1
    have c40 := HB4.out.cell 0
    have c41 := HB4.out.cell 1
    simp only [List.getElem?_toArray, List.getElem?_cons_zero, List.getElem?_cons_succ] at c60 c61 c40 c41
    have z40 := HB4.out.free 0
    have z41 := HB4.out.free 1
    have HB4E := hid ((HB4.out.set 0 (.int .i64 0)).set 1 (.string ByteArray.empty))
    have HBE := hid ((HB.out.setCell (p := ⟨w.heap.size, 0, none⟩) (by simp) (.int .i64 0)).setCell (p := ⟨w.heap.size, 1, none⟩) (by simp) (.string ByteArray.empty))
    clear hd hlt
    go_wp2
    exact bodyPost_ret (results_row_tmp rfl _ _ w.heap.size 78 #[.int .i64 0, .string ByteArray.empty] (0, 0) _ rfl HB4E.out Tryz.underlying78 rfl (by kernel_rfl)) rfl ⟨rfl, HBE.out⟩
set_option maxRecDepth 100000 in
set_option maxHeartbeats 2000000 in
theorem readNone (mp : Addr) (A : Option Addr) (n c : Nat) (l : List Nat) (w : World) (hn : n ≤ 1000) (hs : Sl w A n c (ptrs l)) (hl : NoEnt w 0 l) :
 Calls Tryz.prog 31 #[.pointer (some mp), .slice A n c] w fun x w' => x = .returned (.tuple #[]) ∧ Below w.heap.size w w' := by
 have HE := hid (entryNone A n c 0 l w hn (by omega) hs hl)
 clear hs hl
 go_enter Tryz.func31, Tryz.ntmps31
 go_wp2
 go_loopg [10] 1 (fun gk i wr => gk = 1 ∧ i = .int .i64 0 ∧ w = wr)
 case atStart => exact ⟨rfl, rfl, rfl⟩
 case round =>
  obtain ⟨hg, rfl, hw⟩ := hrel
  subst hw
  go_wp2_with fail
  refine (HE.out).mono ?_; rintro x w1 ⟨rfl, b1⟩
  have HB := hid ((b1.alloc b1.size (.cells #[.int .i64 0, .string ByteArray.empty] 78)))
  clear b1
  go_wp2
  refine bodyPost_ret (results_none rfl _ _ _) rfl ?_
  exact ⟨rfl, HB.out⟩
end Go.Proofs.YtciadmjdadnolaaGreatDoor
