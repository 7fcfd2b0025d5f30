/- Texts of this proof, one behind the other; each says its condition at its head. -/
import Derived.Test.YtnibidmlkbcfkaaGreatDoorT5
import Derived.Test.YtnibidmlkbcfkaaGreatDoorT9
namespace Go.Proofs.YtnibidmlkbcfkaaGreatDoor
/- Walk of a rule's read, at any rule and any text. Conditions: the text is short of the shelf's bound; the library's variables stand. -/
section
open Go.RowKit Go.Maps
theorem Sl.newB (w : World) (cs : Array Value) (e : TypeId) {n : Nat} (hn : n = cs.size) (hm : n ≤ maxLen) : Sl (w.alloc (.cells cs e)) (some ⟨w.heap.size, 0, none⟩) n n cs.toList :=
 ⟨by simp [hn], Nat.le_refl _, hm, fun _ => ⟨w.heap.size, 0, rfl, by simp, fun j u hu => by rw [Nat.zero_add, World.cell?_alloc_new]; simpa using hu⟩⟩
/-- What stands while the words are read: d of them. -/
structure RdG (w W : World) (rb lb d r0 na nb : Nat) (R : Array Value) (v u : Value) (l : List ByteArray) : Prop where
 rule : Blk W rb 122 R
 line : Blk W lb 124 #[v, u]
 nam : W.ownsRow (w.heap.size + 3) 9 1 v na (strV ((l.take d).take r0))
 num : W.ownsRow (w.heap.size + 3) 3 1 u nb (intV (((l.take d).drop r0).map numV))
 words : Sl W (some ⟨w.heap.size + 2, 1, none⟩) l.length l.length (strV l)
 big : w.heap.size + 3 ≤ W.heap.size
 low : Below w.heap.size w W
 hr : w.heap.size ≤ rb
 hl : w.heap.size ≤ lb
 hl2 : lb < w.heap.size + 2
 hne : ¬ rb = lb
section
variable {w W W' : World} {rb lb d r0 na nb : Nat} {R : Array Value} {v u : Value} {l : List ByteArray}
theorem RdG.below (h : RdG w W rb lb d r0 na nb R v u l) (hb : Below W.heap.size W W') : RdG w W' rb lb d r0 na nb R v u l :=
 ⟨h.rule.keep hb, h.line.keep hb, own_below h.nam hb, own_below h.num hb, h.words.below hb, Nat.le_trans h.big hb.size, below_call h.low hb h.low.size, h.hr, h.hl, h.hl2, h.hne⟩
theorem RdG.pushN {v1 : Value} {x : ByteArray} (h : RdG w W rb lb d r0 na nb R v u l) (hx : l[d]? = some x) (hd : d < r0) (ho : W'.ownsRow (w.heap.size + 3) 9 1 v1 (na + 1) (strV ((l.take d).take r0) ++ [.string x])) (hg : (W.alloc (.cells #[.string x] 9)).grownBy W' v.ownBlock) :
 Blk W' lb 124 #[v, u] ∧ RdG w (W'.setCell ⟨lb, 0, none⟩ v1) rb lb (d + 1) r0 (na + 1) nb R v1 u l := by
 have hl := (h.line.alloc (.cells #[.string x] 9)).grown hg (own_ne_blk h.nam h.line (by decide))
 have hr := (h.rule.alloc (.cells #[.string x] 9)).grown hg (own_ne_blk h.nam h.rule (by decide))
 have hlow := below_push h.low h.nam hg h.low.size (by omega)
 have hw := (h.words.alloc (.cells #[.string x] 9)).grown hg (fun e => by have := (h.nam.lt _ e).1; omega)
 have hw2 := hw.grown (setGrown W' ⟨lb, 0, none⟩ v1) (by have := h.hl2; simp; omega)
 have hu := World.ownsRow.kept (h.num.alloc (.cells #[.string x] 9)) hg (own_apart2 h.num h.nam (by decide))
 have hdl : d < l.length := (List.getElem?_eq_some_iff.1 hx).1
 have e1 : (l.take (d + 1)).take r0 = (l.take d).take r0 ++ [x] := by
  rw [List.take_take, List.take_take, Nat.min_eq_right (by omega), Nat.min_eq_right (by omega), List.take_add_one, hx]
  rfl
 have e2 : (l.take (d + 1)).drop r0 = (l.take d).drop r0 := by
  rw [List.drop_eq_nil_of_le (by simp; omega), List.drop_eq_nil_of_le (by simp; omega)]
 refine ⟨hl, hr.far (p := ⟨lb, 0, none⟩) h.hne _, hl.set 0 v1, ?_, ?_, hw2, ?_, hlow.setCell (p := ⟨lb, 0, none⟩) h.hl _, h.hr, h.hl, h.hl2, h.hne⟩
 · rw [e1]
   have e : strV ((l.take d).take r0 ++ [x]) = strV ((l.take d).take r0) ++ [.string x] := by unfold strV; simp
   rw [e]
   exact own_grown ho hl (by decide) (setGrown W' ⟨lb, 0, none⟩ v1)
 · rw [e2]
   exact own_grown hu hl (by decide) (setGrown W' ⟨lb, 0, none⟩ v1)
 · have := hg.size; have := h.big; simp at *; omega
theorem RdG.pushV {v1 : Value} {x : ByteArray} (h : RdG w W rb lb d r0 na nb R v u l) (hx : l[d]? = some x) (hd : ¬ d < r0) (ho : W'.ownsRow (w.heap.size + 3) 3 1 v1 (nb + 1) (intV (((l.take d).drop r0).map numV) ++ [.int .i64 (numV x)])) (hg : (W.alloc (.cells #[.int .i64 (numV x)] 3)).grownBy W' u.ownBlock) :
 Blk W' lb 124 #[v, u] ∧ RdG w (W'.setCell ⟨lb, 1, none⟩ v1) rb lb (d + 1) r0 na (nb + 1) R v v1 l := by
 have hl := (h.line.alloc (.cells #[.int .i64 (numV x)] 3)).grown hg (own_ne_blk h.num h.line (by decide))
 have hr := (h.rule.alloc (.cells #[.int .i64 (numV x)] 3)).grown hg (own_ne_blk h.num h.rule (by decide))
 have hlow := below_push h.low h.num hg h.low.size (by omega)
 have hw := (h.words.alloc (.cells #[.int .i64 (numV x)] 3)).grown hg (fun e => by have := (h.num.lt _ e).1; omega)
 have hw2 := hw.grown (setGrown W' ⟨lb, 1, none⟩ v1) (by have := h.hl2; simp; omega)
 have hu := World.ownsRow.kept (h.nam.alloc (.cells #[.int .i64 (numV x)] 3)) hg (own_apart2 h.nam h.num (by decide))
 have hdl : d < l.length := (List.getElem?_eq_some_iff.1 hx).1
 have e1 : (l.take (d + 1)).take r0 = (l.take d).take r0 := by
  rw [List.take_take, List.take_take, Nat.min_eq_left (by omega), Nat.min_eq_left (by omega)]
 have e2 : (l.take (d + 1)).drop r0 = (l.take d).drop r0 ++ [x] := by
  rw [List.take_add_one, hx, List.drop_append_of_le_length (by simp; omega)]
  rfl
 refine ⟨hl, hr.far (p := ⟨lb, 1, none⟩) h.hne _, hl.set 1 v1, ?_, ?_, hw2, ?_, hlow.setCell (p := ⟨lb, 1, none⟩) h.hl _, h.hr, h.hl, h.hl2, h.hne⟩
 · rw [e1]
   exact own_grown hu hl (by decide) (setGrown W' ⟨lb, 1, none⟩ v1)
 · rw [e2]
   have e : intV (((l.take d).drop r0 ++ [x]).map numV) = intV (((l.take d).drop r0).map numV) ++ [.int .i64 (numV x)] := by unfold intV; simp
   rw [e]
   exact own_grown ho hl (by decide) (setGrown W' ⟨lb, 1, none⟩ v1)
 · have := hg.size; have := h.big; simp at *; omega
end
/-- What read hands back of a text: names and numbers in memory of its own, or nothing. -/
def RdP (B : Nat) (q : Option (List ByteArray × List Int)) (e : Ending) (w' : World) : Prop :=
 match q with
 | some (nm, nu) => ∃ A c D d, e = .returned (.tuple #[.agg #[.slice A nm.length c, .slice D nu.length d], .bool true]) ∧ w'.ownsRow B 9 1 (.slice A nm.length c) nm.length (strV nm) ∧ w'.ownsRow B 3 1 (.slice D nu.length d) nu.length (intV nu)
 | none => e = .returned (.tuple #[.agg #[.slice none 0 0, .slice none 0 0], .bool false])
theorem readP_len {r0 r1 : Nat} {l : List ByteArray} (h : l.length ≠ r0 + r1) : readP r0 r1 l = none := by
 unfold readP; rw [if_neg (fun e => h e.1)]
theorem readP_nm {r0 r1 d : Nat} {l : List ByteArray} {x : ByteArray} (hx : l[d]? = some x) (hd : d < r0) (h : isNm x = false) : readP r0 r1 l = none := by
 unfold readP
 rw [if_neg]
 rintro ⟨_, h2, _⟩
 rw [List.all_eq_true] at h2
 have := h2 x (List.mem_of_getElem? (i := d) (by rw [List.getElem?_take]; simp [hd, hx]))
 rw [h] at this
 cases this
theorem readP_nu {r0 r1 d : Nat} {l : List ByteArray} {x : ByteArray} (hx : l[d]? = some x) (hd : ¬ d < r0) (h : numOf x = none) : readP r0 r1 l = none := by
 unfold readP
 rw [if_neg]
 rintro ⟨_, _, h2⟩
 rw [List.all_eq_true] at h2
 have := h2 x (List.mem_of_getElem? (i := d - r0) (by rw [List.getElem?_drop, show r0 + (d - r0) = d by omega]; exact hx))
 rw [h] at this
 cases this
theorem readP_ok {r0 r1 : Nat} {l : List ByteArray} (h1 : l.length = r0 + r1) (h : ∀ (d : Nat) x, l[d]? = some x → (d < r0 → isNm x = true) ∧ (¬ d < r0 → (numOf x).isSome = true)) : readP r0 r1 l = some (l.take r0, (l.drop r0).map numV) := by
 unfold readP
 rw [if_pos]
 refine ⟨h1, ?_, ?_⟩
 · rw [List.all_eq_true]
   intro x hx
   obtain ⟨i, hi, rfl⟩ := List.getElem_of_mem hx
   rw [List.length_take] at hi
   rw [List.getElem_take]
   exact (h i _ (List.getElem?_eq_getElem _)).1 (by omega)
 · rw [List.all_eq_true]
   intro x hx
   obtain ⟨i, hi, rfl⟩ := List.getElem_of_mem hx
   rw [List.getElem_drop]
   exact (h (r0 + i) _ (List.getElem?_eq_getElem _)).2 (by omega)
set_option maxRecDepth 100000 in
set_option maxHeartbeats 4000000 in
theorem readPos (r0 r1 : Nat) (f1 f2 : Value) (s w0 : ByteArray) (l : List ByteArray) (hp : Parts s (w0 :: l)) (hsz : ∀ x ∈ l, x.size ≤ 1000000000) (hr : r0 + r1 ≤ 100) (hll : l.length ≤ 100000000) (hpos : 0 < l.length) (w : World) (hm : EnvN w) :
 Calls Tryz.prog 93 #[.agg #[.int .i64 (r0 : Nat), .int .i64 (r1 : Nat), f1, f2], .string s] w fun e w' => RdP w.heap.size (readP r0 r1 l) e w' ∧ Below w.heap.size w w' := by
 have HM := hid hm
 have HP := hid hp
 have HSZ := hid hsz
 clear hm hp hsz
 go_enter Tryz.func93, Tryz.ntmps93
 have b2 : Below w.heap.size w ((w.alloc (.cells #[.int .i64 (r0 : Nat), .int .i64 (r1 : Nat), f1, f2] 122)).alloc (.cells #[.slice none 0 0, .slice none 0 0] 124)) := ((Below.refl _ w).alloc (Nat.le_refl _) _).alloc (by simp) _
 have HP2 := hid (HP.out _ (HM.out.max.keep b2))
 have hsz2 : ((w.alloc (.cells #[.int .i64 (r0 : Nat), .int .i64 (r1 : Nat), f1, f2] 122)).alloc (.cells #[.slice none 0 0, .slice none 0 0] 124)).heap.size = w.heap.size + 2 := by simp
 have S3 := hid (show Sl (((w.alloc (.cells #[.int .i64 (r0 : Nat), .int .i64 (r1 : Nat), f1, f2] 122)).alloc (.cells #[.slice none 0 0, .slice none 0 0] 124)).alloc (.cells (strV (w0 :: l)).toArray 9)) (some ⟨w.heap.size + 2, 0, none⟩) (l.length + 1) (l.length + 1) (strV (w0 :: l)) from by
  have := Sl.newB ((w.alloc (.cells #[.int .i64 (r0 : Nat), .int .i64 (r1 : Nat), f1, f2] 122)).alloc (.cells #[.slice none 0 0, .slice none 0 0] 124)) (strV (w0 :: l)).toArray 9 (n := l.length + 1) (by simp [strV]) (by unfold maxLen; omega)
  rw [hsz2] at this
  simpa using this)
 have S4 := hid (show Sl (((w.alloc (.cells #[.int .i64 (r0 : Nat), .int .i64 (r1 : Nat), f1, f2] 122)).alloc (.cells #[.slice none 0 0, .slice none 0 0] 124)).alloc (.cells (strV (w0 :: l)).toArray 9)) (some ⟨w.heap.size + 2, 0, none⟩) (l.length + 1) (l.length + 1) (.string w0 :: strV l) from S3.out).drop1
 have R3 := hid (show RdG w (((w.alloc (.cells #[.int .i64 (r0 : Nat), .int .i64 (r1 : Nat), f1, f2] 122)).alloc (.cells #[.slice none 0 0, .slice none 0 0] 124)).alloc (.cells (strV (w0 :: l)).toArray 9)) w.heap.size (w.heap.size + 1) 0 r0 0 0 #[.int .i64 (r0 : Nat), .int .i64 (r1 : Nat), f1, f2] (.slice none 0 0) (.slice none 0 0) l from
  ⟨((Blk.new w _ _).alloc _).alloc _, (Blk.new_at _ _ _ (by simp)).alloc _, by simpa [strV] using World.ownsRow_nil _ _ _ _, by simpa [intV] using World.ownsRow_nil _ _ _ _, S4, by simp, b2.alloc b2.size _, Nat.le_refl _, by omega, by omega, by omega⟩)
 have hl1 : (w0 :: l).length = l.length + 1 := by simp
 have HM3 := hid HM.out
 rw [hl1, hsz2] at HP2
 clear b2 S3 S4 hsz2 hl1
 go_wp2_with fail
 refine (HP2.out).mono ?_; rintro e w1 ⟨rfl, rfl⟩
 clear HP2
 generalize (((w.alloc (.cells #[.int .i64 (r0 : Nat), .int .i64 (r1 : Nat), f1, f2] 122)).alloc (.cells #[.slice none 0 0, .slice none 0 0] 124)).alloc (.cells (strV (w0 :: l)).toArray 9)) = W at *
 have a0 := R3.out.rule.cell 0
 have a1 := R3.out.rule.cell 1
 have l0 := R3.out.line.cell 0
 have l1 := R3.out.line.cell 1
 have g0 := R3.out.line.free 0
 have g1 := R3.out.line.free 1
 simp only [List.getElem?_toArray, List.getElem?_cons_zero, List.getElem?_cons_succ] at a0 a1 l0 l1
 have hn0 : ¬ l.length = 0 := by omega
 clear HM HP
 by_cases hlen : l.length = r0 + r1
 · have HLEN := hid hlen
   have heq : (l.length : Int) = (r0 : Int) + (r1 : Int) := by omega
   clear hlen
   go_wp2
   clear a0 a1 l0 l1 g0 g1
   go_loopg [25] l.length (fun gk i wr => ∃ (d na nb : Nat) (v u : Value), gk + d = l.length ∧ i = .int .i64 d ∧ Hid (RdG w wr w.heap.size (w.heap.size + 1) d r0 na nb #[.int .i64 (r0 : Nat), .int .i64 (r1 : Nat), f1, f2] v u l) ∧ Hid (∀ (j : Nat) x, j < d → l[j]? = some x → (j < r0 → isNm x = true) ∧ (¬ j < r0 → (numOf x).isSome = true)))
   case atStart => exact ⟨0, 0, 0, _, _, by omega, rfl, R3, hid fun j x h => absurd h (by omega)⟩
   case round =>
    obtain ⟨d, na, nb, v, u, hd, rfl, HR, HF⟩ := hrel
    have HD := hid hd
    have HMR := hid (HM3.out.keep HR.out.low)
    by_cases hlt : d < l.length
    · have HLT := hid hlt
      obtain ⟨b, o, u0, hbo, lb, e1, ca⟩ := HR.out.words.at hlt
      cases hbo
      obtain ⟨x, hx, rfl⟩ := Option.map_eq_some_iff.1 (show (l[d]?).map Value.string = some u0 by rw [← List.getElem?_map]; exact e1)
      have HX := hid hx
      have HXS := hid (HSZ.out x (List.mem_of_getElem? hx))
      have a0 := HR.out.rule.cell 0
      simp only [List.getElem?_toArray, List.getElem?_cons_zero] at a0
      by_cases hdr : d < r0
      · have HDR := hid hdr
        have hdr2 : (d : Int) < (r0 : Int) := by omega
        clear hd e1 hx lb hdr
        cases hnm : isNm x with
        | true =>
         have HNM := hid hnm
         have HNF := hid (nameF x true wr ⟨fun _ => (isNm_iff x).1 hnm, fun _ => rfl⟩ HXS.out)
         clear hnm
         go_wp2_with fail
         refine (HNF.out).mono ?_; rintro e w5 ⟨rfl, b5⟩
         have HR5 := hid (HR.out.below b5)
         have l0 := HR5.out.line.cell 0
         simp only [List.getElem?_toArray, List.getElem?_cons_zero] at l0
         have hln : na ≤ 100 := by have := HR5.out.nam.1; simp [strV] at this; omega
         obtain ⟨A5, c5, rfl⟩ := own_form HR5.out.nam
         clear b5 a0 ca HNF HR
         go_wp2_with (at_builtin; refine push1P TS22 w5 #[.string x] (w.heap.size + 3) _ _ _ HR5.out.nam _ _ w5.heap.size rfl rfl rfl rfl rfl rfl (by simp [Value.oneCell']) (by omega) (by omega) HR5.out.big ?_; intro v1 w8 hown1 hgr; obtain ⟨A8, c8, rfl⟩ := own_form hown1; have HPU := HR5.out.pushN HX.out HDR.out hown1 hgr; have l8 := HPU.1.cell 0; have f8 := HPU.1.free 0; have HR8 := hid HPU.2; simp only [List.getElem?_toArray, List.getElem?_cons_zero] at l8; clear hown1 hgr HPU)
         go_roundg (gk - 1)
         case measure => have := HD.out; have := HLT.out; omega
         case rel => exact ⟨d + 1, _, _, _, _, by have := HD.out; have := HLT.out; omega, by go_num, HR8, hid fun j y hj hy => by
          rcases Nat.lt_or_ge j d with h | h
          · exact HF.out j y h hy
          · obtain rfl : j = d := by omega
            have := HX.out; rw [hy] at this; cases this
            exact ⟨fun _ => HNM.out, fun h => absurd HDR.out h⟩⟩
        | false =>
         have HNF := hid (nameF x false wr ⟨fun h => (by cases h), fun h => (by have h2 := (isNm_iff x).2 h; rw [hnm] at h2; cases h2)⟩ HXS.out)
         go_wp2_with fail
         refine (HNF.out).mono ?_; rintro e w5 ⟨rfl, b5⟩
         have HR5 := hid (HR.out.below b5)
         clear b5 a0 ca HNF HR
         have l0 := HR5.out.line.cell 0
         have l1 := HR5.out.line.cell 1
         have g0 := HR5.out.line.free 0
         have g1 := HR5.out.line.free 1
         simp only [List.getElem?_toArray, List.getElem?_cons_zero, List.getElem?_cons_succ] at l0 l1
         have HRP := hid (readP_nm HX.out HDR.out hnm : readP r0 r1 l = none)
         have HE := hid ((HR5.out.line.set 0 (.slice none 0 0)).set 1 (.slice none 0 0))
         have HL := hid ((HR5.out.low.setCell (p := ⟨w.heap.size + 1, 0, none⟩) (by simp) (.slice none 0 0)).setCell (p := ⟨w.heap.size + 1, 1, none⟩) (by simp) (.slice none 0 0))
         go_wp2
         exact bodyPost_ret (results_row_tmp rfl _ _ (w.heap.size + 1) 124 #[.slice none 0 0, .slice none 0 0] (0, 0) _ rfl HE.out Tryz.underlying124 rfl (by kernel_rfl)) rfl ⟨by rw [HRP.out]; rfl, HL.out⟩
      · have HDR := hid hdr
        have hdr2 : ¬ (d : Int) < (r0 : Int) := by omega
        clear hd e1 hx lb hdr
        have HAT := hid (atoiAny x HXS.out wr HMR.out)
        go_wp2_with fail
        refine (HAT.out).mono ?_; rintro e w5 ⟨n, r, rfl, hcase, b5⟩
        have HR5 := hid (HR.out.below b5)
        have HM5 := hid (HMR.out.keep b5)
        clear b5 a0 ca HAT HR
        rcases hcase with ⟨rfl, hok⟩ | ⟨N, rfl, hno⟩
        · have HOK := hid (numOf_ok hok)
          have HBD := hid (Lib.atoiAll_bounds hok)
          clear hok
          by_cases hn0 : n < 0
          · have HNO := hid (show numOf x = none by rw [HOK.out, if_neg (by omega)])
            have l0 := HR5.out.line.cell 0
            have l1 := HR5.out.line.cell 1
            have g0 := HR5.out.line.free 0
            have g1 := HR5.out.line.free 1
            simp only [List.getElem?_toArray, List.getElem?_cons_zero, List.getElem?_cons_succ] at l0 l1
            have HRP := hid (readP_nu HX.out HDR.out HNO.out : readP r0 r1 l = none)
            have HE := hid ((HR5.out.line.set 0 (.slice none 0 0)).set 1 (.slice none 0 0))
            have HL := hid ((HR5.out.low.setCell (p := ⟨w.heap.size + 1, 0, none⟩) (by simp) (.slice none 0 0)).setCell (p := ⟨w.heap.size + 1, 1, none⟩) (by simp) (.slice none 0 0))
            go_wp2
            exact bodyPost_ret (results_row_tmp rfl _ _ (w.heap.size + 1) 124 #[.slice none 0 0, .slice none 0 0] (0, 0) _ rfl HE.out Tryz.underlying124 rfl (by kernel_rfl)) rfl ⟨by rw [HRP.out]; rfl, HL.out⟩
          · by_cases hx3 : x.size ≤ 3
            · have HIT := hid (itoaAny n (by omega) HBD.out.2 w5 HM5.out)
              have hx3' : (x.size : Int) ≤ 3 := by omega
              go_wp2_with fail
              refine (HIT.out).mono ?_; rintro e w6 ⟨rfl, b6⟩
              have HR6 := hid (HR5.out.below b6)
              clear b6 HR5 HIT
              generalize (⟨(Lib.itoa n).toArray⟩ : ByteArray) = y at *
              by_cases hst : y = x
              · have HNV := hid (show numV x = n by unfold numV; rw [HOK.out, if_pos ⟨by omega, hx3, hst⟩]; simp; omega)
                have HSM := hid (show (numOf x).isSome = true by rw [HOK.out, if_pos ⟨by omega, hx3, hst⟩]; rfl)
                have hst2 := hst.symm
                subst hst2
                have hqe2 : (x.toList == x.toList) = true := by simp
                have l1 := HR6.out.line.cell 1
                simp only [List.getElem?_toArray, List.getElem?_cons_zero, List.getElem?_cons_succ] at l1
                have hln : nb ≤ 100 := by have := HR6.out.num.1; simp [intV] at this; have := HLEN.out; have := HLT.out; omega
                obtain ⟨A5, c5, rfl⟩ := own_form HR6.out.num
                obtain rfl := HNV.out
                go_wp2_with (at_builtin; refine push1P TI27 w6 #[.int .i64 (numV x)] (w.heap.size + 3) _ _ _ HR6.out.num _ _ w6.heap.size rfl rfl rfl rfl rfl rfl (by simp [Value.oneCell']) (by omega) (by omega) HR6.out.big ?_; intro v1 w8 hown1 hgr; obtain ⟨A8, c8, rfl⟩ := own_form hown1; have HPU := HR6.out.pushV HX.out HDR.out hown1 hgr; have l8 := HPU.1.cell 1; have f8 := HPU.1.free 1; have HR8 := hid HPU.2; simp only [List.getElem?_toArray, List.getElem?_cons_zero, List.getElem?_cons_succ] at l8; clear hown1 hgr HPU)
                go_roundg (gk - 1)
                case measure => have := HD.out; have := HLT.out; omega
                case rel => exact ⟨d + 1, _, _, _, _, by have := HD.out; have := HLT.out; omega, by go_num, HR8, hid fun j y hj hy => by
                 rcases Nat.lt_or_ge j d with h | h
                 · exact HF.out j y h hy
                 · obtain rfl : j = d := by omega
                   have := HX.out; rw [hy] at this; cases this
                   exact ⟨fun h => absurd h HDR.out, fun _ => HSM.out⟩⟩
              · have HNO := hid (show numOf x = none by rw [HOK.out, if_neg (fun h => hst h.2.2)])
                have hqe2 : (y.toList == x.toList) = false := by rw [beq_eq_false_iff_ne]; exact fun e => hst (toList_inj e)
                have l0 := HR6.out.line.cell 0
                have l1 := HR6.out.line.cell 1
                have g0 := HR6.out.line.free 0
                have g1 := HR6.out.line.free 1
                simp only [List.getElem?_toArray, List.getElem?_cons_zero, List.getElem?_cons_succ] at l0 l1
                have HRP := hid (readP_nu HX.out HDR.out HNO.out : readP r0 r1 l = none)
                have HE := hid ((HR6.out.line.set 0 (.slice none 0 0)).set 1 (.slice none 0 0))
                have HL := hid ((HR6.out.low.setCell (p := ⟨w.heap.size + 1, 0, none⟩) (by simp) (.slice none 0 0)).setCell (p := ⟨w.heap.size + 1, 1, none⟩) (by simp) (.slice none 0 0))
                go_wp2
                exact bodyPost_ret (results_row_tmp rfl _ _ (w.heap.size + 1) 124 #[.slice none 0 0, .slice none 0 0] (0, 0) _ rfl HE.out Tryz.underlying124 rfl (by kernel_rfl)) rfl ⟨by rw [HRP.out]; rfl, HL.out⟩
            · have HNO := hid (show numOf x = none by rw [HOK.out, if_neg (fun h => hx3 h.2.1)])
              have hx3' : ¬ (x.size : Int) ≤ 3 := by omega
              have l0 := HR5.out.line.cell 0
              have l1 := HR5.out.line.cell 1
              have g0 := HR5.out.line.free 0
              have g1 := HR5.out.line.free 1
              simp only [List.getElem?_toArray, List.getElem?_cons_zero, List.getElem?_cons_succ] at l0 l1
              have HRP := hid (readP_nu HX.out HDR.out HNO.out : readP r0 r1 l = none)
              have HE := hid ((HR5.out.line.set 0 (.slice none 0 0)).set 1 (.slice none 0 0))
              have HL := hid ((HR5.out.low.setCell (p := ⟨w.heap.size + 1, 0, none⟩) (by simp) (.slice none 0 0)).setCell (p := ⟨w.heap.size + 1, 1, none⟩) (by simp) (.slice none 0 0))
              go_wp2
              exact bodyPost_ret (results_row_tmp rfl _ _ (w.heap.size + 1) 124 #[.slice none 0 0, .slice none 0 0] (0, 0) _ rfl HE.out Tryz.underlying124 rfl (by kernel_rfl)) rfl ⟨by rw [HRP.out]; rfl, HL.out⟩
        · have HNO := hid hno
          have l0 := HR5.out.line.cell 0
          have l1 := HR5.out.line.cell 1
          have g0 := HR5.out.line.free 0
          have g1 := HR5.out.line.free 1
          simp only [List.getElem?_toArray, List.getElem?_cons_zero, List.getElem?_cons_succ] at l0 l1
          have HRP := hid (readP_nu HX.out HDR.out HNO.out : readP r0 r1 l = none)
          have HE := hid ((HR5.out.line.set 0 (.slice none 0 0)).set 1 (.slice none 0 0))
          have HL := hid ((HR5.out.low.setCell (p := ⟨w.heap.size + 1, 0, none⟩) (by simp) (.slice none 0 0)).setCell (p := ⟨w.heap.size + 1, 1, none⟩) (by simp) (.slice none 0 0))
          go_wp2
          exact bodyPost_ret (results_row_tmp rfl _ _ (w.heap.size + 1) 124 #[.slice none 0 0, .slice none 0 0] (0, 0) _ rfl HE.out Tryz.underlying124 rfl (by kernel_rfl)) rfl ⟨by rw [HRP.out]; rfl, HL.out⟩
    · obtain rfl : d = l.length := by have := HD.out; omega
      have htk : l.take l.length = l := List.take_length
      have NA := hid (show na = (l.take r0).length from by have := HR.out.nam.1; rw [htk] at this; simp [strV] at this; simp; omega)
      have NB := hid (show nb = (l.drop r0).length from by have := HR.out.num.1; rw [htk] at this; simp [intV] at this; simp; omega)
      obtain ⟨A5, c5, rfl⟩ := own_form HR.out.nam
      obtain ⟨D5, e5, rfl⟩ := own_form HR.out.num
      have l0 := HR.out.line.cell 0
      have l1 := HR.out.line.cell 1
      have g0 := HR.out.line.free 0
      have g1 := HR.out.line.free 1
      simp only [List.getElem?_toArray, List.getElem?_cons_zero, List.getElem?_cons_succ] at l0 l1
      have HE := hid ((HR.out.line.set 0 (.slice A5 na c5)).set 1 (.slice D5 nb e5))
      have HO := hid (own_grown (own_grown HR.out.nam HR.out.line (by decide) (setGrown wr ⟨w.heap.size + 1, 0, none⟩ (.slice A5 na c5))) (HR.out.line.set 0 (.slice A5 na c5)) (by decide) (setGrown _ ⟨w.heap.size + 1, 1, none⟩ (.slice D5 nb e5)))
      have HO2 := hid (own_grown (own_grown HR.out.num HR.out.line (by decide) (setGrown wr ⟨w.heap.size + 1, 0, none⟩ (.slice A5 na c5))) (HR.out.line.set 0 (.slice A5 na c5)) (by decide) (setGrown _ ⟨w.heap.size + 1, 1, none⟩ (.slice D5 nb e5)))
      have HL := hid ((HR.out.low.setCell (p := ⟨w.heap.size + 1, 0, none⟩) (by simp) (.slice A5 na c5)).setCell (p := ⟨w.heap.size + 1, 1, none⟩) (by simp) (.slice D5 nb e5))
      have HRP := hid (readP_ok HLEN.out (fun j x hx => HF.out j x (List.getElem?_eq_some_iff.1 hx).1 hx))
      have hnn : ((l.drop r0).map numV).length = (l.drop r0).length := by simp
      rw [htk] at HO HO2
      clear hd hlt htk HF
      go_wp2
      exact bodyPost_ret (results_row_tmp rfl _ _ (w.heap.size + 1) 124 #[.slice A5 na c5, .slice D5 nb e5] (0, 0) _ rfl HE.out Tryz.underlying124 rfl (by kernel_rfl)) rfl ⟨by rw [HRP.out]; exact ⟨A5, c5, D5, e5, by rw [hnn, ← NA.out, ← NB.out]; rfl, by rw [← NA.out]; exact own_more HO.out (by omega), by rw [hnn, ← NB.out]; exact own_more HO2.out (by omega)⟩, HL.out⟩
 · have HRP := hid (readP_len hlen)
   have hne : ¬ (l.length : Int) = (r0 : Int) + (r1 : Int) := by omega
   have HE := hid ((R3.out.line.set 0 (.slice none 0 0)).set 1 (.slice none 0 0))
   have HL := hid ((R3.out.low.setCell (p := ⟨w.heap.size + 1, 0, none⟩) (by simp) (.slice none 0 0)).setCell (p := ⟨w.heap.size + 1, 1, none⟩) (by simp) (.slice none 0 0))
   clear hlen
   go_wp2
   exact bodyPost_ret (results_row_tmp rfl _ _ (w.heap.size + 1) 124 #[.slice none 0 0, .slice none 0 0] (0, 0) _ rfl HE.out Tryz.underlying124 rfl (by kernel_rfl)) rfl ⟨by rw [HRP.out]; rfl, HL.out⟩
set_option maxRecDepth 100000 in
set_option maxHeartbeats 4000000 in
theorem readNo (r0 r1 : Nat) (f1 f2 : Value) (s w0 : ByteArray) (hp : Parts s [w0]) (hr : r0 + r1 ≤ 100) (hne0 : 0 < r0 + r1) (w : World) (hm : MaxL w) :
 Calls Tryz.prog 93 #[.agg #[.int .i64 (r0 : Nat), .int .i64 (r1 : Nat), f1, f2], .string s] w fun e w' => e = .returned (.tuple #[.agg #[.slice none 0 0, .slice none 0 0], .bool false]) ∧ Below w.heap.size w w' := by
 have b2 : Below w.heap.size w ((w.alloc (.cells #[.int .i64 (r0 : Nat), .int .i64 (r1 : Nat), f1, f2] 122)).alloc (.cells #[.slice none 0 0, .slice none 0 0] 124)) := ((Below.refl _ w).alloc (Nat.le_refl _) _).alloc (by simp) _
 have HP2 := hid (hp _ (hm.keep b2))
 have hsz2 : ((w.alloc (.cells #[.int .i64 (r0 : Nat), .int .i64 (r1 : Nat), f1, f2] 122)).alloc (.cells #[.slice none 0 0, .slice none 0 0] 124)).heap.size = w.heap.size + 2 := by simp
 have HLO := hid (b2.alloc b2.size (.cells (strV [w0]).toArray 9))
 have HRU := hid (((Blk.new w 122 #[.int .i64 (r0 : Nat), .int .i64 (r1 : Nat), f1, f2]).alloc (.cells #[.slice none 0 0, .slice none 0 0] 124)).alloc (.cells (strV [w0]).toArray 9))
 have HLI := hid ((Blk.new_at (w.alloc (.cells #[.int .i64 (r0 : Nat), .int .i64 (r1 : Nat), f1, f2] 122)) 124 #[.slice none 0 0, .slice none 0 0] (n := w.heap.size + 1) (by simp)).alloc (.cells (strV [w0]).toArray 9))
 rw [hsz2] at HP2
 clear b2 hsz2 hp hm
 go_enter Tryz.func93, Tryz.ntmps93
 go_wp2_with fail
 refine (HP2.out).mono ?_; rintro e w1 ⟨rfl, rfl⟩
 clear HP2
 generalize (((w.alloc (.cells #[.int .i64 (r0 : Nat), .int .i64 (r1 : Nat), f1, f2] 122)).alloc (.cells #[.slice none 0 0, .slice none 0 0] 124)).alloc (.cells (strV [w0]).toArray 9)) = W at *
 have a0 := HRU.out.cell 0
 have a1 := HRU.out.cell 1
 have l0 := HLI.out.cell 0
 have l1 := HLI.out.cell 1
 have g0 := HLI.out.free 0
 have g1 := HLI.out.free 1
 simp only [List.getElem?_toArray, List.getElem?_cons_zero, List.getElem?_cons_succ] at a0 a1 l0 l1
 have HE := hid ((HLI.out.set 0 (.slice none 0 0)).set 1 (.slice none 0 0))
 have HL := hid ((HLO.out.setCell (p := ⟨w.heap.size + 1, 0, none⟩) (by simp) (.slice none 0 0)).setCell (p := ⟨w.heap.size + 1, 1, none⟩) (by simp) (.slice none 0 0))
 have hne : ¬ (0 : Int) = (r0 : Int) + (r1 : Int) := by omega
 go_wp2
 exact bodyPost_ret (results_row_tmp rfl _ _ (w.heap.size + 1) 124 #[.slice none 0 0, .slice none 0 0] (0, 0) _ rfl HE.out Tryz.underlying124 rfl (by kernel_rfl)) rfl ⟨rfl, HL.out⟩
/-- A rule's read at any text. -/
theorem readAny (r0 r1 : Nat) (f1 f2 : Value) (s : ByteArray) (hs : s.size ≤ 100000000) (hr : r0 + r1 ≤ 100) (w : World) (hm : EnvN w) :
 Calls Tryz.prog 93 #[.agg #[.int .i64 (r0 : Nat), .int .i64 (r1 : Nat), f1, f2], .string s] w fun e w' => RdP w.heap.size (readP r0 r1 (parts s).tail) e w' ∧ Below w.heap.size w w' := by
 have hp := parts_parts (s := s) (by omega)
 have hl := parts_few s
 have hz : ∀ x ∈ parts s, x.size ≤ s.size := fun x hx => parts_size hx
 cases hps : parts s with
 | nil => have := parts_len s; rw [hps] at this; simp at this
 | cons w0 l =>
  rw [hps] at hp hl hz
  simp only [List.tail_cons]
  cases l with
  | nil =>
   by_cases h0 : r0 + r1 = 0
   · obtain rfl : r0 = 0 := by omega
     obtain rfl : r1 = 0 := by omega
     refine (readBare f1 f2 s w0 hp w hm.max).mono ?_
     rintro e w' ⟨rfl, hb⟩
     exact ⟨⟨none, 0, none, 0, rfl, by simpa [strV] using World.ownsRow_nil _ _ _ _, by simpa [intV] using World.ownsRow_nil _ _ _ _⟩, hb⟩
   · refine (readNo r0 r1 f1 f2 s w0 hp hr (by omega) w hm.max).mono ?_
     rintro e w' ⟨rfl, hb⟩
     rw [readP_len (by simp; omega)]
     exact ⟨rfl, hb⟩
  | cons x l =>
   exact readPos r0 r1 f1 f2 s w0 (x :: l) hp (fun y hy => by have := hz y (List.mem_cons_of_mem _ hy); omega) hr (by simp at hl ⊢; omega) (by simp) w hm
end
/- Walk of isLine at any text. Condition: the library's MaxLen stands in its variable. -/
section
open Go.RowKit Go.Maps
/-- Is a text a line? -/
def isLn (s : ByteArray) : Bool := decide (s.size ≤ 60) && ((parts s).all (fun x => decide (x ≠ ByteArray.empty)) && s.data.toList.all (fun b => !odd8 b))
set_option maxRecDepth 100000 in
set_option maxHeartbeats 1000000 in
theorem lineAny (s : ByteArray) (w : World) (hm : MaxL w) :
 Calls Tryz.prog 94 #[.string s] w fun e w' => e = .returned (.bool (isLn s)) ∧ Below w.heap.size w w' := by
 by_cases h60 : s.size ≤ 60
 · have hfew := parts_few s
   have HP := hid (parts_parts (s := s) (by omega) w hm)
   have HL := hid (show (parts s).length ≤ 1000000 by omega)
   obtain ⟨q, hq⟩ : ∃ q : Bool, (q = true ↔ ByteArray.empty ∈ parts s) := by
    by_cases h : ByteArray.empty ∈ parts s
    · exact ⟨true, by simp [h]⟩
    · exact ⟨false, by simp [h]⟩
   have HH := hid (strHas (some ⟨w.heap.size, 0, none⟩) (parts s).length (parts s).length (parts s) ByteArray.empty q (w.alloc (.cells (strV (parts s)).toArray 9)) (by have := Sl.new w (strV (parts s)).toArray 9 (n := (parts s).length) (by simp [strV]) HL.out; simpa using this) hq)
   obtain ⟨z, hz⟩ : ∃ z : Bool, z = s.data.toList.any odd8 := ⟨_, rfl⟩
   have HBY := hid fun (W : World) A c (hs : Sl W A s.size c (u8V s.data.toList)) => byteAny A s.size c (u8V s.data.toList) _ z W hs (u8_line W s.data.toList) (by
    rw [hz, List.any_eq_true]
    constructor
    · rintro ⟨b, hb, ho⟩
      obtain ⟨i, hi, rfl⟩ := List.getElem_of_mem hb
      exact ⟨i, by simpa using hi, by rw [List.getElem?_eq_getElem hi]; exact ho⟩
    · rintro ⟨i, hi, h⟩
      have hx : s.data.toList[i]? = some (s.data.toList[i]'(by simpa using hi)) := List.getElem?_eq_getElem _
      rw [hx] at h
      exact ⟨_, List.getElem_mem _, h⟩)
   have hcb := fun (W : World) => run_bytes_of_string (P := Tryz.prog) W 9 105 5 s Tryz.underlying9 Tryz.underlying105 Tryz.underlying5
   have h61 : (s.size : Int) ≤ 60 := by omega
   have HIL := hid (show isLn s = (!q && !z) by
    unfold isLn
    rw [decide_eq_true h60, Bool.true_and, hz]
    congr 1
    · rw [Bool.eq_iff_iff, Bool.not_eq_true', ← Bool.not_eq_true, hq]
      simp only [List.all_eq_true, decide_eq_true_eq]
      exact ⟨fun h hm => h _ hm rfl, fun h x hx e => h (e ▸ hx)⟩
    · rw [List.all_eq_not_any_not]; simp)
   generalize parts s = l at *
   clear hfew hq hz hm
   go_enter Tryz.func94, Tryz.ntmps94
   go_wp2_with fail
   refine (HP.out).mono ?_; rintro e w1 ⟨rfl, rfl⟩
   go_wp2_with fail
   refine (HH.out).mono ?_; rintro e w1 ⟨rfl, rfl⟩
   have HB1 := hid ((Below.refl w.heap.size w).alloc (Nat.le_refl _) (.cells (strV l).toArray 9))
   cases q with
   | true =>
    go_wp2
    go_ret
    exact ⟨by rw [HIL.out]; rfl, HB1.out⟩
   | false =>
    go_wp2_with fail
    have hg1 := grownCap_ge (w.alloc (.cells (strV l).toArray 9)) s.size 0 5
    have hg2 := grownCap_le_maxLen (w.alloc (.cells (strV l).toArray 9)) s.size 0 5 (by unfold maxLen; omega)
    generalize grownCap (w.alloc (.cells (strV l).toArray 9)) s.size 0 5 = C at *
    have HW := hid ((((Below.refl w.heap.size w).alloc (Nat.le_refl _) (.cells (strV l).toArray 9)).alloc (by simp) (.cells (bytesRow s C) 5 ((bytesRow s C).size, (bytesRow s C).size + 1))).drew)
    have HS1 := hid (bytes_sl (w.alloc (.cells (strV l).toArray 9)) s C 5 ((bytesRow s C).size, (bytesRow s C).size + 1) hg1 hg2).drew
    have hsz : (w.alloc (.cells (strV l).toArray 9)).heap.size = w.heap.size + 1 := by simp
    rw [hsz] at HS1
    clear hg1 hg2 hsz hcb
    refine (HBY.out _ _ _ HS1.out).mono ?_; rintro e w1 ⟨rfl, rfl⟩
    go_wp2
    go_ret
    exact ⟨by rw [HIL.out]; rfl, HW.out⟩
 · have h61 : ¬ (s.size : Int) ≤ 60 := by omega
   have HIL := hid (show isLn s = false by unfold isLn; rw [decide_eq_false h60, Bool.false_and])
   have HB := hid (Below.refl w.heap.size w)
   clear hm h60
   go_enter Tryz.func94, Tryz.ntmps94
   go_wp2
   go_ret
   exact ⟨by rw [HIL.out]; rfl, HB.out⟩
end
end Go.Proofs.YtnibidmlkbcfkaaGreatDoor
