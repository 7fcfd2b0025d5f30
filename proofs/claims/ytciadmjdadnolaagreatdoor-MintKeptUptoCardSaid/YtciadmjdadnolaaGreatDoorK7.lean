/- Texts of this proof, one behind the other; each says its condition at its head. -/
import Derived.Test.YtciadmjdadnolaaGreatDoorK6
import Derived.Lib.AtoiAllCases
import Derived.Lib.AppendIntMem
import Derived.Lib.LaidTab
/- Walk of a rule's read, at a rule that has names alone. Conditions: the text's parts are known, and are names; the library's MaxLen stands in its variable. -/
namespace Go.Proofs.YtciadmjdadnolaaGreatDoor
open Go.RowKit Go.Maps
/-- A name: one to eight small letters. -/
def IsNm (x : ByteArray) : Prop := (∀ i (h : i < x.size), notLow (x[i]'h) = false) ∧ 0 < x.size ∧ x.size ≤ 8
theorem Sl.grown {w w' : World} {b o n c : Nat} {xs : List Value} {row : Option Nat} (h : Sl w (some ⟨b, o, none⟩) n c xs) (hg : w.grownBy w' row) (hb : row ≠ some b) : Sl w' (some ⟨b, o, none⟩) n c xs :=
 ⟨h.len, h.cap, h.capm, fun hn => by
  obtain ⟨b', o', e, hl, hc⟩ := h.pos hn
  cases e
  exact ⟨b, o, rfl, Nat.lt_of_lt_of_le hl hg.size, fun j u hu => (World.cell?_of_block (a := ⟨b, o + j, none⟩) (hg.block b hl (fun e => hb e.symm))).trans (hc j u hu)⟩⟩
/-- What stands while the names are read: d of them. -/
structure RdS (w W : World) (rb lb d : Nat) (R : Array Value) (v : Value) (l : List ByteArray) : Prop where
 rule : Blk W rb 88 R
 line : Blk W lb 91 #[v, .slice none 0 0]
 own : W.ownsRow (w.heap.size + 3) 9 1 v d (strV (l.take d))
 words : Sl W (some ⟨w.heap.size + 2, 1, none⟩) l.length l.length (strV l)
 big : w.heap.size + 3 ≤ W.heap.size
 low : Below w.heap.size w W
 hr : w.heap.size ≤ rb
 hl : w.heap.size ≤ lb
 hl2 : lb < w.heap.size + 2
section
variable {w W W' : World} {rb lb d : Nat} {R : Array Value} {v : Value} {l : List ByteArray}
theorem RdS.below (h : RdS w W rb lb d R v l) (hb : Below W.heap.size W W') : RdS w W' rb lb d R v l :=
 ⟨h.rule.keep hb, h.line.keep hb, own_below h.own hb, h.words.below hb, Nat.le_trans h.big hb.size, below_call h.low hb h.low.size, h.hr, h.hl, h.hl2⟩
theorem RdS.push {v1 : Value} {x : ByteArray} (h : RdS w W rb lb d R v l) (hx : l[d]? = some x) (ho : W'.ownsRow (w.heap.size + 3) 9 1 v1 (d + 1) (strV (l.take d) ++ [.string x])) (hg : (W.alloc (.cells #[.string x] 9)).grownBy W' v.ownBlock) :
 Blk W' lb 91 #[v, .slice none 0 0] ∧ RdS w (W'.setCell ⟨lb, 0, none⟩ v1) rb lb (d + 1) R v1 l := by
 have hl := (h.line.alloc (.cells #[.string x] 9)).grown hg (own_ne_blk h.own h.line (by decide))
 have hr := (h.rule.alloc (.cells #[.string x] 9)).grown hg (own_ne_blk h.own h.rule (by decide))
 have hlow := below_push h.low h.own hg h.low.size (by omega)
 have hw := (h.words.alloc (.cells #[.string x] 9)).grown hg (fun e => by have := (h.own.lt _ e).1; omega)
 have hw2 := hw.grown (setGrown W' ⟨lb, 0, none⟩ v1) (by have := h.hl2; simp; omega)
 refine ⟨hl, hr.far (p := ⟨lb, 0, none⟩) (blk_neM hr hl (by decide)) _, hl.set 0 v1, ?_, hw2, ?_, hlow.setCell (p := ⟨lb, 0, none⟩) h.hl _, h.hr, h.hl, h.hl2⟩
 rotate_left
 · have := hg.size; have := h.big; simp at *; omega
 have e : strV (l.take (d + 1)) = strV (l.take d) ++ [.string x] := by unfold strV; rw [List.take_add_one, hx]; simp
 rw [e]
 exact own_grown ho hl (by decide) (setGrown W' ⟨lb, 0, none⟩ v1)
end
theorem Sl.drop1 {w : World} {b n : Nat} {x : Value} {xs : List Value} (h : Sl w (some ⟨b, 0, none⟩) (n + 1) (n + 1) (x :: xs)) : Sl w (some ⟨b, 1, none⟩) n n xs :=
 ⟨by have := h.len; simpa using this, Nat.le_refl _, by have := h.capm; omega, fun _ => by
  obtain ⟨b', o, e, hb, hc⟩ := h.pos (by omega)
  cases e
  exact ⟨b, 1, rfl, hb, fun j u hu => by have := hc (j + 1) u (by simpa using hu); rwa [show 0 + (j + 1) = 1 + j by omega] at this⟩⟩
set_option maxRecDepth 100000 in
set_option maxHeartbeats 4000000 in
theorem readNames (r0 : Nat) (f1 f2 : Value) (s w0 : ByteArray) (l : List ByteArray) (hp : Parts s (w0 :: l)) (hlen : l.length = r0) (hnm : ∀ x ∈ l, IsNm x) (hr : r0 ≤ 100) (hpos : 0 < r0) (w : World) (hm : MaxL w) :
 Calls Tryz.prog 42 #[.agg #[.int .i64 (r0 : Nat), .int .i64 0, f1, f2], .string s] w fun e w' => ∃ A c, e = .returned (.tuple #[.agg #[.slice A r0 c, .slice none 0 0], .bool true]) ∧ w'.ownsRow w.heap.size 9 1 (.slice A r0 c) r0 (strV l) ∧ Below w.heap.size w w' := by
 have HM := hid hm
 have HP := hid hp
 have HNM := hid hnm
 have HLEN := hid hlen
 clear hm hp hnm hlen
 go_enter Tryz.func42, Tryz.ntmps42
 have b2 : Below w.heap.size w ((w.alloc (.cells #[.int .i64 (r0 : Nat), .int .i64 0, f1, f2] 88)).alloc (.cells #[.slice none 0 0, .slice none 0 0] 91)) := ((Below.refl _ w).alloc (Nat.le_refl _) _).alloc (by simp) _
 have HP2 := hid (HP.out _ (HM.out.keep b2))
 have hsz2 : ((w.alloc (.cells #[.int .i64 (r0 : Nat), .int .i64 0, f1, f2] 88)).alloc (.cells #[.slice none 0 0, .slice none 0 0] 91)).heap.size = w.heap.size + 2 := by simp
 have S3 := hid (show Sl (((w.alloc (.cells #[.int .i64 (r0 : Nat), .int .i64 0, f1, f2] 88)).alloc (.cells #[.slice none 0 0, .slice none 0 0] 91)).alloc (.cells (strV (w0 :: l)).toArray 9)) (some ⟨w.heap.size + 2, 0, none⟩) (r0 + 1) (r0 + 1) (strV (w0 :: l)) from by
  have := Sl.new ((w.alloc (.cells #[.int .i64 (r0 : Nat), .int .i64 0, f1, f2] 88)).alloc (.cells #[.slice none 0 0, .slice none 0 0] 91)) (strV (w0 :: l)).toArray 9 (n := r0 + 1) (by simp [strV, HLEN.out]) (by omega)
  rw [hsz2] at this
  simpa using this)
 have S4 := hid (show Sl (((w.alloc (.cells #[.int .i64 (r0 : Nat), .int .i64 0, f1, f2] 88)).alloc (.cells #[.slice none 0 0, .slice none 0 0] 91)).alloc (.cells (strV (w0 :: l)).toArray 9)) (some ⟨w.heap.size + 2, 0, none⟩) (r0 + 1) (r0 + 1) (.string w0 :: strV l) from S3.out).drop1
 have R3 := hid (show RdS w (((w.alloc (.cells #[.int .i64 (r0 : Nat), .int .i64 0, f1, f2] 88)).alloc (.cells #[.slice none 0 0, .slice none 0 0] 91)).alloc (.cells (strV (w0 :: l)).toArray 9)) w.heap.size (w.heap.size + 1) 0 #[.int .i64 (r0 : Nat), .int .i64 0, f1, f2] (.slice none 0 0) l from
  ⟨((Blk.new w _ _).alloc _).alloc _, (Blk.new_at _ _ _ (by simp)).alloc _, World.ownsRow_nil _ _ _ _, by rw [HLEN.out]; exact S4, by simp, b2.alloc b2.size _, Nat.le_refl _, by omega, by omega⟩)
 have hl1 : (w0 :: l).length = r0 + 1 := by simp [HLEN.out]
 rw [hl1, hsz2] at HP2
 clear b2 S3 S4 hsz2 hl1
 go_wp2_with fail
 refine (HP2.out).mono ?_; rintro e w1 ⟨rfl, rfl⟩
 clear HP2
 generalize (((w.alloc (.cells #[.int .i64 (r0 : Nat), .int .i64 0, f1, f2] 88)).alloc (.cells #[.slice none 0 0, .slice none 0 0] 91)).alloc (.cells (strV (w0 :: l)).toArray 9)) = W at *
 have a0 := R3.out.rule.cell 0
 have a1 := R3.out.rule.cell 1
 simp only [List.getElem?_toArray, List.getElem?_cons_zero, List.getElem?_cons_succ] at a0 a1
 have hne : ¬ r0 = 0 := by omega
 clear HM HP
 go_wp2
 clear a0 a1
 go_loopg [25] r0 (fun gk i wr => ∃ (d : Nat) (v : Value), gk + d = r0 ∧ i = .int .i64 d ∧ Hid (RdS w wr w.heap.size (w.heap.size + 1) d #[.int .i64 (r0 : Nat), .int .i64 0, f1, f2] v l))
 case atStart => exact ⟨0, _, by omega, rfl, R3⟩
 case round =>
  obtain ⟨d, v, hd, rfl, HR⟩ := hrel
  have HD := hid hd
  by_cases hlt : d < r0
  · have HLT := hid hlt
    obtain ⟨b, o, u, hbo, lb, e1, ca⟩ := HR.out.words.at (show d < l.length by rw [HLEN.out]; exact hlt)
    cases hbo
    obtain ⟨x, hx, rfl⟩ := Option.map_eq_some_iff.1 (show (l[d]?).map Value.string = some u by rw [← List.getElem?_map]; exact e1)
    have HX := hid hx
    obtain ⟨n1, n2, n3⟩ := HNM.out x (List.mem_of_getElem? hx)
    have HNF := hid (nameF x true wr ⟨fun _ => ⟨n1, n2, n3⟩, fun _ => rfl⟩ (by omega))
    have a0 := HR.out.rule.cell 0
    simp only [List.getElem?_toArray, List.getElem?_cons_zero] at a0
    clear hd e1 hx lb n1 n2 n3
    go_wp2_with fail
    refine (HNF.out).mono ?_; rintro e w5 ⟨rfl, b5⟩
    have HR5 := hid (HR.out.below b5)
    have l0 := HR5.out.line.cell 0
    simp only [List.getElem?_toArray, List.getElem?_cons_zero] at l0
    obtain ⟨A5, c5, rfl⟩ := own_form HR5.out.own
    clear b5 a0 ca
    go_wp2_with (at_builtin; refine push1P TS22 w5 #[.string x] (w.heap.size + 3) _ _ _ HR5.out.own _ _ w5.heap.size rfl rfl rfl rfl rfl rfl (by simp [Value.oneCell']) (by omega) (by omega) HR5.out.big ?_; intro v1 w8 hown1 hgr; obtain ⟨A8, c8, rfl⟩ := own_form hown1; have HPU := HR5.out.push HX.out hown1 hgr; have l8 := HPU.1.cell 0; have f8 := HPU.1.free 0; have HR8 := hid HPU.2; simp only [List.getElem?_toArray, List.getElem?_cons_zero] at l8; clear hown1 hgr HPU)
    go_roundg (gk - 1)
    case measure => have := HD.out; have := HLT.out; omega
    case rel => exact ⟨d + 1, _, by have := HD.out; have := HLT.out; omega, by go_num, HR8⟩
  · obtain rfl : d = r0 := by have := HD.out; omega
    obtain ⟨A5, c5, rfl⟩ := own_form HR.out.own
    have l0 := HR.out.line.cell 0
    have l1 := HR.out.line.cell 1
    have g0 := HR.out.line.free 0
    have g1 := HR.out.line.free 1
    simp only [List.getElem?_toArray, List.getElem?_cons_zero, List.getElem?_cons_succ] at l0 l1
    have HE := hid ((HR.out.line.set 0 (.slice A5 d c5)).set 1 (.slice none 0 0))
    have HO := hid (own_grown (own_grown HR.out.own HR.out.line (by decide) (setGrown wr ⟨w.heap.size + 1, 0, none⟩ (.slice A5 d c5))) (HR.out.line.set 0 (.slice A5 d c5)) (by decide) (setGrown _ ⟨w.heap.size + 1, 1, none⟩ (.slice none 0 0)))
    have HL := hid ((HR.out.low.setCell (p := ⟨w.heap.size + 1, 0, none⟩) (by simp) (.slice A5 d c5)).setCell (p := ⟨w.heap.size + 1, 1, none⟩) (by simp) (.slice none 0 0))
    have htk : l.take d = l := List.take_of_length_le (by have := HLEN.out; omega)
    rw [htk] at HO
    clear hd hlt htk
    go_wp2
    exact bodyPost_ret (results_row_tmp rfl _ _ (w.heap.size + 1) 91 #[.slice A5 d c5, .slice none 0 0] (0, 0) _ rfl HE.out Tryz.underlying91 rfl (by kernel_rfl)) rfl ⟨A5, c5, rfl, own_more HO.out (by omega), HL.out⟩
set_option maxRecDepth 100000 in
set_option maxHeartbeats 4000000 in
theorem readBare (f1 f2 : Value) (s w0 : ByteArray) (hp : Parts s [w0]) (w : World) (hm : MaxL w) :
 Calls Tryz.prog 42 #[.agg #[.int .i64 0, .int .i64 0, f1, f2], .string s] w fun e w' => e = .returned (.tuple #[.agg #[.slice none 0 0, .slice none 0 0], .bool true]) ∧ Below w.heap.size w w' := by
 have b2 : Below w.heap.size w ((w.alloc (.cells #[.int .i64 0, .int .i64 0, f1, f2] 88)).alloc (.cells #[.slice none 0 0, .slice none 0 0] 91)) := ((Below.refl _ w).alloc (Nat.le_refl _) _).alloc (by simp) _
 have HP2 := hid (hp _ (hm.keep b2))
 have hsz2 : ((w.alloc (.cells #[.int .i64 0, .int .i64 0, f1, f2] 88)).alloc (.cells #[.slice none 0 0, .slice none 0 0] 91)).heap.size = w.heap.size + 2 := by simp
 have HLO := hid (b2.alloc b2.size (.cells (strV [w0]).toArray 9))
 have HRU := hid (((Blk.new w 88 #[.int .i64 0, .int .i64 0, f1, f2]).alloc (.cells #[.slice none 0 0, .slice none 0 0] 91)).alloc (.cells (strV [w0]).toArray 9))
 have HLI := hid ((Blk.new_at (w.alloc (.cells #[.int .i64 0, .int .i64 0, f1, f2] 88)) 91 #[.slice none 0 0, .slice none 0 0] (n := w.heap.size + 1) (by simp)).alloc (.cells (strV [w0]).toArray 9))
 rw [hsz2] at HP2
 clear b2 hsz2 hp hm
 go_enter Tryz.func42, Tryz.ntmps42
 go_wp2_with fail
 refine (HP2.out).mono ?_; rintro e w1 ⟨rfl, rfl⟩
 clear HP2
 generalize (((w.alloc (.cells #[.int .i64 0, .int .i64 0, f1, f2] 88)).alloc (.cells #[.slice none 0 0, .slice none 0 0] 91)).alloc (.cells (strV [w0]).toArray 9)) = W at *
 have a0 := HRU.out.cell 0
 have a1 := HRU.out.cell 1
 have l0 := HLI.out.cell 0
 have l1 := HLI.out.cell 1
 have g0 := HLI.out.free 0
 have g1 := HLI.out.free 1
 simp only [List.getElem?_toArray, List.getElem?_cons_zero, List.getElem?_cons_succ] at a0 a1 l0 l1
 have HE := hid ((HLI.out.set 0 (.slice none 0 0)).set 1 (.slice none 0 0))
 have HL := hid ((HLO.out.setCell (p := ⟨w.heap.size + 1, 0, none⟩) (by simp) (.slice none 0 0)).setCell (p := ⟨w.heap.size + 1, 1, none⟩) (by simp) (.slice none 0 0))
 go_wp2
 go_loopg [25] 1 (fun gk i wr => gk = 1 ∧ i = .int .i64 0 ∧ W = wr)
 case atStart => exact ⟨rfl, rfl, rfl⟩
 case round =>
  obtain ⟨hg, rfl, hw⟩ := hrel
  subst hw
  go_wp2
  exact bodyPost_ret (results_row_tmp rfl _ _ (w.heap.size + 1) 91 #[.slice none 0 0, .slice none 0 0] (0, 0) _ rfl HE.out Tryz.underlying91 rfl (by kernel_rfl)) rfl ⟨rfl, HL.out⟩
end Go.Proofs.YtciadmjdadnolaaGreatDoor
/- Plain law of a rule's read, at any text: its names and its numbers; and what the shelf says of Atoi and Itoa there. -/
namespace Go.Proofs.YtciadmjdadnolaaGreatDoor
open Go.RowKit Go.Maps
/-- A text between its blanks. -/
def parts (s : ByteArray) : List ByteArray := Lib.splitB ⟨#[32]⟩ 0 (Lib.countB s ⟨#[32]⟩) s
theorem parts_len (s : ByteArray) : (parts s).length = Lib.countB s ⟨#[32]⟩ + 1 := Lib.splitB_all _ (by decide) 0 _ s rfl
theorem parts_parts {s : ByteArray} (hs : s.size < 4294967281) : Parts s (parts s) := parts_of hs rfl (parts_len s).symm
theorem splitB_size (sep : ByteArray) : ∀ (k : Nat) (s : ByteArray), ∀ x ∈ Lib.splitB sep 0 k s, x.size ≤ s.size
 | 0, s, x, hx => by simp [Lib.splitB_zero] at hx; rw [hx]; exact Nat.le_refl _
 | k + 1, s, x, hx => by
  rcases Lib.indexB_cases s sep with hix | ⟨i, hix, hroom⟩
  · rw [Lib.splitB_miss _ _ _ _ hix] at hx; simp at hx; rw [hx]; exact Nat.le_refl _
  · rw [Lib.splitB_hit _ _ _ _ i hix] at hx
    rcases List.mem_cons.1 hx with rfl | hx
    · rw [ByteArray.size_extract]; omega
    · have := splitB_size sep k _ x hx
      rw [ByteArray.size_extract] at this
      omega
theorem parts_size {s x : ByteArray} (h : x ∈ parts s) : x.size ≤ s.size := splitB_size _ _ s x h
theorem parts_few (s : ByteArray) : (parts s).length ≤ s.size + 1 := by
 rw [parts_len]
 have := Lib.countB_le ⟨#[32]⟩ (by decide) s.size s (Nat.le_refl _)
 omega
def isNm (x : ByteArray) : Bool := x.data.toList.all (fun b => !notLow b) && (decide (0 < x.size) && decide (x.size ≤ 8))
theorem isNm_iff (x : ByteArray) : isNm x = true ↔ IsNm x := by
 unfold isNm IsNm
 simp only [Bool.and_eq_true, decide_eq_true_eq, List.all_eq_true, Bool.not_eq_true']
 constructor
 · rintro ⟨h1, h2, h3⟩
   exact ⟨fun i h => h1 _ (by rw [ByteArray.getElem_eq_getElem_data]; exact Array.getElem_mem_toList _), h2, h3⟩
 · rintro ⟨h1, h2, h3⟩
   refine ⟨fun b hb => ?_, h2, h3⟩
   obtain ⟨i, hi, rfl⟩ := List.getElem_of_mem hb
   have := h1 i (by simpa using hi)
   rw [ByteArray.getElem_eq_getElem_data] at this
   simpa using this
/-- The number that a word is: as strconv.Itoa writes it, three digits at most. -/
def numOf (x : ByteArray) : Option Nat :=
 match Lib.atoiAll x.data.toList with
 | .ok v => if 0 ≤ v ∧ x.size ≤ 3 ∧ (⟨(Lib.itoa v).toArray⟩ : ByteArray) = x then some v.toNat else none
 | _ => none
def numV (x : ByteArray) : Int := ((numOf x).getD 0 : Nat)
theorem numOf_ok {x : ByteArray} {v : Int} (h : Lib.atoiAll x.data.toList = .ok v) : numOf x = if 0 ≤ v ∧ x.size ≤ 3 ∧ (⟨(Lib.itoa v).toArray⟩ : ByteArray) = x then some v.toNat else none := by
 unfold numOf; rw [h]
theorem numOf_no {x : ByteArray} (h : ∀ v, Lib.atoiAll x.data.toList ≠ .ok v) : numOf x = none := by
 unfold numOf
 split
 · rename_i v hv; exact absurd hv (h v)
 · rfl
theorem numOf_lt {x : ByteArray} {n : Nat} (h : numOf x = some n) : n < 1000 := by
 unfold numOf at h
 split at h
 · rename_i v hv
   split at h
   · rename_i hc
     obtain ⟨h0, h3, he⟩ := hc
     cases h
     obtain ⟨k, rfl⟩ : ∃ k : Nat, v = k := ⟨v.toNat, by omega⟩
     rw [Lib.itoa_nonneg] at he
     have hs : x.size = (Lib.decDigits k).length := by rw [← he]; simp [ByteArray.size]
     rw [Lib.decDigits_length] at hs
     have h1 := Lib.lt_pow_nDigits k
     have h2 : (10 : Nat) ^ Lib.nDigits k ≤ 10 ^ 3 := Nat.pow_le_pow_right (by omega) (by omega)
     simp
     omega
   · cases h
 · cases h
theorem numV_lt (x : ByteArray) : 0 ≤ numV x ∧ numV x < 1000 := by
 unfold numV
 cases h : numOf x with
 | none => simp
 | some n => have := numOf_lt h; simp; omega
/-- What a rule reads behind a text's first word. -/
def readP (r0 r1 : Nat) (l : List ByteArray) : Option (List ByteArray × List Int) :=
 if l.length = r0 + r1 ∧ (l.take r0).all isNm = true ∧ (l.drop r0).all (fun x => (numOf x).isSome) = true then some (l.take r0, (l.drop r0).map numV) else none
theorem tab_keep {n : String} {g : Nat} {k : IntKind} {zs : List Int} {w w' : World} (hg : Tryz.prog.globalNamed n = some g) (h : Lib.TabIs Tryz.prog w n k zs) (hb : Below w.heap.size w w') : Lib.TabIs Tryz.prog w' n k zs := by
 unfold Lib.TabIs World.var? at h ⊢
 rw [hg] at h ⊢
 simp only [Option.bind_some] at h ⊢
 have hlt : g < w.heap.size := by
  rcases Nat.lt_or_ge g w.heap.size with h' | h'
  · exact h'
  · rw [Array.getElem?_eq_none h'] at h; cases h
 rw [hb.block g hlt]
 exact h
/-- The variables that the library's numbers ask. -/
structure EnvN (w : World) : Prop where
 max : MaxL w
 tab : Lib.TabIs Tryz.prog w "internal/strconv.uint64pow10" .u64 Lib.pow10Tab
 syn : ∃ ev, w.cell? ⟨1, 0, none⟩ = some ev ∧ (ev = .nilIface ∨ ∃ te pe, ev = .iface te pe)
 rng : ∃ ev, w.cell? ⟨2, 0, none⟩ = some ev ∧ (ev = .nilIface ∨ ∃ te pe, ev = .iface te pe)
theorem gPow : Tryz.prog.globalNamed "internal/strconv.uint64pow10" = some 3 := by kernel_rfl
theorem EnvN.keep {w w' : World} (h : EnvN w) (hb : Below w.heap.size w w') : EnvN w' :=
 ⟨h.max.keep hb, tab_keep gPow h.tab hb, by obtain ⟨v, h1, h2⟩ := h.syn; exact ⟨v, cell_keep hb h1, h2⟩, by obtain ⟨v, h1, h2⟩ := h.rng; exact ⟨v, cell_keep hb h1, h2⟩⟩
theorem atoiAny (x : ByteArray) (hx : x.size ≤ 1000000000) (w : World) (h : EnvN w) :
 Calls Tryz.prog 57 #[.string x] w fun e w' => ∃ (v : Int) (r : Value), e = .returned (.tuple #[.int .i64 v, r]) ∧ ((r = .nilIface ∧ Lib.atoiAll x.data.toList = .ok v) ∨ (∃ N, r = .iface 190 (.pointer (some ⟨N, 0, none⟩)) ∧ numOf x = none)) ∧ Below w.heap.size w w' := by
 cases ha : Lib.atoiAll x.data.toList with
 | ok v =>
  refine (sh_strconv_Atoi_ok x (by omega) v ha w).mono ?_
  rintro e w' ⟨rfl, hw⟩
  refine ⟨v, _, rfl, .inl ⟨rfl, rfl⟩, ?_⟩
  rcases hw with rfl | ⟨t, rfl⟩
  · exact Below.refl _ _
  · exact Lib.bytesWorld_below _ _ _
 | range =>
  obtain ⟨ev, h1, h2⟩ := h.rng
  refine (sh_strconv_Atoi_range x (by omega) ha ev w h1 h2).mono ?_
  rintro e w' ⟨N, rfl, _, _, hb⟩
  exact ⟨_, _, rfl, .inr ⟨N, rfl, numOf_no (fun v hv => by rw [ha] at hv; cases hv)⟩, hb⟩
 | _ =>
  obtain ⟨ev, h1, h2⟩ := h.syn
  refine (sh_strconv_Atoi_syntax x (by omega) ha (fun v hv => by cases hv) (fun hv => by cases hv) ev w h1 h2).mono ?_
  rintro e w' ⟨N, rfl, _, _, hb⟩
  exact ⟨_, _, rfl, .inr ⟨N, rfl, numOf_no (fun v hv => by rw [ha] at hv; cases hv)⟩, hb⟩
theorem itoaAny (v : Int) (h0 : 0 ≤ v) (h1 : v ≤ 9223372036854775807) (w : World) (h : EnvN w) :
 Calls Tryz.prog 58 #[.int .i64 v] w fun e w' => e = .returned (.string ⟨(Lib.itoa v).toArray⟩) ∧ Below w.heap.size w w' := by
 refine (sh_strconv_Itoa v (by omega) h1 w h.tab).mono ?_
 rintro e w' ⟨rfl, k, os, rfl⟩
 exact ⟨rfl, Lib.below_grow _ w (Nat.le_refl _) k os⟩
end Go.Proofs.YtciadmjdadnolaaGreatDoor
