/- Texts of this proof, one behind the other; each says its condition at its head. -/
import Derived.Test.YtnibidmlkbcfkaaGreatDoorT10
namespace Go.Proofs.YtnibidmlkbcfkaaGreatDoor
/- Walk of the copies' entry: that with the greatest mark of those in reach. Condition: the copies lie in memory. -/
section
open Go.RowKit Go.Maps
def eM (o : Option (Int × ByteArray)) : Int := (o.getD (0, ByteArray.empty)).1
def eT (o : Option (Int × ByteArray)) : ByteArray := (o.getD (0, ByteArray.empty)).2
/-- The best of the first copies. -/
def betF (C : List Cp) (i d : Nat) : Option (Int × ByteArray) := ((entsOn C).take d).foldl (fun o e => betE o (e i)) none
theorem betF_succ {C : List Cp} {i d : Nat} {c : Cp} (h : (onC C)[d]? = some c) : betF C i (d + 1) = betE (betF C i d) (c.ent i) := by
 unfold betF
 have h2 : (entsOn C)[d]? = some c.ent := by
  rw [← onC_ents, List.getElem?_map, h]
  rfl
 rw [List.take_add_one, List.foldl_append, h2]
 rfl
theorem betF_all {C : List Cp} {i d : Nat} (h : reachN C ≤ d) : betF C i d = bestE (entsOn C) i := by
 unfold betF bestE
 rw [List.take_of_length_le]
 rw [← onC_ents, List.length_map, onC_len]
 exact h
theorem ptrs_at {l : List Nat} {d : Nat} {u : Value} (h : (ptrs l)[d]? = some u) : ∃ b, l[d]? = some b ∧ u = .pointer (some ⟨b, 0, none⟩) := by
 unfold ptrs at h
 rw [List.getElem?_map] at h
 obtain ⟨b, hb, rfl⟩ := Option.map_eq_some_iff.1 h
 exact ⟨b, hb, rfl⟩
set_option maxRecDepth 100000 in
set_option maxHeartbeats 4000000 in
theorem entryF (A : Option Addr) (n c i : Nat) (L : List (Nat × Nat)) (C : List Cp) (w : World) (hn : n ≤ 1000) (hi : i < 1000) (hs : Sl w A n c (ptrs (onB L C))) (hc : CpsM w L C) :
 Calls Tryz.prog 88 #[.slice A n c, .int .i64 (i : Nat)] w fun x w' => x = .returned (.tuple #[.agg #[.int .i64 (eM (bestE (entsOn C) i)), .string (eT (bestE (entsOn C) i))], .bool (bestE (entsOn C) i).isSome]) ∧ Below w.heap.size w w' := by
 have HS := hid hs
 have HN := hid hc
 have HL := hid (show (onB L C).length = n by have := hs.len; simpa [ptrs] using this)
 have HR := hid (show reachN C = n by rw [← onB_len hc.len]; exact HL.out)
 clear hs hc
 go_enter Tryz.func88, Tryz.ntmps88
 go_wp2
 go_loopg [7, 14] n (fun gk v t wr => ∃ d : Nat, gk + d = n ∧ t = .int .i64 d ∧ v = .bool (betF C i d).isSome ∧ Hid (Blk wr w.heap.size 141 #[.int .i64 0, .string ByteArray.empty]) ∧ Hid (Blk wr (w.heap.size + 1) 141 #[.int .i64 (eM (betF C i d)), .string (eT (betF C i d))]) ∧ Hid (Below w.heap.size w wr))
 case atStart => exact ⟨0, by omega, rfl, rfl, hid ((Blk.new w _ _).alloc _), hid (Blk.new_at _ _ _ (by simp)), hid (((Below.refl _ w).alloc (Nat.le_refl _) _).alloc (by simp) _)⟩
 case round =>
  obtain ⟨d, hd, rfl, rfl, HB4, HB6, HB⟩ := hrel
  have HD := hid hd
  by_cases hlt : d < n
  · have HLT := hid hlt
    obtain ⟨b, o, u, rfl, lb, e1, ca⟩ := (HS.out.below HB.out).at hlt
    obtain ⟨y, hy, rfl⟩ := ptrs_at e1
    obtain ⟨j, p, cc, q1, rfl, q3, q4, q5, _, _⟩ := onB_at id HN.out.len hy
    have hcp := (HN.out.below HB.out).cp j p cc q1 q3
    have c0 := hcp.blk.cell 0
    simp only [List.getElem?_toArray, List.getElem?_cons_zero] at c0
    have HSU := hid (betF_succ (i := i) q5)
    have hmm := @run_makeMap Tryz.prog
    cases he : cc.ent i with
    | none =>
     have HLK : (Instr.lookup 112 (.map (some p.2)) (.int .i64 (i : Int)) true).run Tryz.prog wr = .ok (.tuple #[.agg #[.int .i64 0, .string ByteArray.empty], .bool false]) wr := hcp.map.look_out (int_keyed Tryz.underlying3) Tryz.underlying112 (z := .agg #[.int .i64 0, .string ByteArray.empty]) (fun W => by kernel_rfl) (keyOf_int_mk Tryz.underlying3 (WalkArith.wf_i64 (by omega))) (show fX cc.ent (.int .i64 (i : Int)) = none by rw [fX_nat, he]; rfl) 0 true
     have H4 := hid (HB4.out.alloc (.cells #[.int .i64 0, .string ByteArray.empty] 141))
     have H6 := hid (HB6.out.alloc (.cells #[.int .i64 0, .string ByteArray.empty] 141))
     have HBB := hid (HB.out.alloc HB.out.size (.cells #[.int .i64 0, .string ByteArray.empty] 141))
     rw [he] at HSU
     have HE2 := hid (show betF C i (d + 1) = betF C i d from HSU.out)
     generalize betF C i d = bd at *
     clear hd e1 hy lb hcp he HSU q1 q3 q4 q5 hmm
     go_wp2
     go_roundg (gk - 1)
     case measure => have := HD.out; have := HLT.out; omega
     case rel => exact ⟨d + 1, by have := HD.out; have := HLT.out; omega, by go_num, by rw [HE2.out], H4, by rw [HE2.out]; exact H6, HBB⟩
    | some x =>
     have HLK : (Instr.lookup 112 (.map (some p.2)) (.int .i64 (i : Int)) true).run Tryz.prog wr = .ok (.tuple #[.agg #[.int .i64 x.1, .string x.2], .bool true]) wr := hcp.map.look_in (int_keyed Tryz.underlying3) Tryz.underlying112 (keyOf_int_mk Tryz.underlying3 (WalkArith.wf_i64 (by omega))) (show fX cc.ent (.int .i64 (i : Int)) = some (.agg #[.int .i64 x.1, .string x.2]) by rw [fX_nat, he]; rfl) 0 true
     have H4 := hid (HB4.out.alloc (.cells #[.int .i64 x.1, .string x.2] 141))
     have H6 := hid (HB6.out.alloc (.cells #[.int .i64 x.1, .string x.2] 141))
     have HBB := hid (HB.out.alloc HB.out.size (.cells #[.int .i64 x.1, .string x.2] 141))
     have H66 := hid (show Blk (((wr.alloc (.cells #[.int .i64 x.1, .string x.2] 141)).setCell ⟨w.heap.size + 1, 0, none⟩ (.int .i64 x.1)).setCell ⟨w.heap.size + 1, 1, none⟩ (.string x.2)) (w.heap.size + 1) 141 #[.int .i64 x.1, .string x.2] from (H6.out.set 0 (.int .i64 x.1)).set 1 (.string x.2))
     have H44 := hid ((H4.out.far (p := ⟨w.heap.size + 1, 0, none⟩) (by simp) (.int .i64 x.1)).far (p := ⟨w.heap.size + 1, 1, none⟩) (by simp) (.string x.2))
     have HBBB := hid ((HBB.out.setCell (p := ⟨w.heap.size + 1, 0, none⟩) (by simp) (.int .i64 x.1)).setCell (p := ⟨w.heap.size + 1, 1, none⟩) (by simp) (.string x.2))
     have c60 := H6.out.cell 0
     have c61 := H6.out.cell 1
     simp only [List.getElem?_toArray, List.getElem?_cons_zero, List.getElem?_cons_succ] at c60 c61
     have f60 := H6.out.free 0
     have f61 := H6.out.free 1
     rw [he] at HSU
     generalize hbd : betF C i d = bd at *
     clear hbd
     cases bd with
     | none =>
      simp only [eM, eT, Option.getD_none] at c60 c61
      have HE2 := hid (show betF C i (d + 1) = some x from HSU.out)
      clear hd e1 hy lb hcp he HSU q1 q3 q4 q5 hmm
      go_wp2
      go_roundg (gk - 1)
      case measure => have := HD.out; have := HLT.out; omega
      case rel => exact ⟨d + 1, by have := HD.out; have := HLT.out; omega, by go_num, by rw [HE2.out]; rfl, H44, by rw [HE2.out]; exact H66, HBBB⟩
     | some z =>
      simp only [eM, eT, Option.getD_some] at c60 c61
      by_cases hz : z.1 < x.1
      · have g1 : decide (z.1 < x.1) = true := decide_eq_true hz
        have HE2 := hid (show betF C i (d + 1) = some x from by rw [HSU.out]; simp only [betE, if_pos hz])
        clear hd e1 hy lb hcp he HSU q1 q3 q4 q5 hmm hz
        go_wp2
        go_roundg (gk - 1)
        case measure => have := HD.out; have := HLT.out; omega
        case rel => exact ⟨d + 1, by have := HD.out; have := HLT.out; omega, by go_num, by rw [HE2.out]; rfl, H44, by rw [HE2.out]; exact H66, HBBB⟩
      · have g1 : decide (z.1 < x.1) = false := decide_eq_false hz
        have HE2 := hid (show betF C i (d + 1) = some z from by rw [HSU.out]; simp only [betE, if_neg hz])
        clear hd e1 hy lb hcp he HSU q1 q3 q4 q5 hmm hz
        go_wp2
        go_roundg (gk - 1)
        case measure => have := HD.out; have := HLT.out; omega
        case rel => exact ⟨d + 1, by have := HD.out; have := HLT.out; omega, by go_num, by rw [HE2.out], H4, by rw [HE2.out]; exact H6, HBB⟩
  · obtain rfl : d = n := by have := HD.out; omega
    rw [betF_all (by rw [HR.out]; exact Nat.le_refl _)] at HB6 ⊢
    obtain ⟨be, hbe⟩ : ∃ be, be = bestE (entsOn C) i := ⟨_, rfl⟩
    rw [← hbe] at HB6 ⊢
    have HBEQ := hid hbe
    clear hbe
    have c60 := HB6.out.cell 0
    have c61 := HB6.out.cell 1
    have c40 := HB4.out.cell 0
    have c41 := HB4.out.cell 1
    simp only [List.getElem?_toArray, List.getElem?_cons_zero, List.getElem?_cons_succ] at c60 c61 c40 c41
    have z40 := HB4.out.free 0
    have z41 := HB4.out.free 1
    have HB4E := hid (show Blk ((wr.setCell ⟨w.heap.size, 0, none⟩ (.int .i64 (eM be))).setCell ⟨w.heap.size, 1, none⟩ (.string (eT be))) w.heap.size 141 #[.int .i64 (eM be), .string (eT be)] from (HB4.out.set 0 (.int .i64 (eM be))).set 1 (.string (eT be)))
    have HBE := hid ((HB.out.setCell (p := ⟨w.heap.size, 0, none⟩) (by simp) (.int .i64 (eM be))).setCell (p := ⟨w.heap.size, 1, none⟩) (by simp) (.string (eT be)))
    clear hd hlt
    go_wp2
    exact bodyPost_ret (results_row_tmp rfl _ _ w.heap.size 141 #[.int .i64 (eM be), .string (eT be)] (0, 0) _ rfl HB4E.out Tryz.underlying141 rfl (by kernel_rfl)) rfl ⟨by rw [← HBEQ.out]; rfl, HBE.out⟩
end
/- What stands while a mint is opened on copies that hold anything. No condition. -/
section
open Go.RowKit Go.Maps
theorem onB_away {L : List (Nat × Nat)} : ∀ {C C' : List Cp}, C.map (·.away) = C'.map (·.away) → onB L C = onB L C' := by
 induction L with
 | nil => intro C C' _; rfl
 | cons p L ih =>
  intro C C' h
  cases C with
  | nil => cases C' with
   | nil => rfl
   | cons c' C' => simp at h
  | cons c C =>
   cases C' with
   | nil => simp at h
   | cons c' C' =>
    simp only [List.map_cons, List.cons.injEq] at h
    cases hc : c.away with
    | true => rw [onB_cons_away hc, onB_cons_away (by rw [← h.1]; exact hc), ih h.2]
    | false => rw [onB_cons hc, onB_cons (by rw [← h.1]; exact hc), ih h.2]
theorem away_set {C : List Cp} {i : Nat} {c c' : Cp} (hc : C[i]? = some c) (h : c'.away = c.away) : (C.set i c').map (·.away) = C.map (·.away) := by
 rw [List.map_set, h]
 apply List.ext_getElem?
 intro j
 by_cases e : j = i
 · subst e
   have hl := (List.getElem?_eq_some_iff.1 hc).1
   rw [List.getElem?_set_self (by simpa using hl), List.getElem?_map, hc]
   rfl
 · rw [List.getElem?_set_ne (fun x => e x.symm)]
theorem onF_away (f : Cp → Cp) (hf : ∀ c, (f c).away = c.away) (d : Nat) (C : List Cp) : (onF f d C).map (·.away) = C.map (·.away) := by
 induction C generalizing d with
 | nil => cases d <;> rfl
 | cons c C ih =>
  cases d with
  | zero => rw [onF_zero]
  | succ d =>
   cases hc : c.away with
   | true => rw [onF_cons_away f _ hc, List.map_cons, List.map_cons, ih]
   | false => rw [onF_cons f d hc, List.map_cons, List.map_cons, ih, hf]
theorem onAll_away (f : Cp → Cp) (hf : ∀ c, (f c).away = c.away) (C : List Cp) : (onAll f C).map (·.away) = C.map (·.away) := by
 rw [← onF_all]
 exact onF_away f hf _ C
theorem reachN_away {C C' : List Cp} (h : C.map (·.away) = C'.map (·.away)) : reachN C = reachN C' := by
 have h1 : ∀ C : List Cp, reachN C = (C.map (·.away)).countP (fun b => !b) := fun C => by unfold reachN; rw [List.countP_map]; rfl
 rw [h1, h1, h]
/-- What stands while a mint is opened: its block, its books, its journal, its copies; and what was changed of what was there. -/
structure OpG (w W : World) (m sb n nr : Nat) (a r d : Value) (L : List (Nat × Nat)) (C : List Cp) (k : Int) (s : Bk) (J : List ByteArray) : Prop where
 mint : MintB W m a k sb d false
 st : ∃ G, StR W G sb s ∧ (∀ i, G i → w.heap.size ≤ i ∧ i < W.heap.size) ∧ (∀ g, d.ownBlock = some g → ¬ G g) ∧ ¬ G m
 don : W.ownsRow w.heap.size 9 1 d J.length (strV J)
 own1 : W.ownsRow w.heap.size 67 1 a n (ptrs (L.map (·.1)))
 own2 : W.ownsRow w.heap.size 67 1 r nr (ptrs (onB L C))
 cps : CpsM W L C
 chs : Chs (inL L) w W
 hm : w.heap.size ≤ m
 old : ∀ i, inL L i → i < w.heap.size
section
variable {w W W' : World} {m sb n nr : Nat} {a r d : Value} {L : List (Nat × Nat)} {C : List Cp} {k : Int} {s : Bk} {J : List ByteArray}
theorem OpG.ltm (h : OpG w W m sb n nr a r d L C k s J) : m < W.heap.size := h.mint.lt
theorem OpG.size (h : OpG w W m sb n nr a r d L C k s J) : w.heap.size ≤ W.heap.size := h.chs.size
theorem OpG.below (h : OpG w W m sb n nr a r d L C k s J) (hb : Below W.heap.size W W') : OpG w W' m sb n nr a r d L C k s J := by
 obtain ⟨G, g1, g2, g3, g4⟩ := h.st
 exact ⟨h.mint.keep hb, ⟨G, g1.below hb, fun i hi => ⟨(g2 i hi).1, Nat.lt_of_lt_of_le (g2 i hi).2 hb.size⟩, g3, g4⟩, own_below h.don hb, own_below h.own1 hb, own_below h.own2 hb, h.cps.below hb, h.chs.trans (Chs.of_below hb), h.hm, h.old⟩
theorem OpG.drew (h : OpG w W m sb n nr a r d L C k s J) : OpG w W.drew m sb n nr a r d L C k s J := h.below (Below.refl _ W).drew
/-- A store into the mint's own block. -/
theorem OpG.setM {i : Nat} {v : Value} {sb' : Nat} {d' : Value} {k' : Int} {s' : Bk} {J' : List ByteArray} (h : OpG w W m sb n nr a r d L C k s J) (hm : MintB (W.setCell ⟨m, i, none⟩ v) m a k' sb' d' false)
 (hst : ∃ G, StR W G sb' s' ∧ (∀ i, G i → w.heap.size ≤ i ∧ i < W.heap.size) ∧ (∀ g, d'.ownBlock = some g → ¬ G g) ∧ ¬ G m) (hd : W.ownsRow w.heap.size 9 1 d' J'.length (strV J')) : OpG w (W.setCell ⟨m, i, none⟩ v) m sb' n nr a r d' L C k' s' J' := by
 obtain ⟨G, g1, g2, g3, g4⟩ := hst
 have hc : Chs (· = m) W (W.setCell ⟨m, i, none⟩ v) := Chs.setCell (S := (· = m)) (a := ⟨m, i, none⟩) rfl v
 refine ⟨hm, ⟨G, g1.chs hc (fun j hj e => g4 (by rw [← e]; exact hj)), fun j hj => ⟨(g2 j hj).1, by simpa using (g2 j hj).2⟩, g3, g4⟩, own_grown hd h.mint (by decide) (setGrown W ⟨m, i, none⟩ v), own_grown h.own1 h.mint (by decide) (setGrown W ⟨m, i, none⟩ v), own_grown h.own2 h.mint (by decide) (setGrown W ⟨m, i, none⟩ v), h.cps.chs hc (fun j hj e => ?_),
  ⟨h.chs.os, h.chs.tape, h.chs.output, by simpa using h.chs.size, fun j hj hs => (Below.heap_setCell W ⟨m, i, none⟩ v j (by have := h.hm; simp; omega)).trans (h.chs.block j hj hs)⟩, h.hm, h.old⟩
 have h1 := h.old j hj
 have h2 := h.hm
 omega
theorem OpG.setMark (h : OpG w W m sb n nr a r d L C k s J) (k' : Int) : OpG w (W.setCell ⟨m, 1, none⟩ (.int .i64 k')) m sb n nr a r d L C k' s J := h.setM (h.mint.set 1 _) h.st h.don
/-- One copy is changed. -/
theorem OpG.copy {i : Nat} {p : Nat × Nat} {c c' : Cp} (h : OpG w W m sb n nr a r d L C k s J) (hp : L[i]? = some p) (hcc : C[i]? = some c) (haw : c'.away = c.away) (hc : CpM W' p.1 p.2 c'.mark c'.away c'.ent) (hg : Chs (fun b => b = p.1 ∨ b = p.2) W W') : OpG w W' m sb n nr a r d L (C.set i c') k s J := by
 obtain ⟨G, g1, g2, g3, g4⟩ := h.st
 have o1 := h.old _ (inL_1 hp)
 have o2 := h.old _ (inL_2 hp)
 have hm := h.hm
 have hlow : ∀ {B0 : Nat} {e : TypeId} {sz q : Nat} {v : Value} {xs : List Value}, W.ownsRow w.heap.size e sz v q xs → W'.ownsRow w.heap.size e sz v q xs := fun ho => own_chsM ho hg fun g hgv e => by
  have := (ho.lt g hgv).1
  omega
 refine ⟨hg.blk h.mint (by omega), ⟨G, g1.chs hg (fun j hj e => by have := (g2 j hj).1; omega), fun j hj => ⟨(g2 j hj).1, Nat.lt_of_lt_of_le (g2 j hj).2 hg.size⟩, g3, g4⟩, hlow (B0 := 0) h.don, hlow (B0 := 0) h.own1, ?_, h.cps.put hp hc hg, h.chs.trans (hg.mono fun j e => ?_), h.hm, h.old⟩
 · rw [onB_away (away_set hcc haw)]
   exact hlow (B0 := 0) h.own2
 · rcases e with rfl | rfl
   · exact inL_1 hp
   · exact inL_2 hp
/-- A line is added to the journal's row, and the row is put into the mint. -/
theorem OpG.push {d' : Value} {J' : List ByteArray} (h : OpG w W m sb n nr a r d L C k s J) (hg : W.grownBy W' d.ownBlock) (ho : W'.ownsRow w.heap.size 9 1 d' J'.length (strV J')) (hl : d'.ownBlock = d.ownBlock ∨ ∀ g, d'.ownBlock = some g → W.heap.size ≤ g) : OpG w (W'.setCell ⟨m, 3, none⟩ d') m sb n nr a r d' L C k s J' := by
 obtain ⟨G, g1, g2, g3, g4⟩ := h.st
 have hc : Chs (fun i => some i = d.ownBlock) W W' := ⟨hg.os, hg.tape, hg.output, hg.size, fun i hi hs => hg.block i hi hs⟩
 have hdl : ∀ i, some i = d.ownBlock → w.heap.size ≤ i := fun i e => (h.don.lt i e.symm).1
 have hm : MintB W' m a k sb d false := hc.blk h.mint (own_ne_blk h.don h.mint (by decide))
 have hs : Chs (· = m) W' (W'.setCell ⟨m, 3, none⟩ d') := Chs.setCell (S := (· = m)) (a := ⟨m, 3, none⟩) rfl d'
 have hmw := h.hm
 have h1 : W'.ownsRow w.heap.size 67 1 a n (ptrs (L.map (·.1))) := own_chsM h.own1 hc fun g e e2 => by
  rcases own_apart2 h.own1 h.don (by decide) with h0 | h0
  · rw [h0] at e; cases e
  · exact h0 (by rw [e, e2])
 have h2 : W'.ownsRow w.heap.size 67 1 r nr (ptrs (onB L C)) := own_chsM h.own2 hc fun g e e2 => by
  rcases own_apart2 h.own2 h.don (by decide) with h0 | h0
  · rw [h0] at e; cases e
  · exact h0 (by rw [e, e2])
 refine ⟨hm.set 3 d', ⟨G, (g1.chs hc (fun i hi e => g3 i e.symm hi)).chs hs (fun i hi e => g4 (by rw [← e]; exact hi)), fun i hi => ⟨(g2 i hi).1, by have := hg.size; simp; have := (g2 i hi).2; omega⟩, fun g hgd hgg => ?_, g4⟩, own_grown ho hm (by decide) (setGrown W' ⟨m, 3, none⟩ d'), own_grown h1 hm (by decide) (setGrown W' ⟨m, 3, none⟩ d'), own_grown h2 hm (by decide) (setGrown W' ⟨m, 3, none⟩ d'), (h.cps.chs hc (fun i hi e => ?_)).chs hs (fun i hi e => ?_),
  ⟨hc.os.trans h.chs.os, hc.tape.trans h.chs.tape, hc.output.trans h.chs.output, by have := h.chs.size; have := hg.size; simp; omega, fun i hi hs => ?_⟩, h.hm, h.old⟩
 · rcases hl with hl | hl
   · exact g3 g (by rw [← hl]; exact hgd) hgg
   · have h1 := hl g hgd
     have h2 := (g2 g hgg).2
     omega
 · have := hdl i e
   have := h.old i hi
   omega
 · have := h.old i hi
   omega
 · refine (Below.heap_setCell W' ⟨m, 3, none⟩ d' i (by simp; omega)).trans ((hc.block i (Nat.lt_of_lt_of_le hi h.chs.size) (fun e => ?_)).trans (h.chs.block i hi hs))
   have := hdl i e
   omega
/-- A line is done: the new state is put into the mint. -/
theorem OpG.newSt {nb : Nat} {s' : Bk} {v1 v2 v3 v4 v5 : Value} (h : OpG w W m sb n nr a r d L C k s J) (hb : Below W.heap.size W W') (hst : StO W' W.heap.size nb v1 v2 v3 v4 v5 s') : OpG w (W'.setCell ⟨m, 2, none⟩ (.pointer (some ⟨nb, 0, none⟩))) m nb n nr a r d L C k s' J := by
 have h' := h.below hb
 have hw := h.size
 refine h'.setM (h'.mint.set 2 _) ⟨_, hst.read, fun i hi => ⟨Nat.le_trans hw hi.1, hi.2⟩, fun g hg hgg => ?_, fun hgg => ?_⟩ h'.don
 · have h1 := (h.don.lt g hg).2
   have h2 := hgg.1
   omega
 · have h1 := h.ltm
   have h2 := hgg.1
   omega
end
end
end Go.Proofs.YtnibidmlkbcfkaaGreatDoor
