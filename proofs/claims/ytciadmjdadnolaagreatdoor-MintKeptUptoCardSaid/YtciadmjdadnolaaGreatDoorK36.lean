/- Texts of this proof, one behind the other; each says its condition at its head. -/
import Derived.Test.YtciadmjdadnolaaGreatDoorK35
import Derived.Test.YtciadmjdadnolaaGreatDoorK29
import Derived.Test.YtciadmjdadnolaaGreatDoorK8
import Derived.Deep.AppendLies
import Derived.Deep.RegionHeld3
import Derived.Deep.CutRange
/- What a line does in the rounds of MintKept. No condition. -/
namespace Go.Proofs.YtciadmjdadnolaaGreatDoor
open Go.RowKit Go.Maps
theorem own_act1 {w : World} {g base : Nat} {a : Ac} (h : Blk w g 30 (actV a).toArray) (hb : base ≤ g) : w.ownsRow base 30 5 (.slice (some ⟨g, 0, none⟩) 1 1) 1 (flatA [a]) :=
 ⟨by rw [flatA_len]; rfl, .inr ⟨g, 1, (actV a).toArray, rfl, hb, h, Nat.le_refl _, by unfold maxLen; omega, by simp [actV], by simp [flatA, actV]⟩⟩
/-- What stands in the rounds, and the row of acts. -/
structure KepR (w W : World) (A : Option Addr) (ca n : Nat) (L : List (Nat × Nat)) (C : List Cp) (Ms : List MRec) (M : Int) (J : List ByteArray) (s : Bk) (sure : List ByteArray) (mv : Value) (S : Option Addr) (sc : Nat) (T : Option Addr) (tc : Nat) (acts : List Ac) : Prop where
 ks : KepS w W A ca n L C Ms M J s sure mv S sc Ms.length
 row : W.ownsRow w.heap.size 30 5 (.slice T acts.length tc) acts.length (flatA acts)
theorem KepR.below {w W W' : World} {A : Option Addr} {ca n : Nat} {L : List (Nat × Nat)} {C : List Cp} {Ms : List MRec} {M : Int} {J : List ByteArray} {s : Bk} {sure : List ByteArray} {mv : Value} {S : Option Addr} {sc : Nat} {T : Option Addr} {tc : Nat} {acts : List Ac}
 (h : KepR w W A ca n L C Ms M J s sure mv S sc T tc acts) (hb : Below W.heap.size W W') : KepR w W' A ca n L C Ms M J s sure mv S sc T tc acts := ⟨h.ks.below hb, own_below h.row hb⟩
theorem KepR.rowL {w W : World} {A : Option Addr} {ca n : Nat} {L : List (Nat × Nat)} {C : List Cp} {Ms : List MRec} {M : Int} {J : List ByteArray} {s : Bk} {sure : List ByteArray} {mv : Value} {S : Option Addr} {sc : Nat} {T : Option Addr} {tc : Nat} {acts : List Ac}
 (h : KepR w W A ca n L C Ms M J s sure mv S sc T tc acts) : ∀ g, (Value.slice T acts.length tc).ownBlock = some g → ¬ inL L g := fun g hg hi => by
 rcases hi with hi | hi
 · obtain ⟨p, hp, rfl⟩ := List.mem_map.1 hi
   obtain ⟨j, hj⟩ := List.getElem?_of_mem hp
   obtain ⟨cc, _, hcc⟩ := h.ks.cps.at hj
   exact own_ne_blk h.row hcc.blk (by decide) hg.symm
 · obtain ⟨p, hp, rfl⟩ := List.mem_map.1 hi
   obtain ⟨j, hj⟩ := List.getElem?_of_mem hp
   obtain ⟨cc, _, hcc⟩ := h.ks.cps.at hj
   exact own_ne_map h.row hcc.map hg.symm
theorem KepS.blkA {w W : World} {A : Option Addr} {ca n : Nat} {L : List (Nat × Nat)} {C : List Cp} {Ms : List MRec} {M : Int} {J : List ByteArray} {s : Bk} {sure : List ByteArray} {mv : Value} {S : Option Addr} {sc cnt b : Nat} {cs : Array Value}
 (h : KepS w W A ca n L C Ms M J s sure mv S sc cnt) (hb : Blk W b 30 cs) {q : Nat} {r : MRec} (hr : Ms[q]? = some r) : ¬ (inL L b ∨ footM r.m r.d b) := by
 rintro (hi | hi)
 · rcases hi with hi | hi
   · obtain ⟨p, hp, rfl⟩ := List.mem_map.1 hi
     obtain ⟨j, hj⟩ := List.getElem?_of_mem hp
     obtain ⟨cc, _, hcc⟩ := h.cps.at hj
     exact blk_neM hb hcc.blk (by decide) rfl
   · obtain ⟨p, hp, rfl⟩ := List.mem_map.1 hi
     obtain ⟨j, hj⟩ := List.getElem?_of_mem hp
     obtain ⟨cc, _, hcc⟩ := h.cps.at hj
     exact hcc.map.ne_blk hb rfl
 · rcases hi with rfl | hi
   · obtain ⟨_, _, _, hm, _⟩ := (h.each q r hr).1.ex
     exact blk_neM hb hm (by decide) rfl
   · exact own_ne_blk (h.each q r hr).1.own hb (by decide) hi.symm
theorem KepR.rowD {w W : World} {A : Option Addr} {ca n : Nat} {L : List (Nat × Nat)} {C : List Cp} {Ms : List MRec} {M : Int} {J : List ByteArray} {s : Bk} {sure : List ByteArray} {mv : Value} {S : Option Addr} {sc : Nat} {T : Option Addr} {tc : Nat} {acts : List Ac}
 (h : KepR w W A ca n L C Ms M J s sure mv S sc T tc acts) {q : Nat} {r : MRec} (hr : Ms[q]? = some r) : ∀ g, (Value.slice T acts.length tc).ownBlock = some g → ¬ (inL L g ∨ footM r.m r.d g) := fun g hg hi => by
 rcases hi with hi | hi
 · exact h.rowL g hg hi
 · rcases hi with rfl | hi
   · obtain ⟨_, _, _, hm, _⟩ := (h.ks.each q r hr).1.ex
     exact own_ne_blk h.row hm (by decide) hg.symm
   · rcases own_apart2 h.row (h.ks.each q r hr).1.own (by decide) with h0 | h0
     · rw [h0] at hg; cases hg
     · exact h0 (by rw [hg, hi])
theorem KepS.ptr {w W : World} {A : Option Addr} {ca n : Nat} {L : List (Nat × Nat)} {C : List Cp} {Ms : List MRec} {M : Int} {J : List ByteArray} {s : Bk} {sure : List ByteArray} {S : Option Addr} {sc cnt pb po k pc q : Nat} {r : MRec}
 (h : KepS w W A ca n L C Ms M J s sure (.slice (some ⟨pb, po, none⟩) k pc) S sc cnt) (hr : Ms[q]? = some r) : W.cell? ⟨pb, po + q, none⟩ = some (.pointer (some ⟨r.m, 0, none⟩)) := by
 have hm := h.mts
 obtain ⟨P, c, hP⟩ := own_form hm
 simp only [Value.slice.injEq] at hP
 obtain ⟨hP, hk, hc⟩ := hP
 rw [hk] at hm
 obtain ⟨b, o, u, e, _, eu, c⟩ := (Sl.of_own hm).at (List.getElem?_eq_some_iff.1 hr).1
 cases e
 obtain ⟨y, hy, rfl⟩ := ptrs_at eu
 rw [List.getElem?_map, hr] at hy
 have hy : r.m = y := by simpa using hy
 rw [hy]
 exact c
theorem KepS.journal {w W : World} {A : Option Addr} {ca n : Nat} {L : List (Nat × Nat)} {C : List Cp} {Ms : List MRec} {M : Int} {J : List ByteArray} {s : Bk} {sure : List ByteArray} {mv : Value} {S : Option Addr} {sc cnt q : Nat} {r : MRec}
 (h : KepS w W A ca n L C Ms M J s sure mv S sc cnt) (hr : Ms[q]? = some r) : Calls Tryz.prog 6 #[.pointer (some ⟨r.m, 0, none⟩)] W fun e W' => ∃ D c, e = .returned (.slice D r.J.length c) ∧ W'.ownsRow W.heap.size 9 1 (.slice D r.J.length c) r.J.length (strV r.J) ∧ Below W.heap.size W W' := by
 obtain ⟨h1, _, h3, _⟩ := h.each q r hr
 obtain ⟨D, c, hd⟩ := own_form h1.own
 obtain ⟨sb, A1, ca1, m1, _⟩ := h1.ex
 have ho := h1.own
 rw [hd] at m1 ho
 exact mintJournal r.m _ _ sb D r.J.length c r.J r.out W (by omega) m1 (Sl.of_own ho)
theorem KepS.isOut {w W : World} {A : Option Addr} {ca n : Nat} {L : List (Nat × Nat)} {C : List Cp} {Ms : List MRec} {M : Int} {J : List ByteArray} {s : Bk} {sure : List ByteArray} {mv : Value} {S : Option Addr} {sc cnt q : Nat} {r : MRec}
 (h : KepS w W A ca n L C Ms M J s sure mv S sc cnt) (hr : Ms[q]? = some r) : Calls Tryz.prog 7 #[.pointer (some ⟨r.m, 0, none⟩)] W fun e W' => e = .returned (.bool r.out) ∧ W = W' := by
 obtain ⟨sb, A1, ca1, m1, _⟩ := (h.each q r hr).1.ex
 exact mintOut r.m _ _ sb _ r.out W m1
/-- Behind a guarded append of one element onto a row of the call's own. -/
theorem push1G {P : Program} {ops : Array Oper} {rest : List Oper} {o : Oper} {a : Act} {Q : Exit → Act → World → Prop} {t e : TypeId} {size bytes : Nat} {z : Value}
 (T : TS P t e size bytes z) (w : World) (cs : Array Value) (base n : Nat) (v : Value) (xs : List Value) (hown : w.ownsRow base e size v n xs)
 (s x : Operand) (K : Nat) (hK : w.heap.size = K) (hgd : Region.wanted o (yielded ops a.tmps) = true) (ho : o.op = .call { callee := .builtin .append, args := #[s, x], argTypes := #[t, t] })
 (hs : a.eval s = v) (hx : a.eval x = .slice (some ⟨K, 0, none⟩) 1 1) (hcs : cs.size = size) (h1 : ∀ u ∈ cs.toList, u.oneCell' = true)
 (hn : (n + 1) * bytes ≤ 140737488355328) (hn2 : n < 1000000000000) (hb : base ≤ w.heap.size)
 (h : ∀ v' w', w'.ownsRow base e size v' (n + 1) (xs ++ cs.toList) → w.grownBy w' v.ownBlock → (v'.ownBlock = v.ownBlock ∨ ∀ g, v'.ownBlock = some g → w.heap.size ≤ g) → wpList P ops Q rest (a.put o.dst v') w') :
 wpList P ops Q (o :: rest) a (w.alloc (.cells cs e)) := by
 subst hK
 obtain ⟨i, hi, hz0, hz1, hz2⟩ := info_parts T.inf
 refine wpList_step fun K hK => ?_
 rw [if_pos hgd]
 refine wp_append_lies _ s x t ho base e i z size bytes T.und hi hz0 hz1 hz2 T.zc T.sz v n xs hs (hown.alloc _) _ 1 1 cs.toList hx (by simpa using hcs) (cells_new _ _ _) h1
  (by omega) (by unfold maxLen; omega) hn (by simp; omega) (w.heap.size + 1) (by simp) fun g cap w' a1 a2 a3 _ => hK _ _ (h _ _ a1 ?_ ?_)
 · exact ⟨a2.os, a2.tape, a2.output, by have := a2.size; simp at this; omega, fun k hk hne => (a2.block k (by simp; omega) hne).trans (heap_alloc_old w _ hk)⟩
 · rcases a3 with h3 | h3
   · left; rw [h3]; rfl
   · right
     intro g' hg'
     simp [Value.ownBlock] at hg'
     omega
/-- What Do asks of a mint in the rounds. -/
theorem KepS.doG {w W : World} {A : Option Addr} {ca n : Nat} {L : List (Nat × Nat)} {C : List Cp} {Ms : List MRec} {M : Int} {J : List ByteArray} {s : Bk} {sure : List ByteArray} {mv : Value} {S : Option Addr} {sc : Nat} {q : Nat} {r : MRec} (x : ByteArray)
 (h : KepS w W A ca n L C Ms M J s sure mv S sc Ms.length) (hr : Ms[q]? = some r) (hen : EnvN w) (hT : Tab w) (hx : x.size ≤ 100000000) (hM : M ≤ 1000000000) (hn : L.length ≤ 1000) :
 Calls Tryz.prog 8 #[.pointer (some ⟨r.m, 0, none⟩), .string x] W fun e W' => (∃ word, e = .returned (.tuple #[.string word, .int .i64 ((doM C r.k r.s r.J r.out x).2.2.2.2 : Nat)])) ∧ DoneM W W' r.R r.m r.d L r.k (doM C r.k r.s r.J r.out x) := by
 obtain ⟨h1, h2, h3, h4⟩ := h.each q r hr
 have hql := (List.getElem?_eq_some_iff.1 hr).1
 have hk : r.k ≤ M := by
  have hl := h.last q r hr
  rcases Nat.lt_or_ge (q + 1) Ms.length with hh | hh
  · have := hl.2 hh; omega
  · have := (hl.1 (by omega)).1; omega
 have hmem := List.mem_of_getElem? hr
 exact Go.Proofs.YtciadmjdadnolaaGreatDoor.doG w W r.R r.m r.d L C r.k r.s r.J r.out x h.low hen hT h1 h.cps (fun i hi => ⟨fun hh => (h.apL r hmem i (.inl hh)).1 hi, fun hh => (h.apL r hmem i (.inr hh)).1 hi⟩) h3 h2 hx h4 (by omega) hn h.lowL (fun i hi => (h.apL r hmem i (.inr hi)).2)
/-- What the line's fate is, at any of the mints: refused, and the journal as it was; or done by the last one. -/
theorem KepS.fate {w W W' : World} {A : Option Addr} {ca n : Nat} {L : List (Nat × Nat)} {C : List Cp} {Ms : List MRec} {M : Int} {J : List ByteArray} {s : Bk} {sure : List ByteArray} {mv : Value} {S : Option Addr} {sc : Nat} {q : Nat} {r : MRec} (x : ByteArray)
 (h : KepS w W A ca n L C Ms M J s sure mv S sc Ms.length) (hr : Ms[q]? = some r) (hd : DoneM W W' r.R r.m r.d L r.k (doM C r.k r.s r.J r.out x)) :
 (∃ r' C', r'.m = r.m ∧ r'.J = r.J ∧ (doM C r.k r.s r.J r.out x).2.2.2.2 ≠ 0 ∧ (r.out = true → (doM C r.k r.s r.J r.out x).2.2.2.2 = 5 ∧ r'.out = true) ∧ (∀ i, r'.all i → r.all i ∨ W.heap.size ≤ i) ∧ KepS w W' A ca n L C' (Ms.set q r') M J s sure mv S sc Ms.length) ∨
 (∃ r' C' s', r'.m = r.m ∧ r'.J = r.J ++ [x] ∧ r.J = J ∧ r.out = false ∧ r'.out = false ∧ q + 1 = Ms.length ∧ (doM C r.k r.s r.J r.out x).2.2.2.2 = 0 ∧ (∀ i, r'.all i → r.all i ∨ W.heap.size ≤ i) ∧ KepS w W' A ca n L C' (Ms.set q r') M (J ++ [x]) s' sure mv S sc Ms.length ∧ KeptI stepL bk0 C' M (J ++ [x]) s' (J ++ [x])) := by
 obtain ⟨h1, h2, h3, h4⟩ := h.each q r hr
 have hql := (List.getElem?_eq_some_iff.1 hr).1
 have hl := h.last q r hr
 have hsh := h.short.doM r.k r.s r.J r.out x
 rcases Nat.lt_or_ge (q + 1) Ms.length with hh | hh
 · obtain ⟨C', out', e, he, he0, hout, hk⟩ := h.kept.doOld (hl.2 hh) x (Jo := r.J) (so := r.s) (out := r.out)
   rw [he] at hd hsh ⊢
   obtain ⟨r', a1, a2, a3, a5, a4⟩ := h.done hr hd hk hsh h2 h3 ⟨fun e2 => by omega, fun _ => ⟨hl.2 hh, rfl, rfl, rfl⟩⟩ (fun e2 => by omega) (Nat.le_refl _)
   exact .inl ⟨r', _, a1, a2, he0, fun ho => ⟨(hout ho).1, by rw [a3]; exact (hout ho).2⟩, a5, a4⟩
 · obtain ⟨k1, k2, k3, k4⟩ := hl.1 (by omega)
   have hlast : q + 1 = Ms.length := by omega
   rw [k1, k2, k3, k4] at hd hsh ⊢
   rw [← k1] at hd
   rcases h.kept.doNew x with ⟨e, he0, he⟩ | ⟨C', s', he, hk⟩
   · rw [k1, he] at hd
     rw [he] at hsh ⊢
     rw [← k1] at hd
     obtain ⟨r', a1, a2, a3, a5, a4⟩ := h.done hr hd h.kept hsh (by rw [← k3]; exact h2) (by rw [← k2]; exact h3) ⟨fun _ => ⟨k1, rfl, rfl, rfl⟩, fun e2 => by omega⟩ (fun _ => rfl) (Nat.le_refl _)
     exact .inl ⟨r', _, a1, a2, he0, (fun ho => by cases ho), a5, a4⟩
   · rw [k1, he] at hd
     rw [he] at hsh ⊢
     rw [← k1] at hd
     have hk2 : KeptI stepL bk0 C' M (J ++ [x]) s' sure := ⟨hk.pos, hk.marks, hk.ents, hk.most, hk.kept, hk.only, h.kept.sure.trans (List.prefix_append _ _), hk.runs, hk.len⟩
     have hbk : BkI s' := runL_keep hk.runs BkI.begin
     obtain ⟨r', a1, a2, a3, a5, a4⟩ := h.done hr hd hk2 hsh hbk hk.len ⟨fun _ => ⟨k1, rfl, rfl, rfl⟩, fun e2 => by omega⟩ (fun _ => rfl) (Nat.le_refl _)
     exact .inr ⟨r', C', s', a1, a2, rfl, rfl, a3, hlast, rfl, a5, a4, hk⟩
end Go.Proofs.YtciadmjdadnolaaGreatDoor
/- Walks of order's all and below at one element, and of lines' closure where nothing is left. Condition: the library's table of 64 numbers stands in its variable. -/
namespace Go.Proofs.YtciadmjdadnolaaGreatDoor
open Go.RowKit Go.Shelf
attribute [local go_sem] Oper.semAt_some
set_option maxRecDepth 100000 in
theorem allOne (w : World) :
 Calls Tryz.prog 195 #[.agg ord1] w fun e w' => e = .returned (.int .i64 1) ∧ Below w.heap.size w w' := by
 unfold ord1
 go_enter Tryz.func195, Tryz.ntmps195
 go_wp2
 go_ret
 exact ⟨rfl, (Below.refl _ w).alloc (Nat.le_refl _) _⟩
set_option maxRecDepth 100000 in
theorem belowOne (w : World) :
 Calls Tryz.prog 134 #[.agg ord1, .int .i64 0] w fun e w' => e = .returned (.int .i64 0) ∧ Below w.heap.size w w' := by
 unfold ord1
 go_enter Tryz.func134, Tryz.ntmps134
 go_wp2
 refine wp_loop_rounds 2 ?_
 rw [rounds_succ]
 go_wp2
 rw [rounds_succ]
 go_wp2
 go_ret
 exact ⟨ret_i (by kernel_rfl), (Below.refl _ w).alloc (Nat.le_refl _) _⟩
theorem TII : TS Tryz.prog 169 89 1 24 (.slice none 0 0) := ⟨Tryz.underlying169, by kernel_rfl, rfl, by decide⟩
/-- The boxes of lines: the order, what came out, the line, and the closure. -/
structure LnS (W : World) (bo bx bl bg : Nat) (x l : Value) : Prop where
 ord : Blk W bo 150 ord1
 out : Blk W bx 169 #[x]
 line : Blk W bl 89 #[l]
 grow : Blk W bg 280 #[.func (.func 194) #[] #[.pointer (some ⟨bx, 0, none⟩), .pointer (some ⟨bl, 0, none⟩), .pointer (some ⟨bo, 0, none⟩), .pointer (some ⟨bg, 0, none⟩)]]
theorem LnS.keep {W W' : World} {bo bx bl bg : Nat} {x l : Value} (h : LnS W bo bx bl bg x l) (hb : Below W.heap.size W W') : LnS W' bo bx bl bg x l := ⟨h.ord.keep hb, h.out.keep hb, h.line.keep hb, h.grow.keep hb⟩
theorem Chs.trans2 {S : Nat → Prop} {w W : World} (h : Chs S w W) {p : Addr} (hp : w.heap.size ≤ p.block) (v : Value) : Chs S w (W.setCell p v) :=
 ⟨h.os, h.tape, h.output, by simpa using h.size, fun i hi hn => (Below.heap_setCell W p v i (by omega)).trans (h.block i hi hn)⟩
theorem Tab.chs {S : Nat → Prop} {w w' : World} (h : Tab w) (hc : Chs S w w') (hs : ¬ S 4) : Tab w' := fun j hj =>
 (World.cell?_of_block (a := ⟨4, j, none⟩) (hc.block 4 (World.block_lt_of_cell? _ _ (h j hj)) hs)).trans (h j hj)
theorem ownFrom_chs {β : Type} {B : Nat} {S : Nat → Prop} {w0 : World} (hB : w0.heap.size ≤ B) : OwnFrom B (fun (_ : β) W => Chs S w0 W) := fun _ X Y row hs hg hr =>
 ⟨hg.os.trans hs.os, hg.tape.trans hs.tape, hg.output.trans hs.output, Nat.le_trans hs.size hg.size, fun i hi hn => (hg.block i (Nat.lt_of_lt_of_le hi hs.size) (fun e => by have := (hr i e.symm).1; omega)).trans (hs.block i hi hn)⟩
theorem ownFrom_own {β : Type} (B base : Nat) (e : TypeId) (size n : Nat) (v : Value) (xs : List Value) : OwnFrom B (fun (_ : β) W => W.ownsRow base e size v n xs) := fun _ X Y row hs hg hr => hs.kept hg (by
 cases hv : v.ownBlock with
 | none => exact .inl rfl
 | some g =>
  refine .inr fun e' => ?_
  obtain ⟨_, o, ho, hc⟩ := hr g e'.symm
  obtain ⟨cs, hcs⟩ := own_kind2 hs g hv
  rw [hcs] at ho
  cases ho
  cases hc)
set_option maxRecDepth 100000 in
set_option maxHeartbeats 4000000 in
/-- lines' closure, where nothing is left: the line goes out. -/
theorem growZero (B : Nat) (bo bx bl bg : Nat) (A : Option Addr) (c : Nat) (w : World) (h : LnS w bo bx bl bg (.slice none 0 0) (.slice A 1 c)) (hs : Sl w A 1 c [.int .i64 0]) (hT : Tab w) (hB : B ≤ w.heap.size) (HBX : ¬ bx = 4) :
 Calls Tryz.prog 194 #[.int .i64 0, .pointer (some ⟨bx, 0, none⟩), .pointer (some ⟨bl, 0, none⟩), .pointer (some ⟨bo, 0, none⟩), .pointer (some ⟨bg, 0, none⟩)] w fun e w' => e = .returned (.tuple #[]) ∧
  ∃ O oc R rc, Blk w' bx 169 #[.slice O 1 oc] ∧ w'.ownsRow B 89 1 (.slice O 1 oc) 1 [.slice R 1 rc] ∧ w'.ownsRow B 3 1 (.slice R 1 rc) 1 [.int .i64 0] ∧ Chs (· = bx) w w' := by
 refine (callsIn_wide (n := 9)).1 ?_
 refine callsIn_of_wp_marks Tryz.func194 rfl trivial ?_ rfl
 simp only [Tryz.ntmps194, List.size_toArray, List.length_cons, List.length_nil, Nat.reduceAdd, Nat.reduceSub, Array.replicate_succ, Array.replicate_zero, List.push_toArray, List.append_toArray, List.nil_append, List.cons_append]
 have HT := hid hT
 have H1 := hid (h.keep ((Below.refl _ w).alloc (Nat.le_refl _) (.cells #[.int .i64 0] 3)))
 have H5 := hid (Blk.new w 3 #[.int .i64 0])
 have S1 := hid (hs.alloc (.cells #[.int .i64 0] 3))
 have B1 := hid ((Below.refl w.heap.size w).alloc (Nat.le_refl _) (.cells #[.int .i64 0] 3))
 have k0 := H5.out.cell 0
 simp only [List.getElem?_toArray, List.getElem?_cons_zero] at k0
 have HLT := hid (show bo < w.heap.size ∧ bx < w.heap.size ∧ bl < w.heap.size ∧ bg < w.heap.size from ⟨h.ord.lt, h.out.lt, h.line.lt, h.grow.lt⟩)
 clear h hs hT
 gi_wp2
 generalize w.alloc (.cells #[.int .i64 0] 3) = W at *
 have z1 := H1.out.out.cell 0
 have z2 := H1.out.line.cell 0
 simp only [List.getElem?_toArray, List.getElem?_cons_zero] at z1 z2
 have HCL := hid (cloneI A 1 c [.int .i64 0] (by simp [Value.oneCell']) (by omega) W.drew S1.out.drew)
 have J1 := hid (H1.out.keep (Below.refl _ W).drew)
 have HBW := hid (show B ≤ W.drew.heap.size from Nat.le_trans hB B1.out.size)
 obtain ⟨i0, hi0, hz0, hz1, hzz⟩ := info_parts TII.inf
 refine wpIn_wide.2 ?_
 go_cut [9] from 9 to 13 (fun t wx => ∃ O oc R rc, Hid (Blk wx bx 169 #[.slice O 1 oc]) ∧ Hid (wx.ownsRow B 89 1 (.slice O 1 oc) 1 [.slice R 1 rc]) ∧ Hid (wx.ownsRow B 3 1 (.slice R 1 rc) 1 [.int .i64 0]) ∧ Hid (Chs (· = bx) W.drew wx))
 case first =>
  refine wp_region_noPanic ?_
  refine wp_region_held_drew (S := (fun w' => w'.cell? ⟨bl, 0, none⟩ = some (.slice A 1 c))) (by kernel_rfl) (by (try dsimp only); exact z2) (fun hHeld => ?_)
  refine tk (v := ?_) 1 (some 10) rfl rfl (by rfl) ?_ (by assumption) ?_; rotate_left; · (intro w hSw; (try dsimp only at hSw); first | (go_simp; done) | (go_simp; with_reducible rfl))
  try simp only [Act.put, pA0, pA1, pA2]
  refine wpAnyH_ready (rs := [0, 2]) (by kernel_rfl) (by simp) ?_
  refine AllReadyH.cons rfl (fun K hK => ?_) (AllReadyH.cons rfl (fun K hK => ?_) (AllReadyH.nil))
  · have z1 := J1.out.out.cell 0
    simp only [List.getElem?_toArray, List.getElem?_cons_zero] at z1
    go_simp
    clear z1
    refine hK.out _ _ ?_ (fun hHeld => ?_)
    · (try dsimp only)
      exact J1.out.line.cell 0
    clear hK K
    try simp only [Act.put, pA0, pA1, pA2]
    refine wpAnyH_ready (rs := [2]) (by kernel_rfl) (by simp) ?_
    refine AllReadyH.cons rfl (fun K hK => ?_) (AllReadyH.nil)
    · go_simp
      refine (HCL.out).mono ?_; rintro e w2 ⟨R, rc, rfl, hr, b2⟩
      have J2 := hid (J1.out.keep b2)
      have HR2 := hid hr
      have D2 := hid b2
      clear hr b2
      refine hK.out _ _ ?_ (fun hHeld => ?_)
      · (try dsimp only)
        exact J2.out.line.cell 0
      clear hK K
      try simp only [Act.put, pA0, pA1, pA2]
      refine wpAnyH_ready (rs := [3]) (by kernel_rfl) (by simp) ?_
      refine AllReadyH.cons rfl (fun K hK => ?_) (AllReadyH.nil)
      · go_simp
        have J3 := hid (J2.out.keep ((Below.refl _ _).alloc (Nat.le_refl _) (.cells #[.slice R 1 rc] 89)))
        have HR3 := hid (HR2.out.alloc (.cells #[.slice R 1 rc] 89))
        have D3 := hid (D2.out.alloc D2.out.size (.cells #[.slice R 1 rc] 89))
        refine hK.out _ _ ?_ (fun hHeld => ?_)
        · (try dsimp only)
          exact J3.out.line.cell 0
        clear hK K
        try simp only [Act.put, pA0, pA1, pA2]
        refine wpAnyH_ready (rs := [4]) (by kernel_rfl) (by simp) ?_
        refine AllReadyH.cons rfl (fun K hK => ?_) (AllReadyH.nil)
        · have hB4 : B ≤ (w2.alloc (.cells #[.slice R 1 rc] 89)).heap.size := Nat.le_trans HBW.out D3.out.size
          refine step_append_lies _ rfl (.tmp 9) (.tmp 12) 169 rfl B 89 i0 (.slice none 0 0) 1 24 TII.und hi0 hz0 hz1 hzz TII.zc TII.sz (.slice none 0 0) 0 [] rfl (World.ownsRow_nil _ _ _ _) _ 1 1 (#[.slice R 1 rc] : Array Value).toList rfl rfl (cells_new _ _ _) (by simp [Value.oneCell']) (by decide) (by unfold maxLen; omega) (by omega) hB4 _ rfl ?_; intro g cap wA howA hgA hatA hltA
          have bA := (Below.refl _ _).grown hgA (Nat.le_refl _) (fun k hk => by simp [Value.ownBlock] at hk)
          have J4 := hid (J3.out.keep bA)
          have HR4 := hid (own_below HR3.out bA)
          have HO4 := hid howA
          have D4 := hid (below_call D3.out bA D3.out.size)
          clear howA hgA hatA hltA bA hB4
          refine hK.out _ _ ?_ (fun hHeld => ?_)
          · (try dsimp only)
            exact J4.out.line.cell 0
          clear hK K
          try simp only [Act.put, List.setIfInBounds_toArray]
          refine wpAnyH_ready (rs := [5]) (by kernel_rfl) (by simp) ?_
          refine AllReadyH.cons rfl (fun K hK => ?_) (AllReadyH.nil)
          · have z5 : World.cell? _ ⟨bx, 0, none⟩ = some (.slice none 0 0) := J4.out.out.cell 0
            have g5 := J4.out.out.free 0
            go_simp
            clear z5 g5
            have J5 := hid (J4.out.out.set 0 (.slice (some ⟨g, 0, none⟩) 1 cap))
            have HL5 := hid (J4.out.line.far (p := ⟨bx, 0, none⟩) (blk_neM J4.out.line J4.out.out (by decide)) (.slice (some ⟨g, 0, none⟩) 1 cap))
            have HO5 := hid (own_grown HO4.out J4.out.out (by decide) (setGrown _ ⟨bx, 0, none⟩ (.slice (some ⟨g, 0, none⟩) 1 cap)))
            have HR5 := hid (own_grown HR4.out J4.out.out (by decide) (setGrown _ ⟨bx, 0, none⟩ (.slice (some ⟨g, 0, none⟩) 1 cap)))
            have HC5 := hid ((Chs.of_below (S := (· = bx)) D4.out).trans (Chs.setCell (S := (· = bx)) (a := ⟨bx, 0, none⟩) rfl (.slice (some ⟨g, 0, none⟩) 1 cap)))
            refine hK.out _ _ ?_ (fun hHeld => ?_)
            · (try dsimp only)
              exact HL5.out.cell 0
            clear hK K
            try simp only [Act.put, List.setIfInBounds_toArray]
            refine wpAnyH_done (by kernel_rfl) ?_ _
            refine NoPanic.normal ?_
            go_wp2_with fail
            go_meet
            case rel => exact ⟨_, cap, R, rc, J5, HO5, hid (own_more HR5.out HBW.out), HC5⟩
  · go_simp
    refine (HCL.out).mono ?_; rintro e w6 ⟨R, rc, rfl, hr, b6⟩
    have J6 := hid (J1.out.keep b6)
    have HR6 := hid hr
    have D6 := hid b6
    clear hr b6
    refine hK.out _ _ ?_ (fun hHeld => ?_)
    · (try dsimp only)
      exact J6.out.line.cell 0
    clear hK K
    try simp only [Act.put, pA0, pA1, pA2]
    refine wpAnyH_ready (rs := [0, 3]) (by kernel_rfl) (by simp) ?_
    refine AllReadyH.cons rfl (fun K hK => ?_) (AllReadyH.cons rfl (fun K hK => ?_) (AllReadyH.nil))
    · have z7 := J6.out.out.cell 0
      simp only [List.getElem?_toArray, List.getElem?_cons_zero] at z7
      go_simp
      clear z7
      refine hK.out _ _ ?_ (fun hHeld => ?_)
      · (try dsimp only)
        exact J6.out.line.cell 0
      clear hK K
      try simp only [Act.put, pA0, pA1, pA2]
      refine wpAnyH_ready (rs := [3]) (by kernel_rfl) (by simp) ?_
      refine AllReadyH.cons rfl (fun K hK => ?_) (AllReadyH.nil)
      · go_simp
        have J8 := hid (J6.out.keep ((Below.refl _ _).alloc (Nat.le_refl _) (.cells #[.slice R 1 rc] 89)))
        have HR8 := hid (HR6.out.alloc (.cells #[.slice R 1 rc] 89))
        have D8 := hid (D6.out.alloc D6.out.size (.cells #[.slice R 1 rc] 89))
        refine hK.out _ _ ?_ (fun hHeld => ?_)
        · (try dsimp only)
          exact J8.out.line.cell 0
        clear hK K
        try simp only [Act.put, pA0, pA1, pA2]
        refine wpAnyH_ready (rs := [4]) (by kernel_rfl) (by simp) ?_
        refine AllReadyH.cons rfl (fun K hK => ?_) (AllReadyH.nil)
        · have hB9 : B ≤ (w6.alloc (.cells #[.slice R 1 rc] 89)).heap.size := Nat.le_trans HBW.out D8.out.size
          refine step_append_lies _ rfl (.tmp 9) (.tmp 12) 169 rfl B 89 i0 (.slice none 0 0) 1 24 TII.und hi0 hz0 hz1 hzz TII.zc TII.sz (.slice none 0 0) 0 [] rfl (World.ownsRow_nil _ _ _ _) _ 1 1 (#[.slice R 1 rc] : Array Value).toList rfl rfl (cells_new _ _ _) (by simp [Value.oneCell']) (by decide) (by unfold maxLen; omega) (by omega) hB9 _ rfl ?_; intro g cap wA howA hgA hatA hltA
          have bA := (Below.refl _ _).grown hgA (Nat.le_refl _) (fun k hk => by simp [Value.ownBlock] at hk)
          have J9 := hid (J8.out.keep bA)
          have HR9 := hid (own_below HR8.out bA)
          have HO9 := hid howA
          have D9 := hid (below_call D8.out bA D8.out.size)
          clear howA hgA hatA hltA bA hB9
          refine hK.out _ _ ?_ (fun hHeld => ?_)
          · (try dsimp only)
            exact J9.out.line.cell 0
          clear hK K
          try simp only [Act.put, List.setIfInBounds_toArray]
          refine wpAnyH_ready (rs := [5]) (by kernel_rfl) (by simp) ?_
          refine AllReadyH.cons rfl (fun K hK => ?_) (AllReadyH.nil)
          · have z10 : World.cell? _ ⟨bx, 0, none⟩ = some (.slice none 0 0) := J9.out.out.cell 0
            have g10 := J9.out.out.free 0
            go_simp
            clear z10 g10
            have J10 := hid (J9.out.out.set 0 (.slice (some ⟨g, 0, none⟩) 1 cap))
            have HL10 := hid (J9.out.line.far (p := ⟨bx, 0, none⟩) (blk_neM J9.out.line J9.out.out (by decide)) (.slice (some ⟨g, 0, none⟩) 1 cap))
            have HO10 := hid (own_grown HO9.out J9.out.out (by decide) (setGrown _ ⟨bx, 0, none⟩ (.slice (some ⟨g, 0, none⟩) 1 cap)))
            have HR10 := hid (own_grown HR9.out J9.out.out (by decide) (setGrown _ ⟨bx, 0, none⟩ (.slice (some ⟨g, 0, none⟩) 1 cap)))
            have HC10 := hid ((Chs.of_below (S := (· = bx)) D9.out).trans (Chs.setCell (S := (· = bx)) (a := ⟨bx, 0, none⟩) rfl (.slice (some ⟨g, 0, none⟩) 1 cap)))
            refine hK.out _ _ ?_ (fun hHeld => ?_)
            · (try dsimp only)
              exact HL10.out.cell 0
            clear hK K
            try simp only [Act.put, List.setIfInBounds_toArray]
            refine wpAnyH_done (by kernel_rfl) ?_ _
            refine NoPanic.normal ?_
            go_wp2_with fail
            go_meet
            case rel => exact ⟨_, cap, R, rc, J10, HO10, hid (own_more HR10.out HBW.out), HC10⟩
    · go_simp
      have J11 := hid (J6.out.keep ((Below.refl _ _).alloc (Nat.le_refl _) (.cells #[.slice R 1 rc] 89)))
      have HR11 := hid (HR6.out.alloc (.cells #[.slice R 1 rc] 89))
      have D11 := hid (D6.out.alloc D6.out.size (.cells #[.slice R 1 rc] 89))
      refine hK.out _ _ ?_ (fun hHeld => ?_)
      · (try dsimp only)
        exact J11.out.line.cell 0
      clear hK K
      try simp only [Act.put, pA0, pA1, pA2]
      refine wpAnyH_ready (rs := [0]) (by kernel_rfl) (by simp) ?_
      refine AllReadyH.cons rfl (fun K hK => ?_) (AllReadyH.nil)
      · have z12 := J11.out.out.cell 0
        simp only [List.getElem?_toArray, List.getElem?_cons_zero] at z12
        go_simp
        clear z12
        refine hK.out _ _ ?_ (fun hHeld => ?_)
        · (try dsimp only)
          exact J11.out.line.cell 0
        clear hK K
        try simp only [Act.put, pA0, pA1, pA2]
        refine wpAnyH_ready (rs := [4]) (by kernel_rfl) (by simp) ?_
        refine AllReadyH.cons rfl (fun K hK => ?_) (AllReadyH.nil)
        · have hB13 : B ≤ (w6.alloc (.cells #[.slice R 1 rc] 89)).heap.size := Nat.le_trans HBW.out D11.out.size
          refine step_append_lies _ rfl (.tmp 9) (.tmp 12) 169 rfl B 89 i0 (.slice none 0 0) 1 24 TII.und hi0 hz0 hz1 hzz TII.zc TII.sz (.slice none 0 0) 0 [] rfl (World.ownsRow_nil _ _ _ _) _ 1 1 (#[.slice R 1 rc] : Array Value).toList rfl rfl (cells_new _ _ _) (by simp [Value.oneCell']) (by decide) (by unfold maxLen; omega) (by omega) hB13 _ rfl ?_; intro g cap wA howA hgA hatA hltA
          have bA := (Below.refl _ _).grown hgA (Nat.le_refl _) (fun k hk => by simp [Value.ownBlock] at hk)
          have J13 := hid (J11.out.keep bA)
          have HR13 := hid (own_below HR11.out bA)
          have HO13 := hid howA
          have D13 := hid (below_call D11.out bA D11.out.size)
          clear howA hgA hatA hltA bA hB13
          refine hK.out _ _ ?_ (fun hHeld => ?_)
          · (try dsimp only)
            exact J13.out.line.cell 0
          clear hK K
          try simp only [Act.put, List.setIfInBounds_toArray]
          refine wpAnyH_ready (rs := [5]) (by kernel_rfl) (by simp) ?_
          refine AllReadyH.cons rfl (fun K hK => ?_) (AllReadyH.nil)
          · have z14 : World.cell? _ ⟨bx, 0, none⟩ = some (.slice none 0 0) := J13.out.out.cell 0
            have g14 := J13.out.out.free 0
            go_simp
            clear z14 g14
            have J14 := hid (J13.out.out.set 0 (.slice (some ⟨g, 0, none⟩) 1 cap))
            have HL14 := hid (J13.out.line.far (p := ⟨bx, 0, none⟩) (blk_neM J13.out.line J13.out.out (by decide)) (.slice (some ⟨g, 0, none⟩) 1 cap))
            have HO14 := hid (own_grown HO13.out J13.out.out (by decide) (setGrown _ ⟨bx, 0, none⟩ (.slice (some ⟨g, 0, none⟩) 1 cap)))
            have HR14 := hid (own_grown HR13.out J13.out.out (by decide) (setGrown _ ⟨bx, 0, none⟩ (.slice (some ⟨g, 0, none⟩) 1 cap)))
            have HC14 := hid ((Chs.of_below (S := (· = bx)) D13.out).trans (Chs.setCell (S := (· = bx)) (a := ⟨bx, 0, none⟩) rfl (.slice (some ⟨g, 0, none⟩) 1 cap)))
            refine hK.out _ _ ?_ (fun hHeld => ?_)
            · (try dsimp only)
              exact HL14.out.cell 0
            clear hK K
            try simp only [Act.put, List.setIfInBounds_toArray]
            refine wpAnyH_done (by kernel_rfl) ?_ _
            refine NoPanic.normal ?_
            go_wp2_with fail
            go_meet
            case rel => exact ⟨_, cap, R, rc, J14, HO14, hid (own_more HR14.out HBW.out), HC14⟩
 case rest =>
  obtain ⟨O, oc, R, rc, HO, HOO, HR, HC⟩ := hcut
  have k1 := (HC.out.blk H5.out.drew (by have := HLT.out; omega)).cell 0
  simp only [List.getElem?_toArray, List.getElem?_cons_zero] at k1
  gi_wp2
  refine ⟨trivial, (callsIn_wide.2 (elementsF 0 _)).mono ?_⟩
  rintro e w' ⟨rfl, rfl⟩
  have HG := hid ((Below.refl wc.heap.size wc).alloc (Nat.le_refl _) (.cells #[.int .i64 0] 3))
  have G1 := hid (HO.out.alloc (.cells #[.int .i64 0] 3))
  have G2 := hid (HOO.out.alloc (.cells #[.int .i64 0] 3))
  have G3 := hid (HR.out.alloc (.cells #[.int .i64 0] 3))
  have HCW := hid (show Chs (· = bx) w wc from (Chs.of_below B1.out).trans ((Chs.of_below (Below.refl _ W).drew).trans HC.out))
  have G4 := hid (HCW.out.trans (Chs.of_below HG.out))
  have GC := hid (Blk.new wc 3 #[.int .i64 0])
  have N0 := hid (show ¬ bx = wc.heap.size from by have := HO.out.lt; omega)
  have N1 := hid (show ∀ g, (Value.slice O 1 oc).ownBlock = some g → ¬ g = wc.heap.size from fun g e => by have := (HOO.out.lt g e).2; omega)
  have N2 := hid (show ∀ g, (Value.slice R 1 rc).ownBlock = some g → ¬ g = wc.heap.size from fun g e => by have := (HR.out.lt g e).2; omega)
  have N3 := hid (show w.heap.size ≤ wc.heap.size from HCW.out.size)
  have N4 := hid (show 4 < w.heap.size ∧ ¬ bx = 4 from ⟨HT.out.pos, HBX⟩)
  have GT := hid (show Tab (wc.alloc (.cells #[.int .i64 0] 3)) from (HT.out.chs HCW.out (fun e => N4.out.2 e.symm)).below HG.out)
  have HSZ := hid (show (wc.alloc (.cells #[.int .i64 0] 3)).heap.size = wc.heap.size + 1 from by simp)
  clear k1 HG
  gi_wp2
  generalize wc.alloc (.cells #[.int .i64 0] 3) = G at *
  refine wp_range (n := 9) (gf := 184) (c := wc.heap.size) (t := 3) (xs := []) rfl (fun args w => enters Tryz.func184 (by kernel_rfl) rfl args w) GC.out (elems_iter 8 _ 0 [] G rfl GC.out) rfl
   (fun _ W => (((Blk W bx 169 #[.slice O 1 oc] ∧ Chs (· = bx) w W) ∧ W.ownsRow B 89 1 (.slice O 1 oc) 1 [.slice R 1 rc] ∧ W.ownsRow B 3 1 (.slice R 1 rc) 1 [.int .i64 0]) ∧ Tab W))
   (fun _ _ => False) ?_ (fun _ _ _ _ _ hs _ _ => hs) ?_ (fun _ _ h => h.2) ⟨⟨⟨G1.out, G4.out⟩, G2.out, G3.out⟩, GT.out⟩ ?_ ?_ (fun _ _ _ _ h _ => h.elim)
  · have := N3.out
    have := HSZ.out
    exact OwnFrom.and (OwnFrom.and (OwnFrom.and (ownFrom_blk _ _ _ _) (ownFrom_chs (by omega))) (OwnFrom.and (ownFrom_own _ _ _ _ _ _ _) (ownFrom_own _ _ _ _ _ _ _))) (ownFrom_tab (by have := N4.out.1; omega))
  · rintro k W v ⟨⟨⟨h1, h2⟩, h3, h4⟩, h5⟩
    have := N3.out
    have := N4.out.1
    refine ⟨⟨⟨h1.far (p := ⟨wc.heap.size, 0, none⟩) N0.out _, h2.trans2 (p := ⟨wc.heap.size, 0, none⟩) (by simp; omega) v⟩, h3.kept (setGrown W ⟨wc.heap.size, 0, none⟩ v) ?_, h4.kept (setGrown W ⟨wc.heap.size, 0, none⟩ v) ?_⟩, h5.grown (setGrown W ⟨wc.heap.size, 0, none⟩ v) (by simp; omega)⟩
    · exact .inr fun e => N1.out _ e rfl
    · exact .inr fun e => N2.out _ e rfl
  · intro l k x W W2 _ _ _ hx
    simp at hx
  · rintro D W hD ⟨⟨⟨h1, h2⟩, h3, h4⟩, h5⟩ hK
    have G0 := hid h1
    have GA := hid h2
    have GB := hid h3
    have GD := hid h4
    have GK := hid hK
    clear h1 h2 h3 h4 h5 hK
    gi_wp2
    have := N3.out
    have := HSZ.out
    refine ⟨by simp, .inl ⟨_, _, rfl, run_takeDeferred GK.out, ?_⟩⟩
    exact ⟨_, results_none rfl _ _ _, rfl, O, oc, R, rc, (World.putObj_heap_other (by have := N0.out; have := HO.out.lt; omega)).trans G0.out, ownFrom_own (β := Unit) G.heap.size _ _ _ _ _ _ () _ _ (some D) GB.out (grownBy_putObj' W D _) (fun r e => by cases e; exact ⟨hD, _, GK.out, rfl⟩), ownFrom_own (β := Unit) G.heap.size _ _ _ _ _ _ () _ _ (some D) GD.out (grownBy_putObj' W D _) (fun r e => by cases e; exact ⟨hD, _, GK.out, rfl⟩), ownFrom_chs (β := Unit) (B := G.heap.size) (by omega) () _ _ (some D) GA.out (grownBy_putObj' W D _) (fun r e => by cases e; exact ⟨hD, _, GK.out, rfl⟩)⟩
end Go.Proofs.YtciadmjdadnolaaGreatDoor
