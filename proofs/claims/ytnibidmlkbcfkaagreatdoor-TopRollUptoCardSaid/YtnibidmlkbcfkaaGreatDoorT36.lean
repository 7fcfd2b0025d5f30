/- Texts of this proof, one behind the other; each says its condition at its head. -/
import Derived.Test.YtnibidmlkbcfkaaGreatDoorT33
import Derived.Test.YtnibidmlkbcfkaaGreatDoorT34
import Derived.Test.YtnibidmlkbcfkaaGreatDoorT35
import Derived.Maps.OwnIn
namespace Go.Proofs.YtnibidmlkbcfkaaGreatDoor
/- What lines' closure keeps while it grows: the boxes it captures, the line so far, what came out. No condition. -/
section
open Go.RowKit Go.Shelf
theorem bits_min {n : Nat} {a : Nat → Nat → Bool} {s i : Nat} (hn : n ≤ 6) (hs : s < 2 ^ n) : (bits .and .i64 (mk n fun k => a k i) (s : Int) == 0) = minB n a s i := by
 rw [mk_of hs, mk_and (by omega), Bool.eq_iff_iff, beq_iff_eq, mk_zero_iff]
 unfold minB
 rw [List.all_eq_true]
 constructor
 · intro h j hj
   have := h j (List.mem_range.1 hj)
   rw [this]; rfl
 · intro h j hj
   have := h j (List.mem_range.2 hj)
   cases e1 : a j i <;> cases e2 : s.testBit j <;> simp_all
theorem find_take {p : Nat → Bool} : ∀ {l : List Nat} {k x : Nat}, l[k]? = some x → (∀ i ∈ l.take k, p i = false) → p x = true → l.find? p = some x
 | [], k, x, h, _, _ => by simp at h
 | y :: l, 0, x, h, _, hp => by
  have : y = x := by simpa using h
  subst this
  rw [List.find?_cons, hp]
 | y :: l, k + 1, x, h, hk, hp => by
  have h : l[k]? = some x := by simpa using h
  have hy : p y = false := hk y (by simp)
  rw [List.find?_cons, hy]
  exact find_take h (fun i hi => hk i (by simp [hi])) hp
theorem ln_step {n : Nat} {a : Nat → Nat → Bool} {f s k x : Nat} (h : (bitsL s)[k]? = some x) (hk : ∀ i ∈ (bitsL s).take k, minB n a s i = false) (hx : minB n a s x = true) : lnL n a (f + 1) s = x :: lnL n a f (clr s x) := by
 conv => lhs; unfold lnL
 rw [show firstM n a s = some x from find_take h hk hx]
/-- A list of numbers as cells. -/
abbrev iV (l : List Nat) : List Value := l.map fun i : Nat => Value.int .i64 i
def growV (bo bx bl bg : Nat) : Value := .func (.func 73) #[] #[.pointer (some ⟨bx, 0, none⟩), .pointer (some ⟨bl, 0, none⟩), .pointer (some ⟨bo, 0, none⟩), .pointer (some ⟨bg, 0, none⟩)]
/-- The boxes; the line so far is lv; r lines came out, the first of them is F. -/
structure GS (n : Nat) (a : Nat → Nat → Bool) (B bo bx bl bg : Nat) (lv F : List Nat) (r : Nat) (vl vo vr : Value) (W : World) : Prop where
 ord : Blk W bo 78 (ordC n a)
 grow : Blk W bg 133 #[growV bo bx bl bg]
 out : Blk W bx 39 #[vo]
 line : Blk W bl 36 #[vl]
 ol : W.ownsRow B 3 1 vl lv.length (iV lv)
 oo : ∃ rows, W.ownsRow B 36 1 vo r rows ∧ (r ≠ 0 → rows[0]? = some vr)
 fst : r ≠ 0 → W.ownsRow B 3 1 vr F.length (iV F)
 nil : r = 0 → vr = .slice none 0 0
 ne : ∀ g, vr.ownBlock = some g → vl.ownBlock ≠ some g
def Own3 (vl vo vr : Value) (g : Nat) : Prop := vl.ownBlock = some g ∨ vo.ownBlock = some g ∨ vr.ownBlock = some g
section
variable {n : Nat} {a : Nat → Nat → Bool} {B bo bx bl bg : Nat} {lv F : List Nat} {r : Nat} {vl vo vr : Value} {W : World}
theorem GS.keep {W' : World} (h : GS n a B bo bx bl bg lv F r vl vo vr W) (hb : Below W.heap.size W W') : GS n a B bo bx bl bg lv F r vl vo vr W' := by
 obtain ⟨rows, h1, h2⟩ := h.oo
 exact ⟨h.ord.keep hb, h.grow.keep hb, h.out.keep hb, h.line.keep hb, own_below h.ol hb, ⟨rows, own_below h1 hb, h2⟩, fun e => own_below (h.fst e) hb, h.nil, h.ne⟩
theorem GS.lt (h : GS n a B bo bx bl bg lv F r vl vo vr W) {g : Nat} (hg : Own3 vl vo vr g) : B ≤ g ∧ g < W.heap.size := by
 obtain ⟨rows, h1, h2⟩ := h.oo
 rcases hg with hg | hg | hg
 · exact h.ol.lt _ hg
 · exact h1.lt _ hg
 · by_cases e : r = 0
   · rw [h.nil e] at hg; cases hg
   · exact (h.fst e).lt _ hg
theorem GS.isc (h : GS n a B bo bx bl bg lv F r vl vo vr W) {g : Nat} (hg : Own3 vl vo vr g) : ∃ c t, W.heap[g]? = some (.cells c t (0, 0)) := by
 obtain ⟨rows, h1, h2⟩ := h.oo
 rcases hg with hg | hg | hg
 · obtain ⟨c, hc⟩ := own_kind2 h.ol g hg; exact ⟨c, _, hc⟩
 · obtain ⟨c, hc⟩ := own_kind2 h1 g hg; exact ⟨c, _, hc⟩
 · by_cases e : r = 0
   · rw [h.nil e] at hg; cases hg
   · obtain ⟨c, hc⟩ := own_kind2 (h.fst e) g hg; exact ⟨c, _, hc⟩
theorem own_off {w w' : World} {base : Nat} {e : TypeId} {size n : Nat} {v : Value} {xs : List Value} {b : Nat} (h : w.ownsRow base e size v n xs) (hg : w.grownBy w' (some b)) (hne : v.ownBlock ≠ some b) : w'.ownsRow base e size v n xs := h.kept hg (.inr hne)
theorem GS.far (h : GS n a B bo bx bl bg lv F r vl vo vr W) {p : Addr} (h1 : ¬ (p.block = bo ∨ p.block = bx ∨ p.block = bl ∨ p.block = bg)) (h2 : ¬ Own3 vl vo vr p.block) (u : Value) : GS n a B bo bx bl bg lv F r vl vo vr (W.setCell p u) := by
 obtain ⟨rows, h3, h4⟩ := h.oo
 have hg := setGrown W p u
 have k1 : vl.ownBlock ≠ some p.block := fun e => h2 (.inl e)
 have k2 : vo.ownBlock ≠ some p.block := fun e => h2 (.inr (.inl e))
 have k3 : vr.ownBlock ≠ some p.block := fun e => h2 (.inr (.inr e))
 exact ⟨h.ord.far (by omega) u, h.grow.far (by omega) u, h.out.far (by omega) u, h.line.far (by omega) u, own_off h.ol hg k1, ⟨rows, own_off h3 hg k2, h4⟩, fun e => own_off (h.fst e) hg k3, h.nil, h.ne⟩
theorem GS.ownFrom {β : Type} (C : Nat) : OwnFrom C (fun (_ : β) W => GS n a B bo bx bl bg lv F r vl vo vr W) := fun s X Y row h hg hr => by
 obtain ⟨rows, h3, h4⟩ := h.oo
 exact ⟨ownFrom_blk C _ _ _ s X Y row h.ord hg hr, ownFrom_blk C _ _ _ s X Y row h.grow hg hr, ownFrom_blk C _ _ _ s X Y row h.out hg hr, ownFrom_blk C _ _ _ s X Y row h.line hg hr, ownFrom_own C _ _ _ _ _ _ s X Y row h.ol hg hr, ⟨rows, ownFrom_own C _ _ _ _ _ _ s X Y row h3 hg hr, h4⟩, fun e => ownFrom_own C _ _ _ _ _ _ s X Y row (h.fst e) hg hr, h.nil, h.ne⟩
/-- What a call of the closure may change. -/
def grS (bx bl : Nat) (vl vo vr : Value) (i : Nat) : Prop := i = bx ∨ i = bl ∨ Own3 vl vo vr i
/-- What a call of the closure does. -/
structure GrowR (n : Nat) (a : Nat → Nat → Bool) (B bo bx bl bg : Nat) (lv F : List Nat) (r m : Nat) (vl vo vr : Value) (w w' : World) : Prop where
 ex : ∃ r' vl' vo' vr', 1 ≤ r' ∧ r' ≤ r + m ∧ GS n a B bo bx bl bg lv F r' vl' vo' vr' w' ∧ ∀ g, Own3 vl' vo' vr' g → Own3 vl vo vr g ∨ w.heap.size ≤ g
 chs : Chs (grS bx bl vl vo vr) w w'
/-- A row without its last element. -/
theorem own_cut {w : World} {base : Nat} {e : TypeId} {n k : Nat} {A : Option Addr} {c : Nat} {xs : List Value} (h : w.ownsRow base e 1 (.slice A n c) n xs) (hk : k ≤ n) (hn : 0 < n) : w.ownsRow base e 1 (.slice A k c) k (xs.take k) := by
 rcases h.2 with ⟨_, h0⟩ | ⟨g, cap, cur, hv, hb, hg, hc, hm, hs, ht⟩
 · omega
 · cases hv
   have hl := h.1
   refine ⟨by rw [List.length_take]; omega, .inr ⟨g, c, cur, rfl, hb, hg, by omega, hm, hs, ?_⟩⟩
   rw [← ht, List.take_take]
   congr 1
   omega
end
section
variable {n : Nat} {a : Nat → Nat → Bool} {B bo bx bl bg : Nat} {lv F : List Nat} {r : Nat} {vl vo vr : Value} {W : World}
/-- Rows of two kinds lie in two blocks. -/
theorem own_two {w : World} {b1 b2 : Nat} {e1 e2 : TypeId} {s1 s2 n1 n2 : Nat} {v u : Value} {xs ys : List Value} (h : w.ownsRow b1 e1 s1 v n1 xs) (k : w.ownsRow b2 e2 s2 u n2 ys) (hne : e1 ≠ e2) : ∀ g, v.ownBlock = some g → u.ownBlock ≠ some g := fun g hg hu => by
 obtain ⟨c, hc⟩ := own_kind2 h g hg
 obtain ⟨d, hd⟩ := own_kind2 k g hu
 rw [hc] at hd
 simp only [Option.some.injEq, Obj.cells.injEq] at hd
 exact hne hd.2.1
theorem own_not {w w' : World} {base : Nat} {e : TypeId} {size n : Nat} {v u : Value} {xs : List Value} (h : w.ownsRow base e size v n xs) (hg : w.grownBy w' u.ownBlock) (hne : ∀ g, v.ownBlock = some g → u.ownBlock ≠ some g) : w'.ownsRow base e size v n xs := h.kept hg (by
 cases e1 : v.ownBlock with
 | none => exact .inl rfl
 | some g => exact .inr fun e2 => hne g e1 e2.symm)
theorem blk_not {w w' : World} {b : Nat} {t : TypeId} {cs : Array Value} {u : Value} (h : Blk w b t cs) (hg : w.grownBy w' u.ownBlock) (hne : u.ownBlock ≠ some b) : Blk w' b t cs := (hg.block b h.lt (fun e => hne e.symm)).trans h
/-- The boxes lie ahead of what was made since. -/
def BxL (B bo bx bl bg : Nat) : Prop := (bo < B ∧ bx < B ∧ bl < B ∧ bg < B) ∧ (7 < B ∧ ¬ bx = 7 ∧ ¬ bl = 7)
/-- A copy of the line goes out. -/
theorem GS.push (h : GS n a B bo bx bl bg lv F r vl vo vr W) (hb : BxL B bo bx bl bg) (hF : r = 0 → F = lv) {R : Option Addr} {rc C : Nat} (hR : W.ownsRow C 3 1 (.slice R lv.length rc) lv.length (iV lv)) (hBC : B ≤ C) (hC : ∀ g, vl.ownBlock = some g → g < C)
 {rows : List Value} (hro : W.ownsRow B 36 1 vo r rows) (hr0 : r ≠ 0 → rows[0]? = some vr) {wA : World} {g cap : Nat} (ho : wA.ownsRow B 36 1 (.slice (some ⟨g, 0, none⟩) (r + 1) cap) (r + 1) (rows ++ [.slice R lv.length rc])) (hg : W.grownBy wA vo.ownBlock) :
 GS n a B bo bx bl bg lv F (r + 1) vl (.slice (some ⟨g, 0, none⟩) (r + 1) cap) (if r = 0 then .slice R lv.length rc else vr) (wA.setCell ⟨bx, 0, none⟩ (.slice (some ⟨g, 0, none⟩) (r + 1) cap)) := by
 obtain ⟨⟨b1, b2, b3, b4⟩, _⟩ := hb
 have hlow : ∀ b, b < B → vo.ownBlock ≠ some b := fun b hb e => by have := (hro.lt b e).1; omega
 have x1 := blk_not h.ord hg (hlow bo b1)
 have x2 := blk_not h.out hg (hlow bx b2)
 have x3 := blk_not h.line hg (hlow bl b3)
 have x4 := blk_not h.grow hg (hlow bg b4)
 have hl1 := own_not h.ol hg (own_two h.ol hro (by decide))
 have hr1 := own_not hR hg (own_two hR hro (by decide))
 have hsg := setGrown wA ⟨bx, 0, none⟩ (.slice (some ⟨g, 0, none⟩) (r + 1) cap)
 refine ⟨x1.far (p := ⟨bx, 0, none⟩) (blk_neM x1 x2 (by decide)) _, x4.far (p := ⟨bx, 0, none⟩) (blk_neM x4 x2 (by decide)) _, x2.set 0 _, x3.far (p := ⟨bx, 0, none⟩) (blk_neM x3 x2 (by decide)) _, own_grown hl1 x2 (by decide) hsg, ⟨_, own_grown ho x2 (by decide) hsg, fun _ => ?_⟩, fun _ => ?_, fun e => absurd e (by omega), fun k hk => ?_⟩
 · by_cases e : r = 0
   · have hrn : rows = [] := List.eq_nil_of_length_eq_zero (by have := hro.1; omega)
     rw [if_pos e, hrn]; rfl
   · rw [if_neg e]
     have h0 := hr0 e
     have hlt := (List.getElem?_eq_some_iff.1 h0).1
     rw [List.getElem?_append_left hlt]
     exact h0
 · by_cases e : r = 0
   · rw [if_pos e, hF e]
     exact own_grown (own_more hr1 hBC) x2 (by decide) hsg
   · rw [if_neg e]
     exact own_grown (own_not (h.fst e) hg (own_two (h.fst e) hro (by decide))) x2 (by decide) hsg
 · by_cases e : r = 0
   · rw [if_pos e] at hk
     intro hv
     have := (hR.lt k hk).1
     have := hC k hv
     omega
   · rw [if_neg e] at hk
     exact h.ne k hk
theorem push_own {R : Option Addr} {m rc C H g cap : Nat} (h1 : ∀ k, (Value.slice R m rc).ownBlock = some k → C ≤ k) (h2 : vo.ownBlock = some g ∨ g = H) (hH : C ≤ H) : ∀ k, Own3 vl (.slice (some ⟨g, 0, none⟩) (r + 1) cap) (if r = 0 then .slice R m rc else vr) k → Own3 vl vo vr k ∨ C ≤ k := fun k hk => by
 rcases hk with hk | hk | hk
 · exact .inl (.inl hk)
 · have : g = k := by simpa [Value.ownBlock] using hk
   subst this
   rcases h2 with h2 | h2
   · exact .inl (.inr (.inl h2))
   · exact .inr (by omega)
 · by_cases e : r = 0
   · rw [if_pos e] at hk
     exact .inr (h1 k hk)
   · rw [if_neg e] at hk
     exact .inl (.inr (.inr hk))
theorem push_chs {w wA : World} {v : Value} (h : Below w.heap.size w W) (hg : W.grownBy wA vo.ownBlock) : Chs (grS bx bl vl vo vr) w (wA.setCell ⟨bx, 0, none⟩ v) := by
 refine (Chs.of_below h).trans (Chs.trans (w' := wA) ⟨hg.os, hg.tape, hg.output, hg.size, fun i hi hn => hg.block i hi fun e => hn (.inr (.inr (.inr (.inl e.symm))))⟩ (Chs.setCell (S := grS bx bl vl vo vr) (a := ⟨bx, 0, none⟩) (.inl rfl) v))
theorem GS.notS (h : GS n a B bo bx bl bg lv F r vl vo vr W) (hb : BxL B bo bx bl bg) : ¬ grS bx bl vl vo vr 7 := fun e => by
 rcases e with e | e | e
 · exact hb.2.2.1 e.symm
 · exact hb.2.2.2 e.symm
 · have := (h.lt e).1; have := hb.2.1; omega
end
theorem Chs.trans3 {S T : Nat → Prop} {w V w' : World} (h : Chs T w V) (k : Chs S V w') (hs : ∀ i, S i → T i ∨ w.heap.size ≤ i) : Chs T w w' :=
 ⟨k.os.trans h.os, k.tape.trans h.tape, k.output.trans h.output, Nat.le_trans h.size k.size, fun i hi hn => (k.block i (Nat.lt_of_lt_of_le hi h.size) fun e => by
  rcases hs i e with e | e
  · exact hn e
  · omega).trans (h.block i hi hn)⟩
section
variable {n : Nat} {a : Nat → Nat → Bool} {B bo bx bl bg : Nat} {lv F : List Nat} {r : Nat} {vl vo vr : Value} {W : World}
theorem iV_snoc (l : List Nat) (x : Nat) : iV (l ++ [x]) = iV l ++ [.int .i64 (x : Nat)] := by simp [iV]
/-- The line grows by one. -/
theorem GS.linePush (h : GS n a B bo bx bl bg lv F r vl vo vr W) (hb : BxL B bo bx bl bg) {x : Nat} {v1 : Value} {w8 : World} (ho : w8.ownsRow B 3 1 v1 (lv.length + 1) (iV lv ++ [.int .i64 (x : Nat)])) (hg : W.grownBy w8 vl.ownBlock) (hat : v1.ownBlock = vl.ownBlock ∨ v1.ownBlock = some W.heap.size) :
 GS n a B bo bx bl bg (lv ++ [x]) F r v1 vo vr (w8.setCell ⟨bl, 0, none⟩ v1) := by
 obtain ⟨⟨b1, b2, b3, b4⟩, _⟩ := hb
 obtain ⟨rows, h3, h4⟩ := h.oo
 have hlow : ∀ b, b < B → vl.ownBlock ≠ some b := fun b hb e => by have := (h.ol.lt b e).1; omega
 have x1 := blk_not h.ord hg (hlow bo b1)
 have x2 := blk_not h.out hg (hlow bx b2)
 have x3 := blk_not h.line hg (hlow bl b3)
 have x4 := blk_not h.grow hg (hlow bg b4)
 have y1 := own_not h3 hg (own_two h3 h.ol (by decide))
 have hsg := setGrown w8 ⟨bl, 0, none⟩ v1
 have hob : vo.ownBlock ≠ some bl := fun e => by have := (h3.lt bl e).1; omega
 refine ⟨x1.far (p := ⟨bl, 0, none⟩) (blk_neM x1 x3 (by decide)) _, x4.far (p := ⟨bl, 0, none⟩) (blk_neM x4 x3 (by decide)) _, x2.far (p := ⟨bl, 0, none⟩) (blk_neM x2 x3 (by decide)) _, x3.set 0 _, ?_, ⟨rows, own_off y1 hsg hob, h4⟩, fun e => own_grown (own_not (h.fst e) hg h.ne) x3 (by decide) hsg, h.nil, fun g hg => ?_⟩
 · rw [List.length_append, List.length_singleton, iV_snoc]
   exact own_grown ho x3 (by decide) hsg
 · intro e
   rcases hat with e2 | e2
   · exact h.ne g hg (e2.symm.trans e)
   · rw [e2] at e
     cases e
     have := (h.lt (.inr (.inr hg))).2
     omega
theorem push_own2 {v1 : Value} (hat : v1.ownBlock = vl.ownBlock ∨ v1.ownBlock = some W.heap.size) : ∀ g, Own3 v1 vo vr g → Own3 vl vo vr g ∨ W.heap.size ≤ g := fun g hg => by
 rcases hg with hg | hg | hg
 · rcases hat with e | e
   · exact .inl (.inl (e.symm.trans hg))
   · rw [e] at hg
     cases hg
     exact .inr (Nat.le_refl _)
 · exact .inl (.inr (.inl hg))
 · exact .inl (.inr (.inr hg))
theorem linePush_chs {w8 : World} {v1 : Value} (hg : W.grownBy w8 vl.ownBlock) : Chs (grS bx bl vl vo vr) W (w8.setCell ⟨bl, 0, none⟩ v1) :=
 Chs.trans (w' := w8) ⟨hg.os, hg.tape, hg.output, hg.size, fun i hi hn => hg.block i hi fun e => hn (.inr (.inr (.inl e.symm)))⟩ (Chs.setCell (S := grS bx bl vl vo vr) (a := ⟨bl, 0, none⟩) (.inr (.inl rfl)) v1)
theorem own_same (L : Option Addr) (n c m d : Nat) : (Value.slice L n c).ownBlock = (Value.slice L m d).ownBlock := by cases L <;> rfl
/-- The line loses its last. -/
theorem GS.lineCut {x : Nat} {L : Option Addr} {lc : Nat} (h : GS n a B bo bx bl bg (lv ++ [x]) F r (.slice L (lv.length + 1) lc) vo vr W) (hb : BxL B bo bx bl bg) : GS n a B bo bx bl bg lv F r (.slice L lv.length lc) vo vr (W.setCell ⟨bl, 0, none⟩ (.slice L lv.length lc)) := by
 obtain ⟨⟨b1, b2, b3, b4⟩, _⟩ := hb
 obtain ⟨rows, h3, h4⟩ := h.oo
 have hsg := setGrown W ⟨bl, 0, none⟩ (.slice L lv.length lc)
 have hob : vo.ownBlock ≠ some bl := fun e => by have := (h3.lt bl e).1; omega
 have hl := h.ol
 rw [List.length_append, List.length_singleton, iV_snoc] at hl
 have hl2 := own_cut hl (k := lv.length) (by omega) (by omega)
 rw [List.take_append_of_le_length (by simp), List.take_of_length_le (by simp)] at hl2
 exact ⟨h.ord.far (p := ⟨bl, 0, none⟩) (blk_neM h.ord h.line (by decide)) _, h.grow.far (p := ⟨bl, 0, none⟩) (blk_neM h.grow h.line (by decide)) _, h.out.far (p := ⟨bl, 0, none⟩) (blk_neM h.out h.line (by decide)) _, h.line.set 0 _, own_grown hl2 h.line (by decide) hsg, ⟨rows, own_off h3 hsg hob, h4⟩, fun e => own_grown (h.fst e) h.line (by decide) hsg, h.nil, fun g hg e => h.ne g hg ((own_same L _ _ _ _).trans e)⟩
theorem GS.keeps (h : GS n a B bo bx bl bg lv F r vl vo vr W) {W' : World} (hc : Chs (grS bx bl vl vo vr) W W') {i : Nat} {o : Obj} (ho : W.heap[i]? = some o) (hk : o.isCells = false) : W'.heap[i]? = some o := by
 refine (hc.block i (lt_of_some ho) fun e => ?_).trans ho
 rcases e with e | e | e
 · have h2 : W.heap[bx]? = some (.cells #[vo] 39 (0, 0)) := h.out
   rw [e, h2] at ho; cases ho; cases hk
 · have h2 : W.heap[bl]? = some (.cells #[vl] 36 (0, 0)) := h.line
   rw [e, h2] at ho; cases ho; cases hk
 · obtain ⟨c, t, h2⟩ := h.isc e
   rw [h2] at ho; cases ho; cases hk
end
/-- What stands between the rounds over the elements that are left. -/
def GI (n : Nat) (a : Nat → Nat → Bool) (B bo bx bl bg : Nat) (lv F : List Nat) (s r m H : Nat) (vl vo vr : Value) (k : Nat) (W : World) : Prop :=
 ∃ r' vl' vo' vr', r' ≤ r + k * m ∧ (r' = 0 → r = 0 ∧ ∀ i ∈ (bitsL s).take k, minB n a s i = false) ∧ GS n a B bo bx bl bg lv F r' vl' vo' vr' W ∧ ∀ g, Own3 vl' vo' vr' g → Own3 vl vo vr g ∨ H ≤ g
theorem GI.ownFrom {n : Nat} {a : Nat → Nat → Bool} {B bo bx bl bg : Nat} {lv F : List Nat} {s r m H : Nat} {vl vo vr : Value} (C : Nat) : OwnFrom C (fun k W => GI n a B bo bx bl bg lv F s r m H vl vo vr k W) := fun k X Y row h hg hr => by
 obtain ⟨r', vl', vo', vr', h1, h2, h3, h4⟩ := h
 exact ⟨r', vl', vo', vr', h1, h2, GS.ownFrom (β := Unit) C () X Y row h3 hg hr, h4⟩
theorem GI.far {n : Nat} {a : Nat → Nat → Bool} {B bo bx bl bg : Nat} {lv F : List Nat} {s r m H k : Nat} {vl vo vr : Value} {W : World} (h : GI n a B bo bx bl bg lv F s r m H vl vo vr k W) (hb : BxL B bo bx bl bg) {p : Addr} (h1 : B ≤ p.block) (h2 : ¬ Own3 vl vo vr p.block) (h3 : p.block < H) (u : Value) : GI n a B bo bx bl bg lv F s r m H vl vo vr k (W.setCell p u) := by
 obtain ⟨r', vl', vo', vr', k1, k2, k3, k4⟩ := h
 obtain ⟨⟨b1, b2, b3, b4⟩, _⟩ := hb
 exact ⟨r', vl', vo', vr', k1, k2, k3.far (by omega) (fun e => by
  rcases k4 _ e with e | e
  · exact h2 e
  · omega) u, k4⟩
theorem min_some {n : Nat} {a : Nat → Nat → Bool} (hn : n ≤ 6) (ho : OrdOk n a) {s : Nat} (hs : s < 2 ^ n) (h0 : s ≠ 0) : ¬ ∀ i ∈ (bitsL s).take (bitsL s).length, minB n a s i = false := fun h => by
 obtain ⟨i, h1, h2, h3⟩ := first_some hn ho hs h0
 have := h i (by rw [List.take_length]; exact (mem_bits (p64 hn hs)).2 h2)
 rw [h3] at this
 cases this
end
/- Walk of lines' closure, at any order of one to six elements. Conditions: the boxes are as GS says; the library's table stands. -/
section
open Go.RowKit Go.Shelf
attribute [local go_sem] Oper.semAt_some
/-- The walk's slots behind a round's first region. -/
def grR (bx bl bo bg b5 x : Nat) (s22 : Value) (f : Nat → Value) : Array Value := #[f 0, .pointer (some ⟨bx, 0, none⟩), .pointer (some ⟨bl, 0, none⟩), .pointer (some ⟨bo, 0, none⟩), .pointer (some ⟨bg, 0, none⟩), .pointer (some ⟨b5, 0, none⟩), .int .i64 (x : Nat), f 7, f 8, f 9, f 10, f 11, f 12, f 13, f 14, f 15, f 16, f 17, f 18, f 19, f 20, f 21, s22, f 23, f 24, f 25, f 26, f 27, f 28, f 29, f 30, f 31, f 32, f 33, f 34, f 35, f 36, f 37]
theorem grR_ex {bx bl bo bg b5 x : Nat} {s22 : Value} {T : Array Value} {D : List Deferred} (h : T = grR bx bl bo bg b5 x s22 (fun i => T.getD i undef)) : ∃ f, ({ tmps := T, defers := D } : Act) = { tmps := grR bx bl bo bg b5 x s22 f, defers := D } := ⟨_, congrArg (fun T => ({ tmps := T, defers := D } : Act)) h⟩
def grZ (bx bl bo bg b5 : Nat) (f : Nat → Value) : Array Value := #[f 0, .pointer (some ⟨bx, 0, none⟩), .pointer (some ⟨bl, 0, none⟩), .pointer (some ⟨bo, 0, none⟩), .pointer (some ⟨bg, 0, none⟩), .pointer (some ⟨b5, 0, none⟩), f 6, f 7, f 8, f 9, f 10, f 11, f 12, f 13, f 14, f 15, f 16, f 17, f 18, f 19, f 20, f 21, f 22, f 23, f 24, f 25, f 26, f 27, f 28, f 29, f 30, f 31, f 32, f 33, f 34, f 35, f 36, f 37]
theorem grZ_ex {bx bl bo bg b5 : Nat} {T : Array Value} {D : List Deferred} (h : T = grZ bx bl bo bg b5 (fun i => T.getD i undef)) : ∃ f, ({ tmps := T, defers := D } : Act) = { tmps := grZ bx bl bo bg b5 f, defers := D } := ⟨_, congrArg (fun T => ({ tmps := T, defers := D } : Act)) h⟩
set_option maxRecDepth 100000 in
set_option maxHeartbeats 4000000 in
theorem growZ (n : Nat) (a : Nat → Nat → Bool) (B bo bx bl bg : Nat) (lv F : List Nat) (r : Nat) (vl vo vr : Value) (w : World) (h : GS n a B bo bx bl bg lv F r vl vo vr w) (hl : lv.length ≤ 6) (hF : r = 0 → F = lv) (hr : r ≤ 900000) (hT : Tab w) (hB : B ≤ w.heap.size) (hb : BxL B bo bx bl bg) :
 Calls Tryz.prog 73 #[.int .i64 0, .pointer (some ⟨bx, 0, none⟩), .pointer (some ⟨bl, 0, none⟩), .pointer (some ⟨bo, 0, none⟩), .pointer (some ⟨bg, 0, none⟩)] w fun e w' => e = .returned (.tuple #[]) ∧ GrowR n a B bo bx bl bg lv F r 1 vl vo vr w w' := by
 refine (callsIn_wide (n := 9)).1 ?_
 refine callsIn_of_wp_marks Tryz.func73 rfl trivial ?_ rfl
 simp only [Tryz.ntmps73, List.size_toArray, List.length_cons, List.length_nil, Nat.reduceAdd, Nat.reduceSub, Array.replicate_succ, Array.replicate_zero, List.push_toArray, List.append_toArray, List.nil_append, List.cons_append]
 obtain ⟨A, c, rfl⟩ := own_form h.ol
 obtain ⟨O, oc, rfl⟩ := (fun ⟨rows, h1, _⟩ => own_form h1 : (∃ rows, w.ownsRow B 36 1 vo r rows ∧ (r ≠ 0 → rows[0]? = some vr)) → ∃ A c, vo = .slice A r c) h.oo
 have bA := (Below.refl w.heap.size w).alloc (Nat.le_refl _) (.cells #[.int .i64 0] 3)
 have HG := hid (h.keep bA)
 have H5 := hid (Blk.new w 3 #[.int .i64 0])
 have HB1 := hid bA
 have HT := hid (hT.below bA)
 have HVL := hid fun g (hg : (Value.slice A lv.length c).ownBlock = some g) => (h.ol.lt g hg).2
 have HOW := hid fun g hg => (h.lt (g := g) hg).2
 have HBB := hid hb
 have HBS := hid hB
 have HFF := hid hF
 have HNS := hid (h.notS hb)
 have HSZ := hid (show (w.alloc (.cells #[.int .i64 0] 3)).heap.size = w.heap.size + 1 from by simp)
 have HN5 := hid (show ¬ grS bx bl (.slice A lv.length c) (.slice O r oc) vr w.heap.size from fun e => by
  have := hb.1
  rcases e with e | e | e
  · omega
  · omega
  · have := (h.lt e).2; omega)
 have k0 := (Blk.new w 3 #[.int .i64 0]).cell 0
 simp only [List.getElem?_toArray, List.getElem?_cons_zero] at k0
 clear h hT bA hb hF hB
 gi_wp2_with fail
 clear k0
 generalize w.alloc (.cells #[.int .i64 0] 3) = W at *
 obtain ⟨i0, hi0, hz0, hz1, hzz⟩ := info_parts TII.inf
 refine wpIn_mono (Q := fun e t wx => match e with | .normal => (∃ f, t = ({ tmps := grZ bx bl bo bg w.heap.size f, defers := [] } : Act)) ∧ (∃ vo' vr', GS n a B bo bx bl bg lv F (r + 1) (.slice A lv.length c) vo' vr' wx ∧ (∀ g, Own3 (.slice A lv.length c) vo' vr' g → Own3 (.slice A lv.length c) (.slice O r oc) vr g ∨ w.heap.size ≤ g)) ∧ Chs (grS bx bl (.slice A lv.length c) (.slice O r oc) vr) W wx | _ => False) ?first ?rest
 case first =>
  have KL := hid HG.out.line
  clear HT HN5 HNS H5
  refine region_wide (S := (fun w' => w'.cell? ⟨bl, 0, none⟩ = some (.slice A lv.length c))) (by kernel_rfl) (by kernel_rfl) (by rintro ⟨_, _, h⟩; exact h) (by (try dsimp only); (first | exact KL.out.cell 0 | exact KL.out.drew.cell 0)) (fun hHeld => ?_)
  have KG := hid (HG.out.keep (Below.refl W.heap.size W).drew); have HBX := hid (Below.refl W.heap.size W).drew
  have HCL := hid fun (X : World) (hX : Sl X A lv.length c (iV lv)) => cloneI A lv.length c (iV lv) (by simp [iV, Value.oneCell']) (by omega) X hX
  generalize W.drew = X1 at *
  obtain ⟨X, rfl⟩ : ∃ Y, Y = X1 := ⟨X1, rfl⟩
  refine tk ?_ 1 (some 10) rfl rfl ?_ ?_; rotate_left; · (intro w hSw; (try dsimp only at hSw); go_simp <;> with_reducible rfl)
  try simp only [Act.put,qA,qB,qC]
  refine wpAnyH_ready (rs := [0, 2]) (by kernel_rfl) (by simp) ?_
  refine AllReadyH.cons rfl (fun K hK => ?_) (AllReadyH.cons rfl (fun K hK => ?_) (AllReadyH.nil))
  · have z1 := KG.out.out.cell 0
    simp only [List.getElem?_toArray, List.getElem?_cons_zero] at z1
    go_simp
    clear z1
    have KL := hid KG.out.line
    clear hHeld
    refine hK.out _ _ ?_ (fun hHeld => ?_); · ((try dsimp only); (first | exact KL.out.cell 0 | exact KL.out.drew.cell 0))
    clear hK K
    try simp only [Act.put,qA,qB,qC]
    refine st 2 rfl fun K hK => ?_
    go_simp
    refine (HCL.out _ (Sl.of_own KG.out.ol)).mono ?_; rintro e X ⟨R, rc, rfl, hr2, bb⟩
    have HR := hid (own_more hr2 (base' := w.heap.size) (by have := HBX.out.size; have := HSZ.out; omega)); have KG := hid (KG.out.keep bb); have HBX := hid (below_call HBX.out bb HBX.out.size)
    have KL := hid KG.out.line
    clear hr2 bb hHeld
    refine hK.out _ _ ?_ (fun hHeld => ?_); · ((try dsimp only); (first | exact KL.out.cell 0 | exact KL.out.drew.cell 0))
    clear hK K
    try simp only [Act.put,qA,qB,qC]
    refine st 3 rfl fun K hK => ?_
    go_simp
    have bb := (Below.refl X.heap.size X).alloc (Nat.le_refl _) (.cells #[.slice R lv.length rc] 36)
    have HR := hid (own_below HR.out bb); have KG := hid (KG.out.keep bb); have HBX := hid (below_call HBX.out bb HBX.out.size)
    have KL := hid KG.out.line
    clear bb hHeld
    refine hK.out _ _ ?_ (fun hHeld => ?_); · ((try dsimp only); (first | exact KL.out.cell 0 | exact KL.out.drew.cell 0))
    clear hK K
    try simp only [Act.put,qA,qB,qC]
    refine st 4 rfl fun K hK => ?_
    have hBq : B ≤ (X.alloc (.cells #[.slice R lv.length rc] 36)).heap.size := by have := HBX.out.size; have := HSZ.out; have := HBS.out; omega
    obtain ⟨rows, hro, hr0⟩ := KG.out.oo
    refine step_append_lies _ rfl (.tmp 9) (.tmp 12) 39 rfl B 36 i0 (.slice none 0 0) 1 24 TII.und hi0 hz0 hz1 hzz TII.zc TII.sz (.slice O r oc) r rows rfl hro _ 1 1 (#[.slice R lv.length rc] : Array Value).toList rfl rfl (cells_new _ _ _) (by simp [Value.oneCell']) (by decide) (by unfold maxLen; omega) (by omega) hBq _ rfl ?_; intro g cap wA howA hgA hatA hltA
    have HP := hid (KG.out.push HBB.out HFF.out HR.out HBS.out HVL.out hro hr0 howA hgA)
    have hol : ∀ b, b < B → (Value.slice O r oc).ownBlock ≠ some b := fun b hb e => by have := (hro.lt b e).1; omega
    have KL := hid (blk_not KG.out.line hgA (hol bl HBB.out.1.2.2.1))
    have KX := hid (blk_not KG.out.out hgA (hol bx HBB.out.1.2.1))
    have HCH := hid (push_chs (w := W) (bx := bx) (bl := bl) (vl := .slice A lv.length c) (vo := .slice O r oc) (vr := vr) (v := .slice (some ⟨g, 0, none⟩) (r + 1) cap) HBX.out hgA)
    have HPO := hid (push_own (vl := .slice A lv.length c) (vo := .slice O r oc) (vr := vr) (r := r) (R := R) (m := lv.length) (rc := rc) (cap := cap) (C := w.heap.size) (fun k hk => (HR.out.lt k hk).1) hatA (by have := HBX.out.size; have := HSZ.out; omega))
    clear hro hr0 howA hgA hatA hltA hBq hol hHeld HCL
    refine hK.out _ _ ?_ (fun hHeld => ?_); · ((try dsimp only); (first | exact KL.out.cell 0 | exact KL.out.drew.cell 0))
    clear hK K
    try simp only [Act.put, List.setIfInBounds_toArray]
    refine st 5 rfl fun K hK => ?_
    have z5 := KX.out.cell 0
    have g5 := KX.out.free 0
    simp only [List.getElem?_toArray, List.getElem?_cons_zero] at z5
    go_simp
    clear z5 g5
    have KL := hid (KL.out.far (p := ⟨bx, 0, none⟩) (blk_neM KL.out KX.out (by decide)) (.slice (some ⟨g, 0, none⟩) (r + 1) cap))
    clear hHeld
    refine hK.out _ _ ?_ (fun hHeld => ?_); · ((try dsimp only); (first | exact KL.out.cell 0 | exact KL.out.drew.cell 0))
    clear hK K
    try simp only [Act.put,qA,qB,qC]
    refine wpAnyH_done (by kernel_rfl) ?_ _
    exact And.intro (grZ_ex rfl) (And.intro ⟨_, _, HP.out, HPO.out⟩ HCH.out)
  · go_simp
    refine (HCL.out _ (Sl.of_own KG.out.ol)).mono ?_; rintro e X ⟨R, rc, rfl, hr2, bb⟩
    have HR := hid (own_more hr2 (base' := w.heap.size) (by have := HBX.out.size; have := HSZ.out; omega)); have KG := hid (KG.out.keep bb); have HBX := hid (below_call HBX.out bb HBX.out.size)
    have KL := hid KG.out.line
    clear hr2 bb hHeld
    refine hK.out _ _ ?_ (fun hHeld => ?_); · ((try dsimp only); (first | exact KL.out.cell 0 | exact KL.out.drew.cell 0))
    clear hK K
    try simp only [Act.put,qA,qB,qC]
    refine wpAnyH_ready (rs := [0, 3]) (by kernel_rfl) (by simp) ?_
    refine AllReadyH.cons rfl (fun K hK => ?_) (AllReadyH.cons rfl (fun K hK => ?_) (AllReadyH.nil))
    · have z1 := KG.out.out.cell 0
      simp only [List.getElem?_toArray, List.getElem?_cons_zero] at z1
      go_simp
      clear z1
      have KL := hid KG.out.line
      clear hHeld
      refine hK.out _ _ ?_ (fun hHeld => ?_); · ((try dsimp only); (first | exact KL.out.cell 0 | exact KL.out.drew.cell 0))
      clear hK K
      try simp only [Act.put,qA,qB,qC]
      refine st 3 rfl fun K hK => ?_
      go_simp
      have bb := (Below.refl X.heap.size X).alloc (Nat.le_refl _) (.cells #[.slice R lv.length rc] 36)
      have HR := hid (own_below HR.out bb); have KG := hid (KG.out.keep bb); have HBX := hid (below_call HBX.out bb HBX.out.size)
      have KL := hid KG.out.line
      clear bb hHeld
      refine hK.out _ _ ?_ (fun hHeld => ?_); · ((try dsimp only); (first | exact KL.out.cell 0 | exact KL.out.drew.cell 0))
      clear hK K
      try simp only [Act.put,qA,qB,qC]
      refine st 4 rfl fun K hK => ?_
      have hBq : B ≤ (X.alloc (.cells #[.slice R lv.length rc] 36)).heap.size := by have := HBX.out.size; have := HSZ.out; have := HBS.out; omega
      obtain ⟨rows, hro, hr0⟩ := KG.out.oo
      refine step_append_lies _ rfl (.tmp 9) (.tmp 12) 39 rfl B 36 i0 (.slice none 0 0) 1 24 TII.und hi0 hz0 hz1 hzz TII.zc TII.sz (.slice O r oc) r rows rfl hro _ 1 1 (#[.slice R lv.length rc] : Array Value).toList rfl rfl (cells_new _ _ _) (by simp [Value.oneCell']) (by decide) (by unfold maxLen; omega) (by omega) hBq _ rfl ?_; intro g cap wA howA hgA hatA hltA
      have HP := hid (KG.out.push HBB.out HFF.out HR.out HBS.out HVL.out hro hr0 howA hgA)
      have hol : ∀ b, b < B → (Value.slice O r oc).ownBlock ≠ some b := fun b hb e => by have := (hro.lt b e).1; omega
      have KL := hid (blk_not KG.out.line hgA (hol bl HBB.out.1.2.2.1))
      have KX := hid (blk_not KG.out.out hgA (hol bx HBB.out.1.2.1))
      have HCH := hid (push_chs (w := W) (bx := bx) (bl := bl) (vl := .slice A lv.length c) (vo := .slice O r oc) (vr := vr) (v := .slice (some ⟨g, 0, none⟩) (r + 1) cap) HBX.out hgA)
      have HPO := hid (push_own (vl := .slice A lv.length c) (vo := .slice O r oc) (vr := vr) (r := r) (R := R) (m := lv.length) (rc := rc) (cap := cap) (C := w.heap.size) (fun k hk => (HR.out.lt k hk).1) hatA (by have := HBX.out.size; have := HSZ.out; omega))
      clear hro hr0 howA hgA hatA hltA hBq hol hHeld HCL
      refine hK.out _ _ ?_ (fun hHeld => ?_); · ((try dsimp only); (first | exact KL.out.cell 0 | exact KL.out.drew.cell 0))
      clear hK K
      try simp only [Act.put, List.setIfInBounds_toArray]
      refine st 5 rfl fun K hK => ?_
      have z5 := KX.out.cell 0
      have g5 := KX.out.free 0
      simp only [List.getElem?_toArray, List.getElem?_cons_zero] at z5
      go_simp
      clear z5 g5
      have KL := hid (KL.out.far (p := ⟨bx, 0, none⟩) (blk_neM KL.out KX.out (by decide)) (.slice (some ⟨g, 0, none⟩) (r + 1) cap))
      clear hHeld
      refine hK.out _ _ ?_ (fun hHeld => ?_); · ((try dsimp only); (first | exact KL.out.cell 0 | exact KL.out.drew.cell 0))
      clear hK K
      try simp only [Act.put,qA,qB,qC]
      refine wpAnyH_done (by kernel_rfl) ?_ _
      exact And.intro (grZ_ex rfl) (And.intro ⟨_, _, HP.out, HPO.out⟩ HCH.out)
    · go_simp
      have bb := (Below.refl X.heap.size X).alloc (Nat.le_refl _) (.cells #[.slice R lv.length rc] 36)
      have HR := hid (own_below HR.out bb); have KG := hid (KG.out.keep bb); have HBX := hid (below_call HBX.out bb HBX.out.size)
      have KL := hid KG.out.line
      clear bb hHeld
      refine hK.out _ _ ?_ (fun hHeld => ?_); · ((try dsimp only); (first | exact KL.out.cell 0 | exact KL.out.drew.cell 0))
      clear hK K
      try simp only [Act.put,qA,qB,qC]
      refine st 0 rfl fun K hK => ?_
      have z1 := KG.out.out.cell 0
      simp only [List.getElem?_toArray, List.getElem?_cons_zero] at z1
      go_simp
      clear z1
      have KL := hid KG.out.line
      clear hHeld
      refine hK.out _ _ ?_ (fun hHeld => ?_); · ((try dsimp only); (first | exact KL.out.cell 0 | exact KL.out.drew.cell 0))
      clear hK K
      try simp only [Act.put,qA,qB,qC]
      refine st 4 rfl fun K hK => ?_
      have hBq : B ≤ (X.alloc (.cells #[.slice R lv.length rc] 36)).heap.size := by have := HBX.out.size; have := HSZ.out; have := HBS.out; omega
      obtain ⟨rows, hro, hr0⟩ := KG.out.oo
      refine step_append_lies _ rfl (.tmp 9) (.tmp 12) 39 rfl B 36 i0 (.slice none 0 0) 1 24 TII.und hi0 hz0 hz1 hzz TII.zc TII.sz (.slice O r oc) r rows rfl hro _ 1 1 (#[.slice R lv.length rc] : Array Value).toList rfl rfl (cells_new _ _ _) (by simp [Value.oneCell']) (by decide) (by unfold maxLen; omega) (by omega) hBq _ rfl ?_; intro g cap wA howA hgA hatA hltA
      have HP := hid (KG.out.push HBB.out HFF.out HR.out HBS.out HVL.out hro hr0 howA hgA)
      have hol : ∀ b, b < B → (Value.slice O r oc).ownBlock ≠ some b := fun b hb e => by have := (hro.lt b e).1; omega
      have KL := hid (blk_not KG.out.line hgA (hol bl HBB.out.1.2.2.1))
      have KX := hid (blk_not KG.out.out hgA (hol bx HBB.out.1.2.1))
      have HCH := hid (push_chs (w := W) (bx := bx) (bl := bl) (vl := .slice A lv.length c) (vo := .slice O r oc) (vr := vr) (v := .slice (some ⟨g, 0, none⟩) (r + 1) cap) HBX.out hgA)
      have HPO := hid (push_own (vl := .slice A lv.length c) (vo := .slice O r oc) (vr := vr) (r := r) (R := R) (m := lv.length) (rc := rc) (cap := cap) (C := w.heap.size) (fun k hk => (HR.out.lt k hk).1) hatA (by have := HBX.out.size; have := HSZ.out; omega))
      clear hro hr0 howA hgA hatA hltA hBq hol hHeld HCL
      refine hK.out _ _ ?_ (fun hHeld => ?_); · ((try dsimp only); (first | exact KL.out.cell 0 | exact KL.out.drew.cell 0))
      clear hK K
      try simp only [Act.put, List.setIfInBounds_toArray]
      refine st 5 rfl fun K hK => ?_
      have z5 := KX.out.cell 0
      have g5 := KX.out.free 0
      simp only [List.getElem?_toArray, List.getElem?_cons_zero] at z5
      go_simp
      clear z5 g5
      have KL := hid (KL.out.far (p := ⟨bx, 0, none⟩) (blk_neM KL.out KX.out (by decide)) (.slice (some ⟨g, 0, none⟩) (r + 1) cap))
      clear hHeld
      refine hK.out _ _ ?_ (fun hHeld => ?_); · ((try dsimp only); (first | exact KL.out.cell 0 | exact KL.out.drew.cell 0))
      clear hK K
      try simp only [Act.put,qA,qB,qC]
      refine wpAnyH_done (by kernel_rfl) ?_ _
      exact And.intro (grZ_ex rfl) (And.intro ⟨_, _, HP.out, HPO.out⟩ HCH.out)
 case rest =>
  intro e t wx hq
  cases e <;> first | exact hq.elim | skip
  obtain ⟨⟨f, rfl⟩, ⟨vo', vr', hg, hown⟩, hch⟩ := hq
  have HGX := hid hg
  have HOX := hid hown
  have HCW := hid ((Chs.of_below HB1.out).trans hch)
  have HTWX := hid (HT.out.chs hch HNS.out)
  have k5 := (hch.blk H5.out HN5.out).cell 0
  simp only [List.getElem?_toArray, List.getElem?_cons_zero] at k5
  clear hg hown hch HG
  unfold grZ
  gi_wp2
  refine ⟨trivial, (callsIn_wide.2 (elementsF 0 _)).mono ?_⟩
  rintro e w' ⟨rfl, rfl⟩
  have bG := (Below.refl wx.heap.size wx).alloc (Nat.le_refl _) (.cells #[.int .i64 0] 3)
  have GC := hid (Blk.new wx 3 #[.int .i64 0])
  have GG := hid (HGX.out.keep bG)
  have GH := hid (HCW.out.trans (Chs.of_below bG))
  have HSX := hid (show w.heap.size ≤ wx.heap.size from HCW.out.size)
  have HWX := hid fun g (hg : Own3 (.slice A lv.length c) vo' vr' g) => (HGX.out.lt hg).2
  have HSG := hid (show (wx.alloc (.cells #[.int .i64 0] 3)).heap.size = wx.heap.size + 1 from by simp)
  have HTX := hid (HTWX.out.below bG)
  clear k5 bG
  gi_wp2
  generalize wx.alloc (.cells #[.int .i64 0] 3) = G at *
  refine wp_range (n := 9) (gf := 109) (c := wx.heap.size) (t := 3) (xs := []) rfl (fun args w => enters Tryz.func109 (by kernel_rfl) rfl args w) GC.out (elems_iter 8 _ 0 [] G rfl GC.out) rfl
   (fun _ W => (GS n a B bo bx bl bg lv F (r + 1) (.slice A lv.length c) vo' vr' W ∧ Chs (grS bx bl (.slice A lv.length c) (.slice O r oc) vr) w W) ∧ Tab W)
   (fun _ _ => False) ?_ (fun _ _ _ _ _ hs _ _ => hs) ?_ (fun _ _ h => h.2) ⟨⟨GG.out, GH.out⟩, HTX.out⟩ ?_ ?_ (fun _ _ _ _ h _ => h.elim)
  · have := HSX.out
    have := HSG.out
    have := HBB.out.2.1
    have := HBS.out
    exact OwnFrom.and (OwnFrom.and (GS.ownFrom _) (ownFrom_chs (by omega))) (ownFrom_tab (by omega))
  · rintro k W v ⟨⟨h1, h2⟩, h3⟩
    have := HSX.out
    have := HBB.out.2.1
    have := HBB.out.1
    have := HBS.out
    exact ⟨⟨h1.far (p := ⟨wx.heap.size, 0, none⟩) (by simp only; omega) (fun e => by have := HWX.out _ e; simp only at this; omega) v, h2.trans2 (p := ⟨wx.heap.size, 0, none⟩) (by simp only; omega) v⟩, h3.grown (setGrown W ⟨wx.heap.size, 0, none⟩ v) (by simp; omega)⟩
  · intro l k x W W2 _ _ _ hx
    simp at hx
  · rintro D W hD ⟨⟨h1, h2⟩, h3⟩ hK
    have G0 := hid h1
    have GA := hid h2
    have GK := hid hK
    clear h1 h2 h3 hK
    gi_wp2
    have := HSX.out
    have := HSG.out
    refine ⟨by simp, .inl ⟨_, _, rfl, run_takeDeferred GK.out, ?_⟩⟩
    exact ⟨_, results_none rfl _ _ _, rfl, ⟨_, _, _, _, by omega, Nat.le_refl _, GS.ownFrom (β := Unit) G.heap.size () _ _ (some D) G0.out (grownBy_putObj' W D _) (fun r e => by cases e; exact ⟨hD, _, GK.out, rfl⟩), HOX.out⟩, ownFrom_chs (β := Unit) (B := G.heap.size) (by omega) () _ _ (some D) GA.out (grownBy_putObj' W D _) (fun r e => by cases e; exact ⟨hD, _, GK.out, rfl⟩)⟩
end
end Go.Proofs.YtnibidmlkbcfkaaGreatDoor
