/- Rows of fractions in memory: how they are read, written and exchanged; and the look for a row that is not 0 in a column. No condition. -/
import Derived.Test.YtnibidmlkbcfkaaGreatDoorT6
import Derived.Test.YtnibidmlkbcfkaaGreatDoorT7
namespace Go.Proofs.YtnibidmlkbcfkaaGreatDoor
open Go.RowKit Go.Maps
theorem own_set {w : World} {base g n c i size : Nat} {e : TypeId} {xs : List Value} (h : w.ownsRow base e size (.slice (some ⟨g, 0, none⟩) n c) n xs) (u : Value) (_hi : i < xs.length) : (w.setCell ⟨g, i, none⟩ u).ownsRow base e size (.slice (some ⟨g, 0, none⟩) n c) n (xs.set i u) := by
 refine ⟨by rw [List.length_set]; exact h.1, ?_⟩
 rcases h.2 with ⟨hv, _⟩ | ⟨g', cap, cur, hv, hb, hg, hc, hm, hs, ht⟩
 · simp at hv
 · simp at hv
   obtain ⟨rfl, rfl⟩ := hv
   refine .inr ⟨g, c, cur.setIfInBounds i u, rfl, hb, ?_, hc, hm, by rw [Array.size_setIfInBounds]; exact hs, ?_⟩
   · have hB : Blk w g e cur := hg
     exact hB.set i u
   · rw [← ht]
     rw [Array.toList_setIfInBounds, List.take_set]
theorem own_other {w : World} {base n size : Nat} {e : TypeId} {v : Value} {xs : List Value} (h : w.ownsRow base e size v n xs) (a : Addr) (u : Value) (hne : ∀ g, v.ownBlock = some g → g ≠ a.block) : (w.setCell a u).ownsRow base e size v n xs :=
 World.ownsRow.kept h (setGrown w a u) (by
  cases hv : v.ownBlock with
  | none => exact .inl rfl
  | some g => right; intro e'; exact hne g hv (by simpa using e'))
theorem own_free {w : World} {B : Nat} {e : TypeId} {size g n c : Nat} {xs : List Value} (h : w.ownsRow B e size (.slice (some ⟨g, 0, none⟩) n c) n xs) (i : Nat) : w.frozen? ⟨g, i, none⟩ = false := by
 obtain ⟨cs, hc⟩ := own_kind2 h g rfl
 simp [World.frozen?, hc]
theorem own_at {w : World} {B : Nat} {e : TypeId} {size g n c : Nat} {xs : List Value} (h : w.ownsRow B e size (.slice (some ⟨g, 0, none⟩) n c) n xs) {i : Nat} {u : Value} (hu : xs[i]? = some u) : w.cell? ⟨g, i, none⟩ = some u := by
 have := h.cells (g := g) rfl i u hu
 have hadd : (⟨g, 0, none⟩ : Addr).add i = ⟨g, i, none⟩ := by unfold Addr.add; split <;> simp_all
 rwa [hadd] at this
theorem own_cap {w : World} {B : Nat} {e : TypeId} {size g n c : Nat} {xs : List Value} (h : w.ownsRow B e size (.slice (some ⟨g, 0, none⟩) n c) n xs) : n ≤ c ∧ c ≤ maxLen := by
 rcases h.2 with ⟨hv, _⟩ | ⟨g', cap, cur, hv, hb, hg, hc, hm, hs, ht⟩
 · simp at hv
 · simp at hv
   obtain ⟨rfl, rfl⟩ := hv
   exact ⟨hc, hm⟩
/-- The cells of a row. -/
def rowC (k : Nat) (r : Nat → Int) : List Value := flat ((List.range (k + 1)).map fun c => tw (r c))
theorem rowC_len (k : Nat) (r : Nat → Int) : (rowC k r).length = (k + 1) * 2 := by simp [rowC, flat_len]
theorem rowC_get {k c : Nat} {r : Nat → Int} (h : c ≤ k) : (rowC k r)[c * 2]? = some (.int .i64 (tw (r c)).1) ∧ (rowC k r)[c * 2 + 1]? = some (.int .i64 (tw (r c)).2) :=
 flat_get _ _ _ (by rw [List.getElem?_map, List.getElem?_range (by omega)]; rfl)
theorem rowC_congr {k : Nat} {r s : Nat → Int} (h : ∀ c, c ≤ k → r c = s c) : rowC k r = rowC k s := by
 unfold rowC
 congr 1
 apply List.map_congr_left
 intro c hc
 rw [h c (by have := List.mem_range.1 hc; omega)]
theorem flat_set : ∀ (xs : List (Int × Int)) (j : Nat) (u : Int × Int), ((flat xs).set (j * 2) (.int .i64 u.1)).set (j * 2 + 1) (.int .i64 u.2) = flat (xs.set j u) := by
 intro xs
 induction xs with
 | nil => intro j u; rfl
 | cons v xs ih =>
  intro j u
  have e : ∀ v xs, flat (v :: xs) = .int .i64 v.1 :: .int .i64 v.2 :: flat xs := fun _ _ => rfl
  cases j with
  | zero => rfl
  | succ j =>
   rw [List.set_cons_succ, e, e, ← ih j u]
   rw [show (j + 1) * 2 = (j * 2) + 1 + 1 by omega]
   rfl
theorem rowC_set (k c : Nat) (r : Nat → Int) (v : Int) : ((rowC k r).set (c * 2) (.int .i64 (tw v).1)).set (c * 2 + 1) (.int .i64 (tw v).2) = rowC k (fun c' => if c' = c then v else r c') := by
 unfold rowC
 rw [flat_set]
 congr 1
 apply List.ext_getElem?
 intro i
 rw [List.getElem?_set, List.getElem?_map, List.getElem?_map]
 by_cases hi : i < k + 1
 · rw [List.getElem?_range hi]
   by_cases e : c = i
   · subst e; simp [hi]
   · rw [if_neg e]
     simp [Ne.symm e]
 · have hn : (List.range (k + 1))[i]? = none := List.getElem?_eq_none (by simp; omega)
   rw [hn]
   by_cases e : c = i
   · subst e; simp; omega
   · rw [if_neg e]; rfl
/-- m rows of k + 1 fractions, in memory of the call's own. -/
structure MatR (w : World) (B h mc m k : Nat) (gs cs : Nat → Nat) (f : Mx) : Prop where
 hd : w.ownsRow B 219 1 (.slice (some ⟨h, 0, none⟩) m mc) m ((List.range m).map fun i => .slice (some ⟨gs i, 0, none⟩) (k + 1) (cs i))
 row : ∀ i, i < m → w.ownsRow B 48 2 (.slice (some ⟨gs i, 0, none⟩) (k + 1) (cs i)) (k + 1) (rowC k (f i))
 inj : ∀ i j, i < m → j < m → gs i = gs j → i = j
section
variable {w w' : World} {B h mc m k : Nat} {gs cs : Nat → Nat} {f g : Mx}
theorem MatR.below (H : MatR w B h mc m k gs cs f) (hb : Below w.heap.size w w') : MatR w' B h mc m k gs cs f := ⟨own_below H.hd hb, fun i hi => own_below (H.row i hi) hb, H.inj⟩
theorem MatR.drewN (H : MatR w B h mc m k gs cs f) (n : Nat) : MatR (w.drewN n) B h mc m k gs cs f := ⟨H.hd, fun i hi => H.row i hi, H.inj⟩
theorem MatR.drew (H : MatR w B h mc m k gs cs f) : MatR w.drew B h mc m k gs cs f := ⟨H.hd, fun i hi => H.row i hi, H.inj⟩
theorem MatR.congr (H : MatR w B h mc m k gs cs f) (e : ∀ i c, i < m → c ≤ k → f i c = g i c) : MatR w B h mc m k gs cs g :=
 ⟨H.hd, fun i hi => by rw [← rowC_congr fun c hc => e i c hi hc]; exact H.row i hi, H.inj⟩
theorem MatR.ne (H : MatR w B h mc m k gs cs f) {i : Nat} (hi : i < m) : h ≠ gs i := by
 intro e
 rcases own_apart2 H.hd (H.row i hi) (by decide) with h1 | h1
 · simp [Value.ownBlock] at h1
 · exact h1 (by simp [Value.ownBlock, e])
theorem MatR.hat (H : MatR w B h mc m k gs cs f) {i : Nat} (hi : i < m) : w.cell? ⟨h, i, none⟩ = some (.slice (some ⟨gs i, 0, none⟩) (k + 1) (cs i)) :=
 own_at H.hd (by rw [List.getElem?_map, List.getElem?_range hi]; rfl)
theorem MatR.at (H : MatR w B h mc m k gs cs f) {i c : Nat} (hi : i < m) (hc : c ≤ k) : w.cell? ⟨gs i, c * 2, none⟩ = some (.int .i64 (tw (f i c)).1) ∧ w.cell? ⟨gs i, c * 2 + 1, none⟩ = some (.int .i64 (tw (f i c)).2) :=
 ⟨own_at (H.row i hi) (rowC_get hc).1, own_at (H.row i hi) (rowC_get hc).2⟩
theorem MatR.free (H : MatR w B h mc m k gs cs f) {i : Nat} (hi : i < m) (c : Nat) : w.frozen? ⟨gs i, c, none⟩ = false := own_free (H.row i hi) c
theorem MatR.hfree (H : MatR w B h mc m k gs cs f) (c : Nat) : w.frozen? ⟨h, c, none⟩ = false := own_free H.hd c
theorem MatR.lt (H : MatR w B h mc m k gs cs f) : B ≤ h ∧ h < w.heap.size := H.hd.lt h rfl
theorem MatR.rlt (H : MatR w B h mc m k gs cs f) {i : Nat} (hi : i < m) : B ≤ gs i ∧ gs i < w.heap.size := (H.row i hi).lt (gs i) rfl
theorem MatR.set (H : MatR w B h mc m k gs cs f) {i c : Nat} (hi : i < m) (hc : c ≤ k) (v : Int) :
 MatR ((w.setCell ⟨gs i, c * 2, none⟩ (.int .i64 (tw v).1)).setCell ⟨gs i, c * 2 + 1, none⟩ (.int .i64 (tw v).2)) B h mc m k gs cs (setF f i c v) := by
 have hne := H.ne hi
 refine ⟨own_other (own_other H.hd _ _ (fun g hg => by simp [Value.ownBlock] at hg; subst hg; exact hne)) _ _ (fun g hg => by simp [Value.ownBlock] at hg; subst hg; exact hne), fun j hj => ?_, H.inj⟩
 by_cases e : j = i
 · subst e
   have h1 := own_set (own_set (H.row j hj) (i := c * 2) (.int .i64 (tw v).1) (by rw [rowC_len]; omega)) (i := c * 2 + 1) (.int .i64 (tw v).2) (by rw [List.length_set, rowC_len]; omega)
   rw [rowC_set] at h1
   rw [← rowC_congr (r := fun c' => if c' = c then v else f j c') (s := setF f j c v j) (fun c' _ => by simp [setF])]
   exact h1
 · have hg : gs j ≠ gs i := fun e' => e (H.inj j i hj hi e')
   rw [← rowC_congr (r := f j) (s := setF f i c v j) (fun c' _ => by simp [setF, e])]
   exact own_other (own_other (H.row j hj) _ _ (fun g hg' => by simp [Value.ownBlock] at hg'; subst hg'; exact hg)) _ _ (fun g hg' => by simp [Value.ownBlock] at hg'; subst hg'; exact hg)
theorem MatR.setChs (H : MatR w B h mc m k gs cs f) {i c : Nat} (hi : i < m) (u v : Value) : Chs (B ≤ ·) w ((w.setCell ⟨gs i, c * 2, none⟩ u).setCell ⟨gs i, c * 2 + 1, none⟩ v) :=
 (Chs.setCell (S := (B ≤ ·)) (a := ⟨gs i, c * 2, none⟩) (H.rlt hi).1 u).trans (Chs.setCell (S := (B ≤ ·)) (a := ⟨gs i, c * 2 + 1, none⟩) (H.rlt hi).1 v)
def swG (gs : Nat → Nat) (j p : Nat) : Nat → Nat := fun i => if i = j then gs p else if i = p then gs j else gs i
theorem MatR.swap (H : MatR w B h mc m k gs cs f) {j p : Nat} (hj : j < m) (hp : p < m) :
 MatR ((w.setCell ⟨h, j, none⟩ (.slice (some ⟨gs p, 0, none⟩) (k + 1) (cs p))).setCell ⟨h, p, none⟩ (.slice (some ⟨gs j, 0, none⟩) (k + 1) (cs j))) B h mc m k (swG gs j p) (swG cs j p) (swapF f j p) := by
 refine ⟨?_, fun i hi => ?_, fun a b ha hb e => ?_⟩
 · have h1 := own_set (own_set H.hd (i := j) (.slice (some ⟨gs p, 0, none⟩) (k + 1) (cs p)) (by simpa using hj)) (i := p) (.slice (some ⟨gs j, 0, none⟩) (k + 1) (cs j)) (by simpa using hp)
   have e : (((List.range m).map fun i => Value.slice (some ⟨gs i, 0, none⟩) (k + 1) (cs i)).set j (.slice (some ⟨gs p, 0, none⟩) (k + 1) (cs p))).set p (.slice (some ⟨gs j, 0, none⟩) (k + 1) (cs j)) = (List.range m).map fun i => Value.slice (some ⟨swG gs j p i, 0, none⟩) (k + 1) (swG cs j p i) := by
    apply List.ext_getElem?
    intro i
    rw [List.getElem?_set, List.getElem?_set, List.getElem?_map, List.getElem?_map, List.length_set, List.length_map, List.length_range]
    by_cases hi : i < m
    · rw [List.getElem?_range hi]
      by_cases e1 : p = i
      · subst e1
        by_cases e2 : p = j
        · subst e2; simp [hi, swG]
        · simp [hi, swG, e2]
      · rw [if_neg e1]
        by_cases e2 : j = i
        · subst e2; simp [hi, swG]
        · rw [if_neg e2]; simp [swG, Ne.symm e1, Ne.symm e2]
    · have hn : (List.range m)[i]? = none := List.getElem?_eq_none (by simp; omega)
      rw [hn, if_neg (by omega), if_neg (by omega)]; rfl
   rw [e] at h1
   exact h1
 · have key : ∀ i, i < m → (((w.setCell ⟨h, j, none⟩ (.slice (some ⟨gs p, 0, none⟩) (k + 1) (cs p))).setCell ⟨h, p, none⟩ (.slice (some ⟨gs j, 0, none⟩) (k + 1) (cs j)))).ownsRow B 48 2 (.slice (some ⟨gs i, 0, none⟩) (k + 1) (cs i)) (k + 1) (rowC k (f i)) := fun i hi => by
    have hne := H.ne hi
    exact own_other (own_other (H.row i hi) _ _ (fun g hg' => by simp [Value.ownBlock] at hg'; subst hg'; exact Ne.symm hne)) _ _ (fun g hg' => by simp [Value.ownBlock] at hg'; subst hg'; exact Ne.symm hne)
   by_cases e1 : i = j
   · subst e1
     rw [show swG gs i p i = gs p from if_pos rfl, show swG cs i p i = cs p from if_pos rfl, show swapF f i p i = f p from funext fun c => if_pos rfl]
     exact key p hp
   · by_cases e2 : i = p
     · subst e2
       rw [show swG gs j i i = gs j by simp [swG, e1], show swG cs j i i = cs j by simp [swG, e1], show swapF f j i i = f j from funext fun c => by simp [swapF, e1]]
       exact key j hj
     · rw [show swG gs j p i = gs i by simp [swG, e1, e2], show swG cs j p i = cs i by simp [swG, e1, e2], show swapF f j p i = f i from funext fun c => by simp [swapF, e1, e2]]
       exact key i hi
 · have hk : ∀ x, x < m → ∃ y, y < m ∧ swG gs j p x = gs y ∧ ((x = j ∧ y = p) ∨ (x ≠ j ∧ x = p ∧ y = j) ∨ (x ≠ j ∧ x ≠ p ∧ y = x)) := fun x hx => by
    by_cases e1 : x = j
    · exact ⟨p, hp, by simp [swG, e1], .inl ⟨e1, rfl⟩⟩
    · by_cases e2 : x = p
      · exact ⟨j, hj, (if_neg e1).trans (if_pos e2), .inr (.inl ⟨e1, e2, rfl⟩)⟩
      · exact ⟨x, hx, (if_neg e1).trans (if_neg e2), .inr (.inr ⟨e1, e2, rfl⟩)⟩
   obtain ⟨y, hy, ey, hyc⟩ := hk a ha
   obtain ⟨z, hz, ez, hzc⟩ := hk b hb
   rw [ey, ez] at e
   have := H.inj y z hy hz e
   omega
theorem MatR.again (H : MatR w B h mc m k gs cs f) {j p : Nat} (hj : j < m) (hp : p < m) (u : Value) : ∃ v, (w.setCell ⟨h, j, none⟩ u).cell? ⟨h, p, none⟩ = some v ∧ (w.setCell ⟨h, j, none⟩ u).frozen? ⟨h, p, none⟩ = false := by
 have h1 := own_set H.hd (i := j) u (by simpa using hj)
 have hl : p < (((List.range m).map fun i => Value.slice (some ⟨gs i, 0, none⟩) (k + 1) (cs i)).set j u).length := by simpa using hp
 exact ⟨_, own_at h1 (List.getElem?_eq_getElem hl), own_free h1 p⟩
theorem blk_ne_own {b base size n : Nat} {t e : TypeId} {c : Array Value} {v : Value} {xs : List Value} (h : Blk w b t c) (o : w.ownsRow base e size v n xs) (hne : t ≠ e) : v.ownBlock ≠ some b := fun e' => by
 obtain ⟨c', hc'⟩ := own_kind2 o b e'
 unfold Blk at h
 rw [h] at hc'
 injection hc' with h1
 injection h1 with h2 h3
 exact hne h3
theorem MatR.swapChs (H : MatR w B h mc m k gs cs f) (j p : Nat) (u v : Value) : Chs (B ≤ ·) w ((w.setCell ⟨h, j, none⟩ u).setCell ⟨h, p, none⟩ v) :=
 (Chs.setCell (S := (B ≤ ·)) (a := ⟨h, j, none⟩) H.lt.1 u).trans (Chs.setCell (S := (B ≤ ·)) (a := ⟨h, p, none⟩) H.lt.1 v)
/-- A store into a block that is none of its own. -/
theorem MatR.far (H : MatR w B h mc m k gs cs f) {a : Addr} (u : Value) (hlt : a.block < B) : MatR (w.setCell a u) B h mc m k gs cs f :=
 ⟨own_other H.hd a u (fun g hg => by have := (H.hd.lt g hg).1; omega), fun i hi => own_other (H.row i hi) a u (fun g hg => by have := ((H.row i hi).lt g hg).1; omega), H.inj⟩
end
end Go.Proofs.YtnibidmlkbcfkaaGreatDoor
