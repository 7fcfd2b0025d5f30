/- The law's copies and the reference's beside them, whatever they hold. No condition. -/
import Derived.Test.YtkjinamjdjijcaaGreatDoorCopies
import Derived.Test.YtkjinamjdjijcaaGreatDoorRefK
import Derived.Test.YtkjinamjdjijcaaGreatDoorDo2
namespace Go.Proofs.YtkjinamjdjijcaaGreatDoor
open Go.RowKit Go.Maps

/-- What a copy holds. -/
structure CSt where
  mark : Int
  away : Bool
  e : Ents
def updS (st : Nat → CSt) (k : Nat) (s : CSt) : Nat → CSt := fun j => if j = k then s else st j
theorem updS_same (st : Nat → CSt) (k : Nat) (s : CSt) : updS st k s k = s := by simp [updS]
theorem updS_ne (st : Nat → CSt) {k j : Nat} (s : CSt) (h : j ≠ k) : updS st k s j = st j := by simp [updS, h]
/-- N copies that hold st, and N of the reference that hold sr. -/
structure Both (w W : World) (N : Nat) (A : Option Addr) (c : Nat) (R : Option Addr) (d : Nat) (L : List (Nat × Nat)) (M : List Nat) (st sr : Nat → CSt) : Prop where
  ownA : W.ownsRow w.heap.size 33 1 (.slice A N c) N (ptrs (L.map (·.1)))
  ownR : W.ownsRow w.heap.size 63 1 (.slice R N d) N (ptrs M)
  cp : ∀ (k : Nat) p, L[k]? = some p → CpM W p.1 p.2 (st k).mark (st k).away (st k).e ∧ w.heap.size ≤ p.1 ∧ w.heap.size ≤ p.2
  rf : ∀ (k : Nat) b, M[k]? = some b → RefM W b (sr k).mark (sr k).away (sr k).e ∧ w.heap.size ≤ b
  nod1 : (L.map (·.1)).Nodup
  nod2 : (L.map (·.2)).Nodup
  nodM : M.Nodup
  low : Below w.heap.size w W
section
variable {w W W' : World} {N : Nat} {A : Option Addr} {c : Nat} {R : Option Addr} {d : Nat} {L : List (Nat × Nat)} {M : List Nat} {st sr : Nat → CSt}
theorem Both.keep (h : Both w W N A c R d L M st sr) (hb : Below W.heap.size W W') : Both w W' N A c R d L M st sr :=
  ⟨own_below h.ownA hb, own_below h.ownR hb, fun k p hp => ⟨(h.cp k p hp).1.keep hb, (h.cp k p hp).2⟩, fun k b hk => ⟨Blk.keep (h.rf k b hk).1 hb, (h.rf k b hk).2⟩, h.nod1, h.nod2, h.nodM, below_call h.low hb h.low.size⟩
theorem Both.lenL (h : Both w W N A c R d L M st sr) : L.length = N := by have := h.ownA.1; simpa [ptrs] using this
theorem Both.lenM (h : Both w W N A c R d L M st sr) : M.length = N := by have := h.ownR.1; simpa [ptrs] using this
theorem Both.atA (h : Both w W N A c R d L M st sr) {k : Nat} (hk : k < N) : ∃ p, L[k]? = some p ∧ CpM W p.1 p.2 (st k).mark (st k).away (st k).e ∧ ∃ b o, A = some ⟨b, o, none⟩ ∧ W.cell? ⟨b, o + k, none⟩ = some (.pointer (some ⟨p.1, 0, none⟩)) := by
  have hl : k < L.length := by rw [h.lenL]; exact hk
  obtain ⟨b, o, u, e, _, hx, hc⟩ := (Sl.of_own h.ownA).at hk
  have e2 : (ptrs (L.map (·.1)))[k]? = some (.pointer (some ⟨L[k].1, 0, none⟩)) := by simp [ptrs, hl]
  rw [e2] at hx
  obtain rfl := Option.some.inj hx
  exact ⟨L[k], List.getElem?_eq_getElem hl, (h.cp k _ (List.getElem?_eq_getElem hl)).1, b, o, e, hc⟩
theorem Both.atR (h : Both w W N A c R d L M st sr) {k : Nat} (hk : k < N) : ∃ p, M[k]? = some p ∧ RefM W p (sr k).mark (sr k).away (sr k).e ∧ ∃ b o, R = some ⟨b, o, none⟩ ∧ W.cell? ⟨b, o + k, none⟩ = some (.pointer (some ⟨p, 0, none⟩)) := by
  have hl : k < M.length := by rw [h.lenM]; exact hk
  obtain ⟨b, o, u, e, _, hx, hc⟩ := (Sl.of_own h.ownR).at hk
  have e2 : (ptrs M)[k]? = some (.pointer (some ⟨M[k], 0, none⟩)) := by simp [ptrs, hl]
  rw [e2] at hx
  obtain rfl := Option.some.inj hx
  exact ⟨M[k], List.getElem?_eq_getElem hl, (h.rf k _ (List.getElem?_eq_getElem hl)).1, b, o, e, hc⟩
theorem blk_type {w : World} {b : Nat} {t t' : TypeId} {cs cs' : Array Value} (h : Blk w b t cs) (h' : Blk w b t' cs') : t = t' := by
  have := h.symm.trans h'
  simp only [Option.some.injEq, Obj.cells.injEq] at this
  exact this.2.1
/-- Behind a call on the copy k. -/
theorem Both.chP (h : Both w W N A c R d L M st sr) {k : Nat} {p : Nat × Nat} (hp : L[k]? = some p) (s : CSt) (hc : CpM W' p.1 p.2 s.mark s.away s.e) (hch : Chs (fun b => b = p.1 ∨ b = p.2) W W') : Both w W' N A c R d L M (updS st k s) sr := by
  have hkp := h.cp k p hp
  refine ⟨own_chs h.ownA hch (fun gg hg hm => ?_), own_chs h.ownR hch (fun gg hg hm => ?_), fun j q hq => ?_, fun j b hb => ?_, h.nod1, h.nod2, h.nodM, hch.below h.low h.low.size (fun i hi => ?_)⟩
  · rcases hm with rfl | rfl
    · exact own_ne_blk h.ownA hkp.1.blk (by decide) hg.symm
    · exact own_ne_map h.ownA hkp.1.map hg.symm
  · rcases hm with rfl | rfl
    · exact own_ne_blk h.ownR hkp.1.blk (by decide) hg.symm
    · exact own_ne_map h.ownR hkp.1.map hg.symm
  · by_cases e : j = k
    · subst e
      rw [hp] at hq
      obtain rfl := Option.some.inj hq
      rw [updS_same]
      exact ⟨hc, hkp.2⟩
    · rw [updS_ne st s e]
      have hkq := h.cp j q hq
      refine ⟨hch.cpm hkq.1 (fun hm => ?_) (fun hm => ?_), hkq.2⟩
      · rcases hm with hm | hm
        · have e1 : (L.map (·.1))[j]? = some q.1 := by rw [List.getElem?_map, hq]; rfl
          have e2 : (L.map (·.1))[k]? = some q.1 := by rw [List.getElem?_map, hp, hm]; rfl
          exact e ((List.getElem?_inj (List.getElem?_eq_some_iff.1 e1).1 h.nod1).1 (e1.trans e2.symm))
        · exact hkp.1.map.ne_blk hkq.1.blk hm
      · rcases hm with hm | hm
        · exact hkq.1.map.ne_blk hkp.1.blk hm.symm
        · have e1 : (L.map (·.2))[j]? = some q.2 := by rw [List.getElem?_map, hq]; rfl
          have e2 : (L.map (·.2))[k]? = some q.2 := by rw [List.getElem?_map, hp, hm]; rfl
          exact e ((List.getElem?_inj (List.getElem?_eq_some_iff.1 e1).1 h.nod2).1 (e1.trans e2.symm))
  · have hr := h.rf j b hb
    refine ⟨hch.blk hr.1 (fun hm => ?_), hr.2⟩
    rcases hm with rfl | rfl
    · exact absurd (blk_type hr.1 hkp.1.blk) (by decide)
    · exact hkp.1.map.ne_blk hr.1 rfl
  · rcases hi with rfl | rfl
    · exact hkp.2.1
    · exact hkp.2.2
/-- Behind a call on the reference's copy k. -/
theorem Both.chR (h : Both w W N A c R d L M st sr) {k : Nat} {b : Nat} (hp : M[k]? = some b) (s : CSt) (hc : RefM W' b s.mark s.away s.e) (hch : Chs (fun x => x = b) W W') : Both w W' N A c R d L M st (updS sr k s) := by
  have hkp := h.rf k b hp
  refine ⟨own_chs h.ownA hch (fun gg hg hm => ?_), own_chs h.ownR hch (fun gg hg hm => ?_), fun j q hq => ?_, fun j x hx => ?_, h.nod1, h.nod2, h.nodM, hch.below h.low h.low.size (fun i hi => ?_)⟩
  · subst hm
    exact own_ne_blk h.ownA hkp.1 (by decide) hg.symm
  · subst hm
    exact own_ne_blk h.ownR hkp.1 (by decide) hg.symm
  · have hkq := h.cp j q hq
    exact ⟨hch.cpm hkq.1 (fun hm => absurd (blk_type (hm ▸ hkq.1.blk) hkp.1) (by decide)) (fun hm => hkq.1.map.ne_blk hkp.1 hm.symm), hkq.2⟩
  · by_cases e : j = k
    · subst e
      rw [hp] at hx
      obtain rfl := Option.some.inj hx
      rw [updS_same]
      exact ⟨hc, hkp.2⟩
    · rw [updS_ne sr s e]
      have hkx := h.rf j x hx
      refine ⟨hch.blk hkx.1 (fun hm => ?_), hkx.2⟩
      subst hm
      exact e ((List.getElem?_inj (List.getElem?_eq_some_iff.1 hx).1 h.nodM).1 (hx.trans hp.symm))
  · subst hi
    exact hkp.2
end
/-- What copies gives. -/
theorem CopAre.both {w W : World} {N : Nat} {a r : Value} (h : CopAre W w.heap.size N a r) (hb : Below w.heap.size w W) : ∃ A c R d L M, a = .slice A N c ∧ r = .slice R N d ∧ Both w W N A c R d L M (fun _ => ⟨0, false, fun _ => none⟩) (fun _ => ⟨0, false, fun _ => none⟩) := by
  obtain ⟨A, c, R, d, rfl, rfl⟩ := h.form
  obtain ⟨L, M, h1, h2, h3, h4, h5⟩ := h
  refine ⟨A, c, R, d, L, M, rfl, rfl, h1, h2, fun k p hp => ?_, fun k b hk => ?_, h3.nod1, h3.nod2, h5, hb⟩
  · have := h3.cpm p (List.mem_of_getElem? hp)
    exact ⟨this.1, this.2.1, this.2.2⟩
  · have := h4 b (List.mem_of_getElem? hk)
    exact ⟨this.1.ref, this.2⟩
end Go.Proofs.YtkjinamjdjijcaaGreatDoor
