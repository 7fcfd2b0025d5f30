/- Open at lists of copies with nobody, too few, too many, or twice the same among them. Conditions: the library's table of 64 numbers and MaxLen stand in their variables. -/
import Derived.Test.YtkjinamjdjijcaaGreatDoorAwake
namespace Go.Proofs.YtkjinamjdjijcaaGreatDoor
open Go.RowKit Go.Maps

/-- What stands while MintNobody asks. -/
structure NbS (w W : World) (g : Nat) (A : Option Addr) (c : Nat) (L : List (Nat × Nat)) : Prop where
  own : W.ownsRow w.heap.size 33 1 (.slice A 5 c) 5 (ptrs (L.map (·.1)))
  new : NewC W w.heap.size L
  emp : Blk W g 36 #[.map none, .int .i64 0, .bool false]
  two : Sl W (some ⟨g + 1, 0, none⟩) 2 2 [.pointer none, .pointer (some ⟨g, 0, none⟩)]
  low : Below w.heap.size w W
theorem NbS.keep {w W W' : World} {g : Nat} {A : Option Addr} {c : Nat} {L : List (Nat × Nat)} (h : NbS w W g A c L) (hb : Below W.heap.size W W') : NbS w W' g A c L :=
  ⟨own_below h.own hb, h.new.keep hb, h.emp.keep hb, h.two.below hb, below_call h.low hb h.low.size⟩
theorem NbS.sl {w W : World} {g : Nat} {A : Option Addr} {c : Nat} {L : List (Nat × Nat)} (h : NbS w W g A c L) : Sl W A 5 c (ptrs (L.map (·.1))) := Sl.of_own h.own
/-- The first i of five blocks, round and round. -/
def rnd5 (l : List Nat) (i : Nat) : List Nat := (List.range i).map fun j => l.getD (j % 5) 0
theorem rnd5_succ (l : List Nat) (i : Nat) : rnd5 l (i + 1) = rnd5 l i ++ [l.getD (i % 5) 0] := by simp [rnd5, List.range_succ]
theorem rnd5_len (l : List Nat) (i : Nat) : (rnd5 l i).length = i := by simp [rnd5]
theorem own_addr {w : World} {base : Nat} {e : TypeId} {size n c : Nat} {A : Option Addr} {xs : List Value} (h : w.ownsRow base e size (.slice A n c) n xs) (hn : 0 < n) : ∃ g, A = some ⟨g, 0, none⟩ := by
  rcases h.2 with ⟨hv, h0⟩ | ⟨g, cap, cur, hv, _⟩
  · omega
  · simp at hv
    exact ⟨g, hv.1⟩
/-- A list of copies with nobody among them: who is none. -/
theorem nob_list {w W : World} {g : Nat} {A : Option Addr} {c : Nat} {L : List (Nat × Nat)} (h : NbS w W g A c L) (hlen : L.length = 5) {v : Value} (hv : NoC W v) {i : Nat} (hi : i < 5) (t : List Value) (ht : t = [] ∨ ∃ p, L[0]? = some p ∧ t = [.pointer (some ⟨p.1, 0, none⟩)]) :
    NoneS W ((ptrs (L.map (·.1))).set i v ++ t) (fun j => decide (j = i)) := fun j u hu => by
  have hl : ((ptrs (L.map (·.1))).set i v).length = 5 := by simp [ptrs, hlen]
  have hcp : ∀ p ∈ L, Calls Tryz.prog 26 #[.pointer (some ⟨p.1, 0, none⟩)] W fun e w' => e = .returned (.bool false) ∧ W = w' := fun p hp => noneF _ _ _ _ _ W (h.new.cpm p hp).1
  by_cases e : j = i
  · subst e
    rw [List.getElem?_append_left (by omega), List.getElem?_set_self (by simp [ptrs, hlen]; omega)] at hu
    cases hu
    obtain ⟨a, rfl, hn⟩ := hv
    simpa using hn
  · have hd : decide (j = i) = false := decide_eq_false e
    simp only [hd]
    by_cases hj : j < 5
    · rw [List.getElem?_append_left (by omega), List.getElem?_set_ne (fun e' => e e'.symm)] at hu
      unfold ptrs at hu
      rw [List.getElem?_map] at hu
      obtain ⟨b, hb, rfl⟩ := Option.map_eq_some_iff.1 hu
      rw [List.getElem?_map] at hb
      obtain ⟨p, hp, rfl⟩ := Option.map_eq_some_iff.1 hb
      exact hcp p (List.mem_of_getElem? hp)
    · rw [List.getElem?_append_right (by omega)] at hu
      rcases ht with rfl | ⟨p, hp, rfl⟩
      · simp at hu
      · rw [hl] at hu
        obtain ⟨hlt, hu⟩ := List.getElem?_eq_some_iff.1 hu
        have : j - 5 = 0 := by simp at hlt; omega
        simp only [this, List.getElem_cons_zero] at hu
        subst hu
        exact hcp p (List.mem_of_getElem? hp)
/-- What stands behind an Open that may have gone through. -/
structure NbT (w W : World) (A : Option Addr) (c : Nat) (L : List (Nat × Nat)) : Prop where
  own : W.ownsRow w.heap.size 33 1 (.slice A 5 c) 5 (ptrs (L.map (·.1)))
  cp : ∀ p ∈ L, ∃ mark e, CpM W p.1 p.2 mark false e
  nod : (L.map (·.1)).Nodup
  low : Below w.heap.size w W
theorem NbT.keep {w W W' : World} {A : Option Addr} {c : Nat} {L : List (Nat × Nat)} (h : NbT w W A c L) (hb : Below W.heap.size W W') : NbT w W' A c L :=
  ⟨own_below h.own hb, fun p hp => by obtain ⟨m, e, k⟩ := h.cp p hp; exact ⟨m, e, k.keep hb⟩, h.nod, below_call h.low hb h.low.size⟩
theorem NbS.t {w W : World} {g : Nat} {A : Option Addr} {c : Nat} {L : List (Nat × Nat)} (h : NbS w W g A c L) : NbT w W A c L := ⟨h.own, fun p hp => ⟨_, _, (h.new.cpm p hp).1⟩, h.new.nod1, h.low⟩
theorem noneS_cp {w W : World} {A : Option Addr} {c : Nat} {L : List (Nat × Nat)} (h : NbT w W A c L) {l : List Nat} (hl : ∀ b ∈ l, b ∈ L.map (·.1)) : NoneS W (ptrs l) (fun _ => false) := fun i v hv => by
  unfold ptrs at hv
  rw [List.getElem?_map] at hv
  obtain ⟨b, hb, rfl⟩ := Option.map_eq_some_iff.1 hv
  obtain ⟨p, hp, rfl⟩ := List.mem_map.1 (hl b (List.mem_of_getElem? hb))
  obtain ⟨m, e, k⟩ := h.cp p hp
  exact noneF _ _ _ _ _ W k
theorem NewC.take {W : World} {B : Nat} {L : List (Nat × Nat)} (h : NewC W B L) (n : Nat) : NewC W B (L.take n) :=
  ⟨fun p hp => h.cpm p (List.mem_of_mem_take hp), by rw [List.map_take]; exact h.nod1.sublist (List.take_sublist _ _), by rw [List.map_take]; exact h.nod2.sublist (List.take_sublist _ _)⟩
theorem opened_t {w W W' : World} {g : Nat} {A : Option Addr} {c : Nat} {L : List (Nat × Nat)} (h : NbS w W g A c L) {m sb n k : Nat} {a r : Value} (ho : OpS W W' m sb n a r (L.take k) 1 n) : NbT w W' A c L := by
  have hcop : ∀ b, b ∈ (L.take k).map (·.1) → ∃ p ∈ L, p.1 = b := fun b hb => by
    obtain ⟨p, hp, rfl⟩ := List.mem_map.1 hb
    exact ⟨p, List.mem_of_mem_take hp, rfl⟩
  refine ⟨own_chs h.own ho.chs (fun gg hg hm => ?_), fun p hp => ?_, h.new.nod1, ho.chs.below h.low h.low.size (fun i hi => ?_)⟩
  · obtain ⟨p, hp, rfl⟩ := hcop gg hm
    exact own_ne_blk h.own (h.new.cpm p hp).1.blk (by decide) hg.symm
  · by_cases hm : p.1 ∈ (L.take k).map (·.1)
    · obtain ⟨p', hp', e⟩ := List.mem_map.1 hm
      obtain ⟨i, hi⟩ := List.getElem?_of_mem hp'
      have hpp : p' = p := by
        obtain ⟨i1, h1⟩ := List.getElem?_of_mem (List.mem_of_mem_take hp')
        obtain ⟨i2, h2⟩ := List.getElem?_of_mem hp
        have e1 : (L.map (·.1))[i1]? = some p.1 := by rw [List.getElem?_map, h1]; exact congrArg some e
        have e2 : (L.map (·.1))[i2]? = some p.1 := by rw [List.getElem?_map, h2]; rfl
        have hii : i1 = i2 := (List.getElem?_inj (List.getElem?_eq_some_iff.1 e1).1 h.new.nod1).1 (e1.trans e2.symm)
        subst hii
        rw [h1] at h2
        exact Option.some.inj h2
      subst hpp
      exact ⟨_, _, ho.cp i p' hi⟩
    · have k0 := (h.new.cpm p hp).1
      exact ⟨_, _, ho.chs.cpm k0 hm (fun hm2 => by
        obtain ⟨q, hq, e⟩ := hcop _ hm2
        exact k0.map.ne_blk (h.new.cpm q hq).1.blk e)⟩
  · obtain ⟨p, hp, rfl⟩ := hcop i hi
    exact (h.new.cpm p hp).2.1
theorem rnd5_take (L : List (Nat × Nat)) (h : L.length = 5) (q : Nat) (hq : q = 3 ∨ q = 5) : rnd5 (L.map (·.1)) q = (L.take q).map (·.1) := by
  match L, h with
  | [a, b, c, d, e], _ =>
    rcases hq with rfl | rfl <;> rfl
theorem rnd5_mem (L : List (Nat × Nat)) (h : L.length = 5) (q : Nat) : ∀ b ∈ rnd5 (L.map (·.1)) q, b ∈ L.map (·.1) := fun b hb => by
  unfold rnd5 at hb
  obtain ⟨j, _, rfl⟩ := List.mem_map.1 hb
  have hj : j % 5 < (L.map (·.1)).length := by rw [List.length_map, h]; omega
  rw [List.getD, List.getElem?_eq_getElem hj]
  exact List.getElem_mem _
/-- Open at the first q of the copies, round and round. -/
theorem openRnd {w W : World} {g : Nat} {A : Option Addr} {c : Nat} {L : List (Nat × Nat)} (h : NbS w W g A c L) (hlen : L.length = 5) (q : Nat) (A' : Option Addr) (c' : Nat) (hx : Sl W A' q c' (ptrs (rnd5 (L.map (·.1)) q))) :
    Calls Tryz.prog 15 #[.slice A' q c'] W fun e w' => ∃ (m : Option Addr) (r : Int), e = .returned (.tuple #[.pointer m, .int .i64 r]) ∧ (q ≠ 3 ∧ q ≠ 5 → m = none ∧ r = 2) ∧ NbT w w' A c L := by
  by_cases hq : q = 3 ∨ q = 5
  · rw [rnd5_take L hlen q hq] at hx
    refine (openNew A' q c' (L.take q) w.heap.size W hq hx (h.new.take q)).mono ?_
    rintro e w' ⟨m, sb, a, r, rfl, ho⟩
    exact ⟨_, _, rfl, fun hn => by omega, opened_t h ho⟩
  · refine (openLen A' q c' _ W hx (noneS_cp h.t (rnd5_mem L hlen q)) (by omega)).mono ?_
    rintro e w' ⟨rfl, rfl⟩
    exact ⟨_, _, rfl, fun _ => ⟨rfl, rfl⟩, h.t⟩
end Go.Proofs.YtkjinamjdjijcaaGreatDoor
