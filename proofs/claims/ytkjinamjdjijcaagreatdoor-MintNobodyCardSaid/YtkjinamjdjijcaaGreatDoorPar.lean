/- Five operations of a region that draws, in whatever order they come up: what holds is told of what each has given. No condition. -/
import Derived.Test.YtkjinamjdjijcaaGreatDoorFind
import Derived.Test.YtkjinamjdjijcaaGreatDoorNobA
import Derived.Deep.RegionHeld
namespace Go.Proofs.YtkjinamjdjijcaaGreatDoor
open Go.RowKit Go.Maps

def upd (s : Nat → Option Value) (k : Nat) (v : Value) : Nat → Option Value := fun j => if j = k then some v else s j
def put1 (ds : List Nat) (s : Nat → Option Value) (a : Act) (k : Nat) : Act := match s k with
  | some v => a.put ds[k]? v
  | none => a
def frm (a0 : Act) (ds : List Nat) (s : Nat → Option Value) : Act := put1 ds s (put1 ds s (put1 ds s (put1 ds s (put1 ds s a0 0) 1) 2) 3) 4
theorem put_comm (a : Act) {i j : Nat} (h : i ≠ j) (u v : Value) : (a.put (some i) u).put (some j) v = (a.put (some j) v).put (some i) u := by
  simp only [Act.put]
  rw [Array.setIfInBounds_comm _ _ h]
theorem put1_comm (ds : List Nat) (s : Nat → Option Value) (a : Act) (k d : Nat) (hk : ∀ e, ds[k]? = some e → e ≠ d) (v : Value) : (put1 ds s a k).put (some d) v = put1 ds s (a.put (some d) v) k := by
  unfold put1
  cases s k with
  | none => rfl
  | some u =>
    cases h : ds[k]? with
    | none => rfl
    | some e => exact put_comm a (hk e h) u v
theorem frm_put (a0 : Act) (d0 d1 d2 d3 d4 : Nat) (hd : [d0, d1, d2, d3, d4].Nodup) (s : Nat → Option Value) (k : Nat) (hk : k < 5) (hs : s k = none) (v : Value) :
    (frm a0 [d0, d1, d2, d3, d4] s).put [d0, d1, d2, d3, d4][k]? v = frm a0 [d0, d1, d2, d3, d4] (upd s k v) := by
  simp only [List.nodup_cons, List.mem_cons, List.not_mem_nil, or_false, not_or, List.nodup_nil, and_true] at hd
  have hp : ∀ (j : Nat) (a : Act), j ≠ k → put1 [d0, d1, d2, d3, d4] (upd s k v) a j = put1 [d0, d1, d2, d3, d4] s a j := fun j a h => by simp [put1, upd, h]
  have hq : ∀ a : Act, put1 [d0, d1, d2, d3, d4] s a k = a := fun a => by simp [put1, hs]
  have hr : ∀ a : Act, put1 [d0, d1, d2, d3, d4] (upd s k v) a k = a.put [d0, d1, d2, d3, d4][k]? v := fun a => by simp [put1, upd]
  rcases (show k = 0 ∨ k = 1 ∨ k = 2 ∨ k = 3 ∨ k = 4 by omega) with rfl | rfl | rfl | rfl | rfl <;>
  · unfold frm
    simp only [List.getElem?_cons_zero, List.getElem?_cons_succ] at hr ⊢
    repeat (first | rw [hr] | rw [hq] | rw [hp _ _ (by decide)] | rw [put1_comm _ _ _ _ _ (by simp; omega)])
/-- Which are listed: m tells. -/
def lst (L0 : Array Bool) (ix : List Nat) (m : Nat) : Array Bool := (List.range 5).foldl (fun l k => if m.testBit k then l.setIfInBounds (ix.getD k 0) true else l) L0
def rem5 (ix : List Nat) (m : Nat) : List Nat := (List.range 5).filterMap fun k => if m.testBit k then none else some (ix.getD k 0)
def chk5 (ops : Array Oper) (L0 : Array Bool) (ix : List Nat) : Bool := (List.range 31).all fun m => (Region.ready .any ops (lst L0 ix m) == rem5 ix m) && (List.range 5).all fun k => m.testBit k || ((lst L0 ix m).setIfInBounds (ix.getD k 0) true == lst L0 ix (m + 2 ^ k))
def cnt5 (m : Nat) : Nat := ((List.range 5).filter fun k => !m.testBit k).length
theorem cnt_step : ((List.range 32).all fun m => (List.range 5).all fun k => m.testBit k || (decide (m + 2 ^ k < 32) && (cnt5 m == cnt5 (m + 2 ^ k) + 1) && (List.range 5).all fun j => ((m + 2 ^ k).testBit j == (decide (j = k) || m.testBit j)))) = true := by decide +kernel
theorem cnt_zero : ((List.range 32).all fun m => !(cnt5 m == 0) || (m == 31)) = true := by decide +kernel
section
variable {P : Program} {ops : Array Oper} {Q : Exit → Act → World → Prop} {S : World → Prop}
theorem par5 (a0 : Act) (d0 d1 d2 d3 d4 : Nat) (hd : [d0, d1, d2, d3, d4].Nodup) (ix : List Nat) (L0 : Array Bool) (F : Nat) (J : (Nat → Option Value) → World → Prop)
    (hchk : chk5 ops L0 ix = true)
    (hstep : ∀ k, k < 5 → ∀ s W (K : Act → World → Prop), s k = none → J s W → S W → (∀ v W', J (upd s k v) W' → S W' → K ((frm a0 [d0, d1, d2, d3, d4] s).put [d0, d1, d2, d3, d4][k]? v) W') → wpOp P ops Q (ix.getD k 0) K (frm a0 [d0, d1, d2, d3, d4] s) W)
    (hdone : ∀ s W, (∀ k, k < 5 → (s k).isSome = true) → J s W → S W → wpAnyH P .any ops Q S F (lst L0 ix 31) (frm a0 [d0, d1, d2, d3, d4] s) W) :
    ∀ (c m : Nat), m < 32 → cnt5 m = c → ∀ s W, (∀ k, k < 5 → (s k).isSome = m.testBit k) → J s W → S W → wpAnyH P .any ops Q S (F + c) (lst L0 ix m) (frm a0 [d0, d1, d2, d3, d4] s) W := by
  intro c
  induction c with
  | zero =>
    intro m hm hc s W hs hJ hS
    have := List.all_eq_true.1 cnt_zero m (List.mem_range.2 hm)
    have h31 : m = 31 := by simpa [hc] using this
    subst h31
    exact hdone s W (fun k hk => by
      rw [hs k hk]
      rcases (show k = 0 ∨ k = 1 ∨ k = 2 ∨ k = 3 ∨ k = 4 by omega) with rfl | rfl | rfl | rfl | rfl <;> rfl) hJ hS
  | succ c ih =>
    intro m hm hc s W hs hJ hS
    have hm31 : m < 31 := by
      by_cases e : m = 31
      · subst e; have h0 : cnt5 31 = 0 := by decide
        omega
      · omega
    have h1 := List.all_eq_true.1 hchk m (List.mem_range.2 hm31)
    simp only [Bool.and_eq_true, beq_iff_eq] at h1
    have hne : rem5 ix m ≠ [] := by
      intro e
      have hl : (rem5 ix m).length = cnt5 m := by
        unfold rem5 cnt5
        rw [List.length_filterMap_eq_countP, List.countP_eq_length_filter]
        congr 1
        apply List.filter_congr
        intro k _
        cases m.testBit k <;> rfl
      rw [e, hc] at hl
      simp at hl
    refine wpAnyH_ready h1.1 hne ?_
    intro i hi
    unfold rem5 at hi
    obtain ⟨k, hk, hki⟩ := List.mem_filterMap.1 hi
    have hk5 := List.mem_range.1 hk
    have hb : m.testBit k = false := by
      cases hb : m.testBit k
      · rfl
      · rw [hb] at hki; simp at hki
    rw [hb] at hki
    simp only [Bool.false_eq_true, if_false, Option.some.injEq] at hki
    subst hki
    have hsk : s k = none := by
      have := hs k hk5
      rw [hb] at this
      simpa using this
    refine hstep k hk5 s W _ hsk hJ hS (fun v W' hJ' hS' => ⟨hS', ?_⟩)
    have h2 := List.all_eq_true.1 h1.2 k hk
    rw [hb] at h2
    simp only [Bool.false_or, beq_iff_eq] at h2
    rw [h2, frm_put a0 d0 d1 d2 d3 d4 hd s k hk5 hsk v]
    have h3 := List.all_eq_true.1 (List.all_eq_true.1 cnt_step m (List.mem_range.2 hm)) k hk
    rw [hb] at h3
    simp only [Bool.false_or, Bool.and_eq_true, decide_eq_true_eq, beq_iff_eq] at h3
    refine ih (m + 2 ^ k) h3.1.1 (by have := h3.1.2; omega) _ W' (fun j hj => ?_) hJ' hS'
    have h4 := List.all_eq_true.1 h3.2 j (List.mem_range.2 hj)
    simp only [beq_iff_eq] at h4
    rw [h4]
    unfold upd
    by_cases e : j = k
    · simp [e]
    · simp [e, hs j hj]
theorem par5_start (a0 : Act) (d0 d1 d2 d3 d4 : Nat) (hd : [d0, d1, d2, d3, d4].Nodup) (ix : List Nat) (L0 : Array Bool) (F : Nat) (J : (Nat → Option Value) → World → Prop)
    (hchk : chk5 ops L0 ix = true)
    (hstep : ∀ k, k < 5 → ∀ s W (K : Act → World → Prop), s k = none → J s W → S W → (∀ v W', J (upd s k v) W' → S W' → K ((frm a0 [d0, d1, d2, d3, d4] s).put [d0, d1, d2, d3, d4][k]? v) W') → wpOp P ops Q (ix.getD k 0) K (frm a0 [d0, d1, d2, d3, d4] s) W)
    (hdone : ∀ s W, (∀ k, k < 5 → (s k).isSome = true) → J s W → S W → wpAnyH P .any ops Q S F (lst L0 ix 31) (frm a0 [d0, d1, d2, d3, d4] s) W)
    (W : World) (hJ : J (fun _ => none) W) (hS : S W) : wpAnyH P .any ops Q S (F + 5) L0 a0 W := by
  have h := par5 a0 d0 d1 d2 d3 d4 hd ix L0 F J hchk hstep hdone 5 0 (by decide) (by decide) (fun _ => none) W (fun k hk => by simp) hJ hS
  have hl : lst L0 ix 0 = L0 := by simp [lst, List.range, List.range.loop]
  rw [hl] at h
  exact h
end
theorem put1_tmps (ds : List Nat) (s : Nat → Option Value) (a : Act) (k j : Nat) (hk : ds[k]? ≠ some j) : (put1 ds s a k).tmps[j]? = a.tmps[j]? := by
  unfold put1
  cases s k with
  | none => rfl
  | some u =>
    cases h : ds[k]? with
    | none => rfl
    | some e =>
      have : e ≠ j := fun e' => hk (by rw [h, e'])
      simp only [Act.put]
      rw [Array.getElem?_setIfInBounds_ne this]
theorem frm_tmps (a0 : Act) (ds : List Nat) (s : Nat → Option Value) (j : Nat) (hj : ∀ k : Nat, ds[k]? ≠ some j) : (frm a0 ds s).tmps[j]? = a0.tmps[j]? := by
  unfold frm
  rw [put1_tmps _ _ _ _ _ (hj 4), put1_tmps _ _ _ _ _ (hj 3), put1_tmps _ _ _ _ _ (hj 2), put1_tmps _ _ _ _ _ (hj 1), put1_tmps _ _ _ _ _ (hj 0)]
theorem not_at {ds : List Nat} {j : Nat} (h : j ∉ ds) (k : Nat) : ds[k]? ≠ some j := fun e => h (List.mem_of_getElem? e)
/-- Five lists of copies, as far as they are laid. -/
structure P5 (w W : World) (A : Option Addr) (c : Nat) (L : List (Nat × Nat)) (ls : Nat → List Nat) (s : Nat → Option Value) : Prop where
  nt : NbT w W A c L
  at_ : ∀ k v, s k = some v → ∃ b, v = .slice (some ⟨b, 0, none⟩) (ls k).length (ls k).length ∧ Blk W b 33 (ptrs (ls k)).toArray
def ls5 (a b c d : Nat) : Nat → List Nat
  | 0 => [a, a, b]
  | 1 => [a, b, a]
  | 2 => [b, a, a]
  | 3 => [a, b, c, d, a]
  | _ => [a, b, c, d, d]
theorem P5.step {w W : World} {A : Option Addr} {c : Nat} {L : List (Nat × Nat)} {ls : Nat → List Nat} {s : Nat → Option Value} (h : P5 w W A c L ls s) (k : Nat) {n : Nat} (hn : (ls k).length = n) :
    P5 w (W.alloc (.cells (ptrs (ls k)).toArray 33)) A c L ls (upd s k (.slice (some ⟨W.heap.size, 0, none⟩) n n)) := by
  subst hn
  refine ⟨h.nt.keep ((Below.refl _ W).alloc (Nat.le_refl _) _), fun j v hv => ?_⟩
  unfold upd at hv
  by_cases e : j = k
  · subst e
    rw [if_pos rfl] at hv
    cases hv
    exact ⟨_, rfl, Blk.new W _ _⟩
  · rw [if_neg e] at hv
    obtain ⟨b, h1, h2⟩ := h.at_ j v hv
    exact ⟨b, h1, h2.alloc _⟩
theorem S5_keep {g a b c d e : Nat} {W W' : World} (h : W.cell? ⟨g, 0, none⟩ = some (.pointer (some ⟨a, 0, none⟩)) ∧ W.cell? ⟨g, 1, none⟩ = some (.pointer (some ⟨b, 0, none⟩)) ∧ W.cell? ⟨g, 2, none⟩ = some (.pointer (some ⟨c, 0, none⟩)) ∧ W.cell? ⟨g, 3, none⟩ = some (.pointer (some ⟨d, 0, none⟩)) ∧ W.cell? ⟨g, 4, none⟩ = some (.pointer (some ⟨e, 0, none⟩))) (hb : Below W.heap.size W W') :
    W'.cell? ⟨g, 0, none⟩ = some (.pointer (some ⟨a, 0, none⟩)) ∧ W'.cell? ⟨g, 1, none⟩ = some (.pointer (some ⟨b, 0, none⟩)) ∧ W'.cell? ⟨g, 2, none⟩ = some (.pointer (some ⟨c, 0, none⟩)) ∧ W'.cell? ⟨g, 3, none⟩ = some (.pointer (some ⟨d, 0, none⟩)) ∧ W'.cell? ⟨g, 4, none⟩ = some (.pointer (some ⟨e, 0, none⟩)) :=
  ⟨cell_keep hb h.1, cell_keep hb h.2.1, cell_keep hb h.2.2.1, cell_keep hb h.2.2.2.1, cell_keep hb h.2.2.2.2⟩
theorem P5.done {w W : World} {A : Option Addr} {c : Nat} {L : List (Nat × Nat)} {ls : Nat → List Nat} {s : Nat → Option Value} (h : P5 w W A c L ls s) (hs : ∀ k, k < 5 → (s k).isSome = true) :
    ∃ bl : Nat → Nat, ∀ k, k < 5 → s k = some (.slice (some ⟨bl k, 0, none⟩) (ls k).length (ls k).length) ∧ Blk W (bl k) 33 (ptrs (ls k)).toArray := by
  have H : ∀ k, ∃ b, k < 5 → s k = some (.slice (some ⟨b, 0, none⟩) (ls k).length (ls k).length) ∧ Blk W b 33 (ptrs (ls k)).toArray := fun k => by
    by_cases hk : k < 5
    · obtain ⟨v, hv⟩ := Option.isSome_iff_exists.1 (hs k hk)
      obtain ⟨b, rfl, hb⟩ := h.at_ k v hv
      exact ⟨b, fun _ => ⟨hv, hb⟩⟩
    · exact ⟨0, fun h => absurd h hk⟩
  exact ⟨fun k => (H k).choose, fun k hk => (H k).choose_spec hk⟩
/-- What stands behind the five lists. -/
structure T5 (w W : World) (A : Option Addr) (c : Nat) (L : List (Nat × Nat)) (bs : Nat) : Prop where
  nt : NbT w W A c L
  ask : ∀ d, d < 5 → ∃ b l, W.cell? ⟨bs, d, none⟩ = some (.slice (some ⟨b, 0, none⟩) (List.length l) (List.length l)) ∧ (l.length = 3 ∨ l.length = 5) ∧ Sl W (some ⟨b, 0, none⟩) l.length l.length (ptrs l) ∧ (∀ x ∈ l, x ∈ L.map (·.1)) ∧ ∃ i x, l[i]? = some x ∧ x ∈ l.take i
  lt : bs < W.heap.size
theorem T5.keep {w W W' : World} {A : Option Addr} {c : Nat} {L : List (Nat × Nat)} {bs : Nat} (h : T5 w W A c L bs) (hb : Below W.heap.size W W') : T5 w W' A c L bs :=
  ⟨h.nt.keep hb, fun d hd => by
    obtain ⟨b, l, h1, h2, h3, h4⟩ := h.ask d hd
    exact ⟨b, l, cell_keep hb h1, h2, h3.below hb, h4⟩, Nat.lt_of_lt_of_le h.lt hb.size⟩
theorem T5.dup {w W : World} {A : Option Addr} {c : Nat} {L : List (Nat × Nat)} {bs : Nat} (h : T5 w W A c L bs) (d : Nat) (hd : d < 5) :
    ∃ b n, W.cell? ⟨bs, d, none⟩ = some (.slice (some ⟨b, 0, none⟩) n n) ∧ n ≤ 5 ∧ Calls Tryz.prog 15 #[.slice (some ⟨b, 0, none⟩) n n] W fun x w' => x = .returned (.tuple #[.pointer none, .int .i64 2]) ∧ W = w' := by
  obtain ⟨b, l, h1, h2, h3, h4, h5⟩ := h.ask d hd
  refine ⟨b, l.length, h1, by omega, openDup _ _ _ l W h2 h3 (noneS_cp h.nt h4) (fun y hy => ?_) h5⟩
  obtain ⟨p, hp, rfl⟩ := List.mem_map.1 (h4 y hy)
  obtain ⟨m, e, k⟩ := h.nt.cp p hp
  exact ⟨_, _, k.blk⟩
theorem P5.made {w W : World} {A : Option Addr} {c : Nat} {p0 p1 p2 p3 p4 : Nat × Nat} {s : Nat → Option Value} (h : P5 w W A c [p0, p1, p2, p3, p4] (ls5 p0.1 p1.1 p2.1 p3.1) s) (bl : Nat → Nat)
    (hb : ∀ k, k < 5 → s k = some (.slice (some ⟨bl k, 0, none⟩) (ls5 p0.1 p1.1 p2.1 p3.1 k).length (ls5 p0.1 p1.1 p2.1 p3.1 k).length) ∧ Blk W (bl k) 33 (ptrs (ls5 p0.1 p1.1 p2.1 p3.1 k)).toArray) :
    T5 w (W.alloc (.cells #[.slice (some ⟨bl 0, 0, none⟩) 3 3, .slice (some ⟨bl 1, 0, none⟩) 3 3, .slice (some ⟨bl 2, 0, none⟩) 3 3, .slice (some ⟨bl 3, 0, none⟩) 5 5, .slice (some ⟨bl 4, 0, none⟩) 5 5] 23)) A c [p0, p1, p2, p3, p4] W.heap.size := by
  refine ⟨h.nt.keep ((Below.refl _ W).alloc (Nat.le_refl _) _), fun d hd => ?_, by simp⟩
  have hsl : ∀ (l : List Nat) (b : Nat), Blk W b 33 (ptrs l).toArray → l.length ≤ 5 → Sl (W.alloc (.cells #[.slice (some ⟨bl 0, 0, none⟩) 3 3, .slice (some ⟨bl 1, 0, none⟩) 3 3, .slice (some ⟨bl 2, 0, none⟩) 3 3, .slice (some ⟨bl 3, 0, none⟩) 5 5, .slice (some ⟨bl 4, 0, none⟩) 5 5] 23)) (some ⟨b, 0, none⟩) l.length l.length (ptrs l) := fun l b hB hl =>
    ⟨by simp [ptrs], Nat.le_refl _, by unfold maxLen; omega, fun _ => ⟨b, 0, rfl, (hB.alloc _).lt, fun j u hu => by rw [Nat.zero_add, (hB.alloc _).cell]; simpa using hu⟩⟩
  refine ⟨bl d, ls5 p0.1 p1.1 p2.1 p3.1 d, ?_, ?_, hsl _ _ (hb d hd).2 ?_, ?_, ?_⟩ <;>
    rcases (show d = 0 ∨ d = 1 ∨ d = 2 ∨ d = 3 ∨ d = 4 by omega) with rfl | rfl | rfl | rfl | rfl
  · exact World.cell?_alloc_new _ _ _ _
  · exact World.cell?_alloc_new _ _ _ _
  · exact World.cell?_alloc_new _ _ _ _
  · exact World.cell?_alloc_new _ _ _ _
  · exact World.cell?_alloc_new _ _ _ _
  all_goals first
    | exact Or.inl rfl
    | exact Or.inr rfl
    | decide
    | (simp [ls5]; done)
    | skip
  · exact ⟨1, p0.1, rfl, by simp [ls5]⟩
  · exact ⟨2, p0.1, rfl, by simp [ls5]⟩
  · exact ⟨2, p0.1, rfl, by simp [ls5]⟩
  · exact ⟨4, p0.1, rfl, by simp [ls5]⟩
  · exact ⟨4, p3.1, rfl, by simp [ls5]⟩
/-- What stands while the two mints that are none are asked. -/
structure MnS (w W : World) (g : Nat) : Prop where
  emp : Blk W g 55 #[.slice none 0 0, .int .i64 0, .pointer none, .slice none 0 0, .bool false]
  two : Sl W (some ⟨g + 1, 0, none⟩) 2 2 [.pointer none, .pointer (some ⟨g, 0, none⟩)]
  low : Below w.heap.size w W
theorem MnS.keep {w W W' : World} {g : Nat} (h : MnS w W g) (hb : Below W.heap.size W W') : MnS w W' g := ⟨h.emp.keep hb, h.two.below hb, below_call h.low hb h.low.size⟩
theorem MnS.made {w W : World} (hb : Below w.heap.size w W) : MnS w ((W.alloc (.cells #[.slice none 0 0, .int .i64 0, .pointer none, .slice none 0 0, .bool false] 55)).alloc (.cells #[.pointer none, .pointer (some ⟨W.heap.size, 0, none⟩)] 46)) W.heap.size :=
  ⟨(Blk.new W _ _).alloc _, by
    have := Sl.new (W.alloc (.cells #[.slice none 0 0, .int .i64 0, .pointer none, .slice none 0 0, .bool false] 55)) #[.pointer none, .pointer (some ⟨W.heap.size, 0, none⟩)] 46 (n := 2) rfl (by decide)
    simpa using this, (hb.alloc hb.size _).alloc (by have := hb.size; simp; omega) _⟩
theorem MnS.at {w W : World} {g d : Nat} (h : MnS w W g) (hd : d < 2) : ∃ va, W.cell? ⟨g + 1, d, none⟩ = some (.pointer va) ∧ NoM W (.pointer va) := by
  obtain ⟨b2, o2, v, hA2, lb2, e2, ca2⟩ := h.two.at hd
  cases hA2
  rw [Nat.zero_add] at ca2
  have hno : NoM W v := by
    rcases (show d = 0 ∨ d = 1 by omega) with rfl | rfl
    · simp at e2; subst e2; exact noM_nil W
    · simp at e2; subst e2; exact noM_empty h.emp
  obtain ⟨va, rfl, _⟩ := id hno
  exact ⟨va, ca2, hno⟩
end Go.Proofs.YtkjinamjdjijcaaGreatDoor
