/- The reference's copies in memory, and the walks of their methods. Conditions: a copy that NewCopy made. -/
import Derived.Test.YtkjinamjdjijcaaGreatDoorCopy
namespace Go.Proofs.YtkjinamjdjijcaaGreatDoor
open Go.RowKit Go.Maps

/-- A new copy of the reference. -/
def NewR (w : World) (b : Nat) : Prop := Blk w b 69 (Tryz.zeroCells69.setIfInBounds 0 (.bool true))
set_option maxRecDepth 100000 in
set_option maxHeartbeats 2000000 in
theorem refNewF (w : World) :
    Calls Tryz.prog 22 #[] w fun x w' => ∃ b, x = .returned (.pointer (some ⟨b, 0, none⟩)) ∧ NewR w' b ∧ Below w.heap.size w w' ∧ w.heap.size ≤ b := by
  go_enter Tryz.func22, Tryz.ntmps22
  go_wp2_with fail
  go_ret
  exact ⟨_, rfl, Blk.new _ _ _, (Below.refl _ w).alloc (Nat.le_refl _) _, Nat.le_refl _⟩
theorem TC : TS Tryz.prog 23 33 1 8 (.pointer none) := ⟨Tryz.underlying23, by kernel_rfl, rfl, by decide⟩
theorem TR : TS Tryz.prog 24 63 1 8 (.pointer none) := ⟨Tryz.underlying24, by kernel_rfl, rfl, by decide⟩
theorem own_kind2 {w : World} {B : Nat} {e : TypeId} {size : Nat} {v : Value} {n : Nat} {xs : List Value} (h : w.ownsRow B e size v n xs) : ∀ g, v.ownBlock = some g → ∃ c, w.heap[g]? = some (.cells c e (0, 0)) := by
  intro g hg
  rcases h.2 with ⟨rfl, _⟩ | ⟨g', cap, cur, rfl, _, hgg, _⟩
  · simp [Value.ownBlock] at hg
  · simp [Value.ownBlock] at hg
    subst hg
    exact ⟨cur, hgg⟩
theorem own_ne_blk {w : World} {B b : Nat} {e t : TypeId} {size n : Nat} {v : Value} {xs : List Value} {cs : Array Value} (h : w.ownsRow B e size v n xs) (k : Blk w b t cs) (hne : t ≠ e) : some b ≠ v.ownBlock := by
  intro hb
  obtain ⟨c, hc⟩ := own_kind2 h b hb.symm
  unfold Blk at k
  rw [k] at hc
  injection hc with hc
  injection hc with _ hc _
  exact hne hc
theorem own_ne_map {w : World} {B b : Nat} {e : TypeId} {size n : Nat} {v : Value} {xs : List Value} {P : Program} {kt : TypeId} {f : Value → Option Value} (h : w.ownsRow B e size v n xs) (k : MapX P kt w b f) : some b ≠ v.ownBlock := by
  intro hb
  obtain ⟨c, hc⟩ := own_kind2 h b hb.symm
  obtain ⟨es, cl, h1, _⟩ := k
  rw [h1] at hc
  cases hc
theorem own_apart2 {w : World} {B B' : Nat} {e e' : TypeId} {size size' : Nat} {v v' : Value} {n n' : Nat} {xs xs' : List Value} (h : w.ownsRow B e size v n xs) (h' : w.ownsRow B' e' size' v' n' xs') (hne : e ≠ e') : v.ownBlock = none ∨ v.ownBlock ≠ v'.ownBlock := by
  cases hv : v.ownBlock with
  | none => exact .inl rfl
  | some g =>
    right
    intro hc
    obtain ⟨c, h1⟩ := own_kind2 h g hv
    obtain ⟨c', h2⟩ := own_kind2 h' g hc.symm
    rw [h1] at h2
    injection h2 with h2
    injection h2 with _ h2 _
    exact hne h2
theorem push1P {P : Program} {ops : Array Oper} {rest : List Oper} {o : Oper} {a : Act} {Q : Exit → Act → World → Prop} {t e : TypeId} {size bytes : Nat} {z : Value}
    (T : TS P t e size bytes z) (w : World) (cs : Array Value) (base n : Nat) (v : Value) (xs : List Value) (hown : w.ownsRow base e size v n xs)
    (s x : Operand) (K : Nat) (hK : w.heap.size = K) (hgd : o.guard = none) (ho : o.op = .call { callee := .builtin .append, args := #[s, x], argTypes := #[t, t] })
    (hs : a.eval s = v) (hx : a.eval x = .slice (some ⟨K, 0, none⟩) 1 1) (hcs : cs.size = size) (h1 : ∀ u ∈ cs.toList, u.oneCell' = true)
    (hn : (n + 1) * bytes ≤ 140737488355328) (hn2 : n < 1000000000000) (hb : base ≤ w.heap.size)
    (h : ∀ v' w', w'.ownsRow base e size v' (n + 1) (xs ++ cs.toList) → (w.alloc (.cells cs e)).grownBy w' v.ownBlock → wpList P ops Q rest (a.put o.dst v') w') :
    wpList P ops Q (o :: rest) a (w.alloc (.cells cs e)) := by
  subst hK
  exact push1 T w cs base n v xs hown s x hgd ho hs hx hcs h1 hn hn2 hb h
/-- Pointers to blocks. -/
def ptrs (l : List Nat) : List Value := l.map fun b => .pointer (some ⟨b, 0, none⟩)
/-- New copies: their blocks and maps. -/
structure NewC (w : World) (B : Nat) (L : List (Nat × Nat)) : Prop where
  cpm : ∀ p ∈ L, CpM w p.1 p.2 0 false (fun _ => none) ∧ B ≤ p.1 ∧ B ≤ p.2
  nod1 : (L.map (·.1)).Nodup
  nod2 : (L.map (·.2)).Nodup
theorem NewC.nil (w : World) (B : Nat) : NewC w B [] := ⟨fun _ h => by simp at h, List.nodup_nil, List.nodup_nil⟩
theorem NewC.keep {w w' : World} {B : Nat} {L : List (Nat × Nat)} (h : NewC w B L) (hb : Below w.heap.size w w') : NewC w' B L :=
  ⟨fun p hp => ⟨(h.cpm p hp).1.keep hb, (h.cpm p hp).2⟩, h.nod1, h.nod2⟩
theorem NewC.snoc {w : World} {B cb mb : Nat} {L : List (Nat × Nat)} (h : NewC w B L) (k : CpM w cb mb 0 false (fun _ => none)) {K : Nat} (hB : B ≤ K) (h1 : K ≤ cb) (h2 : K ≤ mb) (hl : ∀ p ∈ L, p.1 < K ∧ p.2 < K) : NewC w B (L ++ [(cb, mb)]) := by
  refine ⟨fun p hp => ?_, ?_, ?_⟩
  · rcases List.mem_append.1 hp with hp | hp
    · exact h.cpm p hp
    · simp at hp
      subst hp
      exact ⟨k, by omega, by omega⟩
  · rw [List.map_append, List.nodup_append]
    refine ⟨h.nod1, by simp, fun a ha b hb => ?_⟩
    obtain ⟨p, hp, rfl⟩ := List.mem_map.1 ha
    simp at hb
    have := (hl p hp).1
    omega
  · rw [List.map_append, List.nodup_append]
    refine ⟨h.nod2, by simp, fun a ha b hb => ?_⟩
    obtain ⟨p, hp, rfl⟩ := List.mem_map.1 ha
    simp at hb
    have := (hl p hp).2
    omega
theorem NewC.grown {w w' : World} {B B' n size : Nat} {L : List (Nat × Nat)} {e : TypeId} {v : Value} {xs : List Value} (h : NewC w B L) (ho : w.ownsRow B' e size v n xs) (hg : w.grownBy w' v.ownBlock) (hne : 36 ≠ e) : NewC w' B L :=
  ⟨fun p hp => by
    obtain ⟨k, a, b⟩ := h.cpm p hp
    exact ⟨⟨k.blk.grown hg (own_ne_blk ho k.blk hne), k.map.grown hg (own_ne_map ho k.map)⟩, a, b⟩, h.nod1, h.nod2⟩
end Go.Proofs.YtkjinamjdjijcaaGreatDoor
