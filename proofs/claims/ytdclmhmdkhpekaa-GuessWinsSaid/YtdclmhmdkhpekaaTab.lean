/- The plain law of a table of keys, each at a place that it tells or behind it: what is found, what is put. Condition: it is never full. -/
import Derived.Test.YtdclmhmdkhpekaaCmp
namespace Go.Proofs.Ytdclmhmdkhpekaa

theorem sub_len {α : Type} [BEq α] [LawfulBEq α] : ∀ (l1 l2 : List α), l1.Nodup → (∀ x ∈ l1, x ∈ l2) → l1.length ≤ l2.length := by
  intro l1
  induction l1 with
  | nil => intro l2 _ _; simp
  | cons x l1 ih =>
    intro l2 hn hs
    have hx := hs x (by simp)
    rw [List.nodup_cons] at hn
    have := ih (l2.erase x) hn.2 fun y hy => (List.mem_erase_of_ne (show y ≠ x from fun e => hn.1 (by rw [← e]; exact hy))).2 (hs y (by simp [hy]))
    rw [List.length_erase_of_mem hx] at this
    have h0 : 0 < l2.length := List.length_pos_of_mem hx
    simp only [List.length_cons]
    omega

/-- The t-th place that is looked at for a key. -/
def slot (N : Nat) (k : Int) (t : Nat) : Nat := ((k * 2654435761).toNat + t) % N
def upd {α : Type} (f : Nat → α) (i : Nat) (v : α) : Nat → α := fun j => if j = i then v else f j
theorem slot_lt {N : Nat} (h : 0 < N) (k : Int) (t : Nat) : slot N k t < N := Nat.mod_lt _ h
theorem slot_succ (N : Nat) (k : Int) (t : Nat) : (slot N k t + 1) % N = slot N k (t + 1) := by
  unfold slot
  rw [Nat.mod_add_mod, Nat.add_assoc]
structure Good (N : Nat) (ks : Nat → Int) (L : List Int) : Prop where
  nodup : L.Nodup
  mem : ∀ k, k ∈ L ↔ k ≠ 0 ∧ ∃ i, i < N ∧ ks i = k
  reach : ∀ k, k ∈ L → ∃ t, ks (slot N k t) = k ∧ ∀ s, s < t → ks (slot N k s) ≠ 0
  inj : ∀ i j, i < N → j < N → ks i = ks j → ks i ≠ 0 → i = j
structure Found (N : Nat) (ks : Nat → Int) (k : Int) (t : Nat) : Prop where
  bef : ∀ s, s < t → ks (slot N k s) ≠ 0 ∧ ks (slot N k s) ≠ k
  at_ : ks (slot N k t) = 0 ∨ ks (slot N k t) = k
theorem Good.fresh (N : Nat) : Good N (fun _ => 0) [] := ⟨List.nodup_nil, fun k => by simp; intro h _ _ e; exact h e.symm, fun k h => by simp at h, fun _ _ _ _ _ h => absurd rfl h⟩
section
variable {N : Nat} {ks : Nat → Int} {L : List Int} {k : Int} {t : Nat}
theorem Good.zero (h : Good N ks L) (hl : L.length < N) : ∃ z, z < N ∧ ks z = 0 := by
  apply Classical.byContradiction
  intro hno
  have hnz : ∀ i, i < N → ks i ≠ 0 := fun i hi e => hno ⟨i, hi, e⟩
  have hnd : ((List.range N).map ks).Nodup := by
    unfold List.Nodup
    rw [List.pairwise_map]
    refine List.Pairwise.imp_of_mem ?_ (List.nodup_range (n := N))
    intro a b ha hb hab e
    exact hab (h.inj a b (List.mem_range.1 ha) (List.mem_range.1 hb) e (hnz a (List.mem_range.1 ha)))
  have := sub_len _ L hnd fun x hx => by
    obtain ⟨i, hi, rfl⟩ := List.mem_map.1 hx
    exact (h.mem _).2 ⟨hnz i (List.mem_range.1 hi), i, List.mem_range.1 hi, rfl⟩
  simp at this
  omega
theorem Good.stop (h : Good N ks L) (hl : L.length < N) (k : Int) : ∃ T, T < N ∧ ks (slot N k T) = 0 := by
  obtain ⟨z, hz, h0⟩ := h.zero hl
  refine ⟨(z + (N - (k * 2654435761).toNat % N)) % N, Nat.mod_lt _ (by omega), ?_⟩
  have hlt : (k * 2654435761).toNat % N < N := Nat.mod_lt _ (by omega)
  have : slot N k ((z + (N - (k * 2654435761).toNat % N)) % N) = z := by
    unfold slot
    rw [Nat.add_mod_mod, ← Nat.mod_add_mod, show (k * 2654435761).toNat % N + (z + (N - (k * 2654435761).toNat % N)) = z + N by omega, Nat.add_mod_right, Nat.mod_eq_of_lt hz]
  rw [this]; exact h0
theorem Good.notin (h : Good N ks L) (hf : Found N ks k t) (h0 : ks (slot N k t) = 0) : k ∉ L := by
  intro hk
  obtain ⟨u, hu, hb⟩ := h.reach k hk
  have hk0 := ((h.mem k).1 hk).1
  rcases Nat.lt_trichotomy u t with e | e | e
  · exact (hf.bef u e).2 hu
  · subst e; rw [h0] at hu; exact hk0 hu.symm
  · exact hb t e h0
theorem Good.insert (hN : 0 < N) (h : Good N ks L) (hf : Found N ks k t) (h0 : ks (slot N k t) = 0) (hk : k ≠ 0) : Good N (upd ks (slot N k t) k) (k :: L) := by
  have hno := h.notin hf h0
  have hlt := slot_lt hN k t
  have keep : ∀ i, ks i ≠ 0 → upd ks (slot N k t) k i = ks i := fun i hi => by
    unfold upd
    rw [if_neg]
    intro e; subst e; exact hi h0
  have here : upd ks (slot N k t) k (slot N k t) = k := by simp [upd]
  have nz : ∀ i, ks i ≠ 0 → upd ks (slot N k t) k i ≠ 0 := fun i hi => by rw [keep i hi]; exact hi
  refine ⟨List.nodup_cons.2 ⟨hno, h.nodup⟩, fun x => ?_, fun x hx => ?_, fun i j hi hj he hne => ?_⟩
  · rw [List.mem_cons, h.mem]
    constructor
    · rintro (rfl | ⟨h1, i, hi, he⟩)
      · exact ⟨hk, _, hlt, here⟩
      · exact ⟨h1, i, hi, by rw [keep i (by rw [he]; exact h1)]; exact he⟩
    · rintro ⟨h1, i, hi, he⟩
      by_cases e : i = slot N k t
      · subst e; rw [here] at he; exact .inl he.symm
      · refine .inr ⟨h1, i, hi, ?_⟩
        simpa [upd, e] using he
  · rw [List.mem_cons] at hx
    rcases hx with rfl | hx
    · exact ⟨t, here, fun s hs => nz _ (hf.bef s hs).1⟩
    · obtain ⟨u, hu, hb⟩ := h.reach x hx
      have hx0 := ((h.mem x).1 hx).1
      exact ⟨u, by rw [keep _ (by rw [hu]; exact hx0)]; exact hu, fun s hs => nz _ (hb s hs)⟩
  · by_cases e1 : i = slot N k t
    · by_cases e2 : j = slot N k t
      · rw [e1, e2]
      · exfalso
        rw [e1, here, upd, if_neg e2] at he
        exact hno ((h.mem k).2 ⟨hk, j, hj, he.symm⟩)
    · by_cases e2 : j = slot N k t
      · exfalso
        rw [e2, here, upd, if_neg e1] at he
        exact hno ((h.mem k).2 ⟨hk, i, hi, he⟩)
      · simp only [upd, if_neg e1, if_neg e2] at he hne
        exact h.inj i j hi hj he hne
/-- The key is there, at the place where it is found. -/
theorem Good.isin (hN : 0 < N) (h : Good N ks L) (h1 : ks (slot N k t) = k) (hk : k ≠ 0) : k ∈ L := (h.mem k).2 ⟨hk, _, slot_lt hN k t, h1⟩
theorem Good.few (h : Good N ks L) {M : Nat} (hb : ∀ k ∈ L, 0 < k ∧ k < (M : Int)) : L.length ≤ M := by
  have := sub_len L ((List.range M).map fun i : Nat => (i : Int)) h.nodup fun x hx => by
    obtain ⟨h0, h1⟩ := hb x hx
    obtain ⟨n, rfl⟩ := Int.eq_ofNat_of_zero_le (show 0 ≤ x by omega)
    exact List.mem_map.2 ⟨n, List.mem_range.2 (by omega), rfl⟩
  simpa using this
end
end Go.Proofs.Ytdclmhmdkhpekaa
