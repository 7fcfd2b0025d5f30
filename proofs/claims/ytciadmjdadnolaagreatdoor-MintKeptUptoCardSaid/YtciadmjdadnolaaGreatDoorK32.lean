/- Plain words for the walk of Open: marks of the first copies; lines put one after the other. No condition. -/
import Derived.Test.YtciadmjdadnolaaGreatDoorK31
namespace Go.Proofs.YtciadmjdadnolaaGreatDoor
open Go.RowKit Go.Maps
/-- The greatest mark of the first copies in reach. -/
def topF (C : List Cp) (j : Nat) : Int := ((onC C).take j).foldl (fun m c => max m c.mark) 0
theorem topF_zero (C : List Cp) : topF C 0 = 0 := by unfold topF; rw [List.take_zero]; rfl
theorem topF_succ {C : List Cp} {j : Nat} {c : Cp} (h : (onC C)[j]? = some c) : topF C (j + 1) = max (topF C j) c.mark := by
 unfold topF
 rw [List.take_add_one, h, List.foldl_append]
 rfl
theorem topF_all (C : List Cp) : topF C (reachN C) = topM C := by
 unfold topF topM
 rw [List.take_of_length_le (by rw [onC_len]; exact Nat.le_refl _)]
 rfl
theorem topM_ge {C : List Cp} {c : Cp} {j : Nat} (h : (onC C)[j]? = some c) : c.mark ≤ topM C := by
 unfold topM
 exact (topM_fold _ 0).2.1 c (List.mem_of_getElem? h)
theorem topM_nn (C : List Cp) : 0 ≤ topM C := by
 unfold topM
 exact (topM_fold _ 0).1
theorem ents_prom (k : Int) (C : List Cp) : entsOn (onAll (fun c => c.prom k) C) = entsOn C := by
 induction C with
 | nil => rfl
 | cons c C ih =>
  unfold entsOn onAll at *
  cases hc : c.away with
  | true => simp [hc] at ih ⊢; exact ih
  | false => simp [hc, Cp.prom] at ih ⊢; exact ih
theorem read_prom (k : Int) (C : List Cp) : readM (onAll (fun c => c.prom k) C) = readM C := by
 unfold readM
 rw [ents_prom]
theorem runL_size {J : List ByteArray} : ∀ {s t : Bk}, runL stepL s J = some t → ∀ x ∈ J, x.size ≤ 60 := by
 induction J with
 | nil => intro s t _ x hx; simp at hx
 | cons y J ih =>
  intro s t h x hx
  rw [runL] at h
  unfold stepL at h
  by_cases h0 : (doL s y).2 = 0
  · rw [if_pos h0] at h
    rcases List.mem_cons.1 hx with rfl | hx
    · exact doL_size h0
    · exact ih h x hx
  · rw [if_neg h0] at h
    cases h
theorem readM_runs (C : List Cp) : runL stepL bk0 (readM C).2 = some (readM C).1 := readL_runs (D := stepL) (bestE (entsOn C)) bk0 200 0 0 bk0 [] rfl
theorem readM_len (C : List Cp) : (readM C).2.length ≤ 200 := by
 have := readL_len (D := stepL) (bestE (entsOn C)) 200 0 0 bk0 []
 rw [List.length_nil, Nat.zero_add] at this
 exact this
theorem readM_size (C : List Cp) : ∀ x ∈ (readM C).2, x.size ≤ 60 := runL_size (readM_runs C)
theorem runL_keep {J : List ByteArray} : ∀ {s t : Bk}, runL stepL s J = some t → BkI s → BkI t := by
 induction J with
 | nil => intro s t h hb; simp only [runL, Option.some.injEq] at h; rw [← h]; exact hb
 | cons y J ih =>
  intro s t h hb
  rw [runL] at h
  unfold stepL at h
  by_cases h0 : (doL s y).2 = 0
  · rw [if_pos h0] at h
    exact ih h (hb.doL y)
  · rw [if_neg h0] at h
    cases h
theorem readM_keep (C : List Cp) : BkI (readM C).1 := runL_keep (readM_runs C) BkI.begin
theorem putAll_step {k : Int} {J : List ByteArray} {i : Nat} {x : ByteArray} {C : List Cp} (h : J[i]? = some x) : putAll k (J.drop i) i C = putAll k (J.drop (i + 1)) (i + 1) (onAll (fun c => c.put i k x) C) := by
 have hd : J.drop i = x :: J.drop (i + 1) := by
  obtain ⟨hi, rfl⟩ := List.getElem?_eq_some_iff.1 h
  exact List.drop_eq_getElem_cons hi
 rw [hd, putAll]
theorem strV_at {J : List ByteArray} {i : Nat} {u : Value} (h : (strV J)[i]? = some u) : ∃ x, J[i]? = some x ∧ u = .string x := by
 unfold strV at h
 rw [List.getElem?_map] at h
 obtain ⟨x, hx, rfl⟩ := Option.map_eq_some_iff.1 h
 exact ⟨x, hx, rfl⟩
/-- The first state in memory. -/
theorem st_begin {w : World} {sb : Nat} (h : Blk w sb 102 begC) : StR w (fun i => i = sb) sb bk0 :=
 ⟨none, 0, none, 0, none, 0, none, 0, none, 0, h, Sl.nil w, Sl.nil w, Sl.nil w, Sl.nil w, Sl2.nil w, (fun _ e => by cases e), (fun _ e => by cases e), (fun _ e => by cases e), (fun _ e => by cases e), (fun _ e => by cases e), rfl⟩
/-- A mint that is opened, at the end. -/
theorem OpG.mint_of {w W : World} {m sb n nr : Nat} {a r d : Value} {L : List (Nat × Nat)} {C : List Cp} {k : Int} {s : Bk} {J : List ByteArray} (h : OpG w W m sb n nr a r d L C k s J) (hn : L.length = n) : ∃ R, MinM W R m d L k s J false ∧ ∀ i, R i ∨ footM m d i → w.heap.size ≤ i := by
 obtain ⟨G, g1, g2, g3, g4⟩ := h.st
 obtain ⟨A, ca, rfl⟩ := own_form h.own1
 subst hn
 have hm := h.hm
 have hA := own_blkIv h.own1
 refine ⟨fun i => G i ∨ (Value.slice A L.length ca).ownBlock = some i ∨ (∃ x, A = some x ∧ x.block = i), ⟨⟨sb, A, ca, h.mint, Sl.of_own h.own1, g1.mono fun i hi => .inl hi, fun x e => .inr (.inr ⟨x, e, rfl⟩)⟩, own_more h.don (Nat.zero_le _), fun g hg hr => ?_, fun hr => ?_, fun i hr => ?_⟩, fun i hi => ?_⟩
 · rcases hr with hr | hr | ⟨x, hx, rfl⟩
   · exact g3 g hg hr
   · rcases own_apart2 h.own1 h.don (by decide) with h0 | h0
     · rw [h0] at hr; cases hr
     · exact h0 (by rw [hr, hg])
   · subst hx
     rcases own_apart2 h.own1 h.don (by decide) with h0 | h0
     · cases h0
     · exact h0 (by rw [hg]; rfl)
 · rcases hr with hr | hr | ⟨x, hx, e⟩
   · exact g4 hr
   · exact own_ne_blk h.own1 h.mint (by decide) hr.symm
   · subst hx
     exact own_ne_blk h.own1 h.mint (by decide) (by rw [← e]; rfl)
 · rcases hr with hr | hr | ⟨x, hx, rfl⟩
   · exact (g2 i hr).2
   · exact (h.own1.lt i hr).2
   · exact (hA x hx).2
 · rcases hi with (hr | hr | ⟨x, hx, rfl⟩) | (rfl | hi)
   · exact (g2 i hr).1
   · exact (h.own1.lt i hr).1
   · exact (hA x hx).1
   · exact hm
   · exact (h.don.lt i hi).1
end Go.Proofs.YtciadmjdadnolaaGreatDoor
