/- Walk of touched: an act on a copy and on the reference's. No condition. -/
import Derived.Test.YtkjinamjdjijcaaGreatDoorSame
import Derived.Test.YtkjinamjdjijcaaGreatDoorAct
import Derived.Test.YtkjinamjdjijcaaGreatDoorFind
namespace Go.Proofs.YtkjinamjdjijcaaGreatDoor
open Go.RowKit Go.Maps

/-- The copies, and the act in its box. -/
structure Tch (w W : World) (N : Nat) (A : Option Addr) (c : Nat) (R : Option Addr) (d : Nat) (L : List (Nat × Nat)) (M : List Nat) (st sr : Nat → CSt) (xb : Nat) (u : Ac) : Prop where
  both : Both w W N A c R d L M st sr
  box : Blk W xb 28 #[.int .i64 u.kind, .int .i64 u.n, .int .i64 u.m, .int .i64 u.i, .string u.line]
section
variable {w W W' : World} {N : Nat} {A : Option Addr} {c : Nat} {R : Option Addr} {d : Nat} {L : List (Nat × Nat)} {M : List Nat} {st sr : Nat → CSt} {xb : Nat} {u : Ac}
theorem Tch.keep (h : Tch w W N A c R d L M st sr xb u) (hb : Below W.heap.size W W') : Tch w W' N A c R d L M st sr xb u := ⟨h.both.keep hb, h.box.keep hb⟩
theorem Tch.chP (h : Tch w W N A c R d L M st sr xb u) {k : Nat} {p : Nat × Nat} (hp : L[k]? = some p) (s : CSt) (hc : CpM W' p.1 p.2 s.mark s.away s.e) (hch : Chs (fun b => b = p.1 ∨ b = p.2) W W') : Tch w W' N A c R d L M (updS st k s) sr xb u :=
  ⟨h.both.chP hp s hc hch, hch.blk h.box fun hm => by
    have hk := (h.both.cp k p hp).1
    rcases hm with hm | hm
    · exact absurd (blk_type (hm ▸ h.box) hk.blk) (by decide)
    · exact hk.map.ne_blk h.box hm⟩
theorem Tch.chR (h : Tch w W N A c R d L M st sr xb u) {k : Nat} {b : Nat} (hp : M[k]? = some b) (s : CSt) (hc : RefM W' b s.mark s.away s.e) (hch : Chs (fun x => x = b) W W') : Tch w W' N A c R d L M st (updS sr k s) xb u :=
  ⟨h.both.chR hp s hc hch, hch.blk h.box fun hm => absurd (blk_type (hm ▸ h.box) (h.both.rf k b hp).1) (by decide)⟩
theorem Tch.cells {b1 o1 b2 o2 q rp : Nat} {p : Nat × Nat} (h : Tch w W N (some ⟨b1, o1, none⟩) c (some ⟨b2, o2, none⟩) d L M st sr xb u) (hq : q < N) (hp : L[q]? = some p) (hr : M[q]? = some rp) :
    W.cell? ⟨b1, o1 + q, none⟩ = some (.pointer (some ⟨p.1, 0, none⟩)) ∧ W.cell? ⟨b2, o2 + q, none⟩ = some (.pointer (some ⟨rp, 0, none⟩)) ∧ W.cell? ⟨xb, 2, none⟩ = some (.int .i64 u.m) ∧ W.cell? ⟨xb, 3, none⟩ = some (.int .i64 u.i) ∧ W.cell? ⟨xb, 4, none⟩ = some (.string u.line) := by
  obtain ⟨p', hp', _, b1', o1', hA', ca⟩ := h.both.atA hq
  obtain ⟨b', hb', _, b2', o2', hR', cr⟩ := h.both.atR hq
  obtain rfl := Option.some.inj (hp.symm.trans hp')
  obtain rfl := Option.some.inj (hr.symm.trans hb')
  cases hA'
  cases hR'
  exact ⟨ca, cr, h.box.cell 2, h.box.cell 3, h.box.cell 4⟩
end
/-- What a copy holds behind Put. -/
def putS (s : CSt) (i m : Int) (l : ByteArray) : CSt := if putR s.away s.mark i m l = 0 then ⟨m, s.away, putE s.e i.toNat (m, l)⟩ else s
theorem putS_cp {w : World} {cb mb : Nat} {s : CSt} {i m : Int} {l : ByteArray} (h : putR s.away s.mark i m l ≠ 0 ∧ CpM w cb mb s.mark s.away s.e ∨ putR s.away s.mark i m l = 0 ∧ CpM w cb mb m s.away (putE s.e i.toNat (m, l))) : CpM w cb mb (putS s i m l).mark (putS s i m l).away (putS s i m l).e := by
  unfold putS
  rcases h with ⟨h1, h2⟩ | ⟨h1, h2⟩
  · rw [if_neg h1]; exact h2
  · rw [if_pos h1]; exact h2
theorem putS_rf {w : World} {b : Nat} {s : CSt} {i m : Int} {l : ByteArray} (h : putR s.away s.mark i m l ≠ 0 ∧ RefM w b s.mark s.away s.e ∨ putR s.away s.mark i m l = 0 ∧ RefM w b m s.away (putE s.e i.toNat (m, l))) : RefM w b (putS s i m l).mark (putS s i m l).away (putS s i m l).e := by
  unfold putS
  rcases h with ⟨h1, h2⟩ | ⟨h1, h2⟩
  · rw [if_neg h1]; exact h2
  · rw [if_pos h1]; exact h2
set_option maxRecDepth 100000 in
set_option maxHeartbeats 8000000 in
theorem touchedF (u : Ac) (w W : World) (N : Nat) (hN : N = 3 ∨ N = 5) (A : Option Addr) (c : Nat) (R : Option Addr) (d : Nat) (L : List (Nat × Nat)) (M : List Nat) (st : Nat → CSt) (h : Both w W N A c R d L M st st) :
    Calls Tryz.prog 6 #[.slice A N c, .slice R N d, .agg #[.int .i64 u.kind, .int .i64 u.n, .int .i64 u.m, .int .i64 u.i, .string u.line]] W fun x w' => x = .returned (.bool true) ∧ ∃ st2, Both w w' N A c R d L M st2 st2 := by
  obtain ⟨kd, un, um, ui, ln⟩ := u
  have hw : IntKind.u64.wrap (N : Int) = (N : Int) := by rw [IntKind.wrap_u64]; omega
  obtain ⟨q, hqN, hqe⟩ : ∃ q : Nat, q < N ∧ wrap64 ((IntKind.u64.wrap un).tmod (N : Int)) = (q : Int) := by
    have h0 : 0 ≤ IntKind.u64.wrap un := by rw [IntKind.wrap_u64]; omega
    have h1 : 0 ≤ IntKind.u64.wrap un % (N : Int) := Int.emod_nonneg _ (by omega)
    have h2 : IntKind.u64.wrap un % (N : Int) < N := Int.emod_lt_of_pos _ (by omega)
    rw [Int.tmod_eq_emod_of_nonneg h0]
    refine ⟨(IntKind.u64.wrap un % (N : Int)).toNat, by omega, ?_⟩
    generalize IntKind.u64.wrap un % (N : Int) = z at *
    simp only [wrap64]
    omega
  have hne : ((N : Int) == 0) = false := by rw [beq_eq_false_iff_ne]; omega
  have hne2 : (N : Int) ≠ 0 := by omega
  have hN5 : N ≤ 5 := by omega
  obtain ⟨p, hp, _, b1, o1, rfl, _⟩ := h.atA hqN
  obtain ⟨rp, hr, _, b2, o2, rfl, _⟩ := h.atR hqN
  have HP := hid hp
  have HR := hid hr
  have hcapA := (Sl.of_own h.ownA).cap
  have hcapR := (Sl.of_own h.ownR).cap
  have HX := hid (show Tch w (W.alloc (.cells #[.int .i64 kd, .int .i64 un, .int .i64 um, .int .i64 ui, .string ln] 28)) N (some ⟨b1, o1, none⟩) c (some ⟨b2, o2, none⟩) d L M st st W.heap.size ⟨kd, un, um, ui, ln⟩ from ⟨h.keep ((Below.refl _ W).alloc (Nat.le_refl _) _), Blk.new W _ _⟩)
  clear h hN hp hr
  go_enter Tryz.func6, Tryz.ntmps6
  go_wp2_with fail
  all_goals
    generalize W.alloc (.cells #[.int .i64 kd, .int .i64 un, .int .i64 um, .int .i64 ui, .string ln] 28) = X at *
    generalize W.heap.size = xb at *
    clear hw hne hne2
    try rw [hqe]
    clear hqe
  · skip
    refine wp_region_held_drew (S := (fun X => X.cell? ⟨b1, o1 + q, none⟩ = some (.pointer (some ⟨p.1, 0, none⟩)) ∧ X.cell? ⟨b2, o2 + q, none⟩ = some (.pointer (some ⟨rp, 0, none⟩)) ∧ X.cell? ⟨xb, 2, none⟩ = some (.int .i64 um) ∧ X.cell? ⟨xb, 3, none⟩ = some (.int .i64 ui) ∧ X.cell? ⟨xb, 4, none⟩ = some (.string ln))) (by kernel_rfl) (by (try dsimp only); (first | exact HX.out.cells hqN HP.out HR.out | exact hHeld | assumption)) (fun hHeld => ?_)
    refine takeD (i := 0) (v := ?_) (some 26) rfl rfl (by kernel_rfl) (by kernel_rfl) (by kernel_rfl) (fun _ _ _ h => h) (Or.inl ⟨by rfl, ?_⟩) (by assumption) ?_
    rotate_left
    · intro w hSw
      (try dsimp only at hSw)
      first
        | (go_simp; done)
        | (go_simp; with_reducible rfl)
    try simp only [Act.put, List.setIfInBounds_toArray, List.set_cons_zero, List.set_cons_succ]
    refine takeD (i := 1) (v := ?_) (some 27) rfl rfl (by kernel_rfl) (by kernel_rfl) (by kernel_rfl) (fun _ _ _ h => h) (Or.inl ⟨by rfl, ?_⟩) (by assumption) ?_
    rotate_left
    · intro w hSw
      (try dsimp only at hSw)
      first
        | (go_simp; done)
        | (go_simp; with_reducible rfl)
    try simp only [Act.put, List.setIfInBounds_toArray, List.set_cons_zero, List.set_cons_succ]
    refine takeD (i := 2) (v := ?_) (some 28) rfl rfl (by kernel_rfl) (by kernel_rfl) (by kernel_rfl) (fun _ _ _ h => h) (Or.inl ⟨by rfl, ?_⟩) (by assumption) ?_
    rotate_left
    · intro w hSw
      (try dsimp only at hSw)
      first
        | (go_simp; done)
        | (go_simp; with_reducible rfl)
    try simp only [Act.put, List.setIfInBounds_toArray, List.set_cons_zero, List.set_cons_succ]
    refine takeD (i := 3) (v := ?_) (some 29) rfl rfl (by kernel_rfl) (by kernel_rfl) (by kernel_rfl) (fun _ _ _ h => h) (Or.inl ⟨by rfl, ?_⟩) (by assumption) ?_
    rotate_left
    · intro w hSw
      (try dsimp only at hSw)
      first
        | (go_simp; done)
        | (go_simp; with_reducible rfl)
    try simp only [Act.put, List.setIfInBounds_toArray, List.set_cons_zero, List.set_cons_succ]
    refine takeD (i := 4) (v := ?_) (some 30) rfl rfl (by kernel_rfl) (by kernel_rfl) (by kernel_rfl) (fun _ _ _ h => h) (Or.inl ⟨by rfl, ?_⟩) (by assumption) ?_
    rotate_left
    · intro w hSw
      (try dsimp only at hSw)
      first
        | (go_simp; done)
        | (go_simp; with_reducible rfl)
    try simp only [Act.put, List.setIfInBounds_toArray, List.set_cons_zero, List.set_cons_succ]
    refine takeD (i := 5) (v := ?_) (some 31) rfl rfl (by kernel_rfl) (by kernel_rfl) (by kernel_rfl) (fun _ _ _ h => h) (Or.inl ⟨by rfl, ?_⟩) (by assumption) ?_
    rotate_left
    · intro w hSw
      (try dsimp only at hSw)
      first
        | (go_simp; done)
        | (go_simp; with_reducible rfl)
    try simp only [Act.put, List.setIfInBounds_toArray, List.set_cons_zero, List.set_cons_succ]
    refine takeD (i := 6) (v := ?_) (some 32) rfl rfl (by kernel_rfl) (by kernel_rfl) (by kernel_rfl) (fun _ _ _ h => h) (Or.inl ⟨by rfl, ?_⟩) (by assumption) ?_
    rotate_left
    · intro w hSw
      (try dsimp only at hSw)
      first
        | (go_simp; done)
        | (go_simp; with_reducible rfl)
    try simp only [Act.put, List.setIfInBounds_toArray, List.set_cons_zero, List.set_cons_succ]
    refine takeD (i := 7) (v := ?_) (some 33) rfl rfl (by kernel_rfl) (by kernel_rfl) (by kernel_rfl) (fun _ _ _ h => h) (Or.inl ⟨by rfl, ?_⟩) (by assumption) ?_
    rotate_left
    · intro w hSw
      (try dsimp only at hSw)
      first
        | (go_simp; done)
        | (go_simp; with_reducible rfl)
    try simp only [Act.put, List.setIfInBounds_toArray, List.set_cons_zero, List.set_cons_succ]
    refine wpAnyH_ready (rs := [8]) (by kernel_rfl) (by simp) ?_
    refine AllReadyH.cons rfl (fun K hK => ?_) AllReadyH.nil
    go_simp
    have hh := (HX.out.keep (Below.refl _ X).drew)
    have HC := hid (hh.both.cp q p HP.out).1
    clear HX
    refine (reachF _ p.1 p.2 _ _ _ _ HC.out).mono ?_; rintro x X1 ⟨rfl, hc1, hch1⟩
    have HX := hid (hh.chP HP.out ⟨(st q).mark, !(bits .and .i64 um 1 == 1), (st q).e⟩ hc1 (hch1.mono fun b hb => .inl hb))
    clear hh HC hc1 hch1
    refine hK.out _ _ ?_ (fun hHeld => ?_)
    · (try dsimp only)
      (first | exact HX.out.cells hqN HP.out HR.out | exact hHeld | assumption)
    clear hK K
    try simp only [Act.put, List.setIfInBounds_toArray, List.set_cons_zero, List.set_cons_succ]
    refine wpAnyH_done (by kernel_rfl) ?_ _
    go_wp2_with fail
    have r0 := (HX.out.both.rf q rp HR.out).1.c0
    have z0 := Blk.free (HX.out.both.rf q rp HR.out).1 0
    refine wp_region_held_drew (S := (fun X => X.cell? ⟨b1, o1 + q, none⟩ = some (.pointer (some ⟨p.1, 0, none⟩)) ∧ X.cell? ⟨b2, o2 + q, none⟩ = some (.pointer (some ⟨rp, 0, none⟩)) ∧ X.cell? ⟨xb, 2, none⟩ = some (.int .i64 um) ∧ X.cell? ⟨xb, 3, none⟩ = some (.int .i64 ui) ∧ X.cell? ⟨xb, 4, none⟩ = some (.string ln))) (by kernel_rfl) (by (try dsimp only); (first | exact HX.out.cells hqN HP.out HR.out | exact hHeld | assumption)) (fun hHeld => ?_)
    refine takeD (i := 0) (v := ?_) (some 35) rfl rfl (by kernel_rfl) (by kernel_rfl) (by kernel_rfl) (fun _ _ _ h => h) (Or.inl ⟨by rfl, ?_⟩) (by assumption) ?_
    rotate_left
    · intro w hSw
      (try dsimp only at hSw)
      first
        | (go_simp; done)
        | (go_simp; with_reducible rfl)
    try simp only [Act.put, List.setIfInBounds_toArray, List.set_cons_zero, List.set_cons_succ]
    refine takeD (i := 1) (v := ?_) (some 36) rfl rfl (by kernel_rfl) (by kernel_rfl) (by kernel_rfl) (fun _ _ _ h => h) (Or.inl ⟨by rfl, ?_⟩) (by assumption) ?_
    rotate_left
    · intro w hSw
      (try dsimp only at hSw)
      first
        | (go_simp; done)
        | (go_simp; with_reducible rfl)
    try simp only [Act.put, List.setIfInBounds_toArray, List.set_cons_zero, List.set_cons_succ]
    refine takeD (i := 2) (v := ?_) (some 37) rfl rfl (by kernel_rfl) (by kernel_rfl) (by kernel_rfl) (fun _ _ _ h => h) (Or.inl ⟨by rfl, ?_⟩) (by assumption) ?_
    rotate_left
    · intro w hSw
      (try dsimp only at hSw)
      first
        | (go_simp; done)
        | (go_simp; with_reducible rfl)
    try simp only [Act.put, List.setIfInBounds_toArray, List.set_cons_zero, List.set_cons_succ]
    refine takeD (i := 3) (v := ?_) (some 38) rfl rfl (by kernel_rfl) (by kernel_rfl) (by kernel_rfl) (fun _ _ _ h => h) (Or.inl ⟨by rfl, ?_⟩) (by assumption) ?_
    rotate_left
    · intro w hSw
      (try dsimp only at hSw)
      first
        | (go_simp; done)
        | (go_simp; with_reducible rfl)
    try simp only [Act.put, List.setIfInBounds_toArray, List.set_cons_zero, List.set_cons_succ]
    refine takeD (i := 4) (v := ?_) (some 39) rfl rfl (by kernel_rfl) (by kernel_rfl) (by kernel_rfl) (fun _ _ _ h => h) (Or.inl ⟨by rfl, ?_⟩) (by assumption) ?_
    rotate_left
    · intro w hSw
      (try dsimp only at hSw)
      first
        | (go_simp; done)
        | (go_simp; with_reducible rfl)
    try simp only [Act.put, List.setIfInBounds_toArray, List.set_cons_zero, List.set_cons_succ]
    refine takeD (i := 5) (v := ?_) (some 40) rfl rfl (by kernel_rfl) (by kernel_rfl) (by kernel_rfl) (fun _ _ _ h => h) (Or.inl ⟨by rfl, ?_⟩) (by assumption) ?_
    rotate_left
    · intro w hSw
      (try dsimp only at hSw)
      first
        | (go_simp; done)
        | (go_simp; with_reducible rfl)
    try simp only [Act.put, List.setIfInBounds_toArray, List.set_cons_zero, List.set_cons_succ]
    refine takeD (i := 6) (v := ?_) (some 41) rfl rfl (by kernel_rfl) (by kernel_rfl) (by kernel_rfl) (fun _ _ _ h => h) (Or.inl ⟨by rfl, ?_⟩) (by assumption) ?_
    rotate_left
    · intro w hSw
      (try dsimp only at hSw)
      first
        | (go_simp; done)
        | (go_simp; with_reducible rfl)
    try simp only [Act.put, List.setIfInBounds_toArray, List.set_cons_zero, List.set_cons_succ]
    refine takeD (i := 7) (v := ?_) (some 42) rfl rfl (by kernel_rfl) (by kernel_rfl) (by kernel_rfl) (fun _ _ _ h => h) (Or.inl ⟨by rfl, ?_⟩) (by assumption) ?_
    rotate_left
    · intro w hSw
      (try dsimp only at hSw)
      first
        | (go_simp; done)
        | (go_simp; with_reducible rfl)
    try simp only [Act.put, List.setIfInBounds_toArray, List.set_cons_zero, List.set_cons_succ]
    refine takeD (i := 8) (v := ?_) (some 43) rfl rfl (by kernel_rfl) (by kernel_rfl) (by kernel_rfl) (fun _ _ _ h => h) (Or.inl ⟨by rfl, ?_⟩) (by assumption) ?_
    rotate_left
    · intro w hSw
      (try dsimp only at hSw)
      first
        | (go_simp; done)
        | (go_simp; with_reducible rfl)
    try simp only [Act.put, List.setIfInBounds_toArray, List.set_cons_zero, List.set_cons_succ]
    refine takeD (i := 9) (v := ?_) (some 44) rfl rfl (by kernel_rfl) (by kernel_rfl) (by kernel_rfl) (fun _ _ _ h => h) (Or.inl ⟨by rfl, ?_⟩) (by assumption) ?_
    rotate_left
    · intro w hSw
      (try dsimp only at hSw)
      first
        | (go_simp; done)
        | (go_simp; with_reducible rfl)
    try simp only [Act.put, List.setIfInBounds_toArray, List.set_cons_zero, List.set_cons_succ]
    refine wpAnyH_ready (rs := [10]) (by kernel_rfl) (by simp) ?_
    refine AllReadyH.cons rfl (fun K hK => ?_) AllReadyH.nil
    go_simp
    have hd := HX.out.keep (Below.refl _ X1).drew
    have HX2 := hid (hd.chR HR.out ⟨(st q).mark, !(bits .and .i64 um 1 == 1), (st q).e⟩ ((hd.both.rf q rp HR.out).1.setOn _) (Chs.setCell (S := fun x => x = rp) (a := ⟨rp, 0, none⟩) rfl _))
    clear HX hd
    have HX := HX2
    clear HX2
    refine hK.out _ _ ?_ (fun hHeld => ?_)
    · (try dsimp only)
      (first | exact HX.out.cells hqN HP.out HR.out | exact hHeld | assumption)
    clear hK K
    try simp only [Act.put, List.setIfInBounds_toArray, List.set_cons_zero, List.set_cons_succ]
    refine wpAnyH_done (by kernel_rfl) ?_ _
    go_wp2
    go_ret
    exact ⟨rfl, _, HX.out.both⟩
  · skip
    refine wp_region_held_drew (S := (fun X => X.cell? ⟨b1, o1 + q, none⟩ = some (.pointer (some ⟨p.1, 0, none⟩)) ∧ X.cell? ⟨b2, o2 + q, none⟩ = some (.pointer (some ⟨rp, 0, none⟩)) ∧ X.cell? ⟨xb, 2, none⟩ = some (.int .i64 um) ∧ X.cell? ⟨xb, 3, none⟩ = some (.int .i64 ui) ∧ X.cell? ⟨xb, 4, none⟩ = some (.string ln))) (by kernel_rfl) (by (try dsimp only); (first | exact HX.out.cells hqN HP.out HR.out | exact hHeld | assumption)) (fun hHeld => ?_)
    refine takeD (i := 0) (v := ?_) (some 47) rfl rfl (by kernel_rfl) (by kernel_rfl) (by kernel_rfl) (fun _ _ _ h => h) (Or.inl ⟨by rfl, ?_⟩) (by assumption) ?_
    rotate_left
    · intro w hSw
      (try dsimp only at hSw)
      first
        | (go_simp; done)
        | (go_simp; with_reducible rfl)
    try simp only [Act.put, List.setIfInBounds_toArray, List.set_cons_zero, List.set_cons_succ]
    refine takeD (i := 1) (v := ?_) (some 48) rfl rfl (by kernel_rfl) (by kernel_rfl) (by kernel_rfl) (fun _ _ _ h => h) (Or.inl ⟨by rfl, ?_⟩) (by assumption) ?_
    rotate_left
    · intro w hSw
      (try dsimp only at hSw)
      first
        | (go_simp; done)
        | (go_simp; with_reducible rfl)
    try simp only [Act.put, List.setIfInBounds_toArray, List.set_cons_zero, List.set_cons_succ]
    refine takeD (i := 2) (v := ?_) (some 49) rfl rfl (by kernel_rfl) (by kernel_rfl) (by kernel_rfl) (fun _ _ _ h => h) (Or.inl ⟨by rfl, ?_⟩) (by assumption) ?_
    rotate_left
    · intro w hSw
      (try dsimp only at hSw)
      first
        | (go_simp; done)
        | (go_simp; with_reducible rfl)
    try simp only [Act.put, List.setIfInBounds_toArray, List.set_cons_zero, List.set_cons_succ]
    refine takeD (i := 3) (v := ?_) (some 50) rfl rfl (by kernel_rfl) (by kernel_rfl) (by kernel_rfl) (fun _ _ _ h => h) (Or.inl ⟨by rfl, ?_⟩) (by assumption) ?_
    rotate_left
    · intro w hSw
      (try dsimp only at hSw)
      first
        | (go_simp; done)
        | (go_simp; with_reducible rfl)
    try simp only [Act.put, List.setIfInBounds_toArray, List.set_cons_zero, List.set_cons_succ]
    refine takeD (i := 4) (v := ?_) (some 51) rfl rfl (by kernel_rfl) (by kernel_rfl) (by kernel_rfl) (fun _ _ _ h => h) (Or.inl ⟨by rfl, ?_⟩) (by assumption) ?_
    rotate_left
    · intro w hSw
      (try dsimp only at hSw)
      first
        | (go_simp; done)
        | (go_simp; with_reducible rfl)
    try simp only [Act.put, List.setIfInBounds_toArray, List.set_cons_zero, List.set_cons_succ]
    refine takeD (i := 5) (v := ?_) (some 52) rfl rfl (by kernel_rfl) (by kernel_rfl) (by kernel_rfl) (fun _ _ _ h => h) (Or.inl ⟨by rfl, ?_⟩) (by assumption) ?_
    rotate_left
    · intro w hSw
      (try dsimp only at hSw)
      first
        | (go_simp; done)
        | (go_simp; with_reducible rfl)
    try simp only [Act.put, List.setIfInBounds_toArray, List.set_cons_zero, List.set_cons_succ]
    refine takeD (i := 7) (v := ?_) (some 54) rfl rfl (by kernel_rfl) (by kernel_rfl) (by kernel_rfl) (fun _ _ _ h => h) (Or.inl ⟨by rfl, ?_⟩) (by assumption) ?_
    rotate_left
    · intro w hSw
      (try dsimp only at hSw)
      first
        | (go_simp; done)
        | (go_simp; with_reducible rfl)
    try simp only [Act.put, List.setIfInBounds_toArray, List.set_cons_zero, List.set_cons_succ]
    refine takeD (i := 8) (v := ?_) (some 55) rfl rfl (by kernel_rfl) (by kernel_rfl) (by kernel_rfl) (fun _ _ _ h => h) (Or.inl ⟨by rfl, ?_⟩) (by assumption) ?_
    rotate_left
    · intro w hSw
      (try dsimp only at hSw)
      first
        | (go_simp; done)
        | (go_simp; with_reducible rfl)
    try simp only [Act.put, List.setIfInBounds_toArray, List.set_cons_zero, List.set_cons_succ]
    refine takeD (i := 9) (v := ?_) (some 56) rfl rfl (by kernel_rfl) (by kernel_rfl) (by kernel_rfl) (fun _ _ _ h => h) (Or.inl ⟨by rfl, ?_⟩) (by assumption) ?_
    rotate_left
    · intro w hSw
      (try dsimp only at hSw)
      first
        | (go_simp; done)
        | (go_simp; with_reducible rfl)
    try simp only [Act.put, List.setIfInBounds_toArray, List.set_cons_zero, List.set_cons_succ]
    refine takeD (i := 10) (v := ?_) (some 57) rfl rfl (by kernel_rfl) (by kernel_rfl) (by kernel_rfl) (fun _ _ _ h => h) (Or.inl ⟨by rfl, ?_⟩) (by assumption) ?_
    rotate_left
    · intro w hSw
      (try dsimp only at hSw)
      first
        | (go_simp; done)
        | (go_simp; with_reducible rfl)
    try simp only [Act.put, List.setIfInBounds_toArray, List.set_cons_zero, List.set_cons_succ]
    refine takeD (i := 11) (v := ?_) (some 58) rfl rfl (by kernel_rfl) (by kernel_rfl) (by kernel_rfl) (fun _ _ _ h => h) (Or.inl ⟨by rfl, ?_⟩) (by assumption) ?_
    rotate_left
    · intro w hSw
      (try dsimp only at hSw)
      first
        | (go_simp; done)
        | (go_simp; with_reducible rfl)
    try simp only [Act.put, List.setIfInBounds_toArray, List.set_cons_zero, List.set_cons_succ]
    refine takeD (i := 12) (v := ?_) (some 59) rfl rfl (by kernel_rfl) (by kernel_rfl) (by kernel_rfl) (fun _ _ _ h => h) (Or.inl ⟨by rfl, ?_⟩) (by assumption) ?_
    rotate_left
    · intro w hSw
      (try dsimp only at hSw)
      first
        | (go_simp; done)
        | (go_simp; with_reducible rfl)
    try simp only [Act.put, List.setIfInBounds_toArray, List.set_cons_zero, List.set_cons_succ]
    refine wpAnyH_ready (rs := [6]) (by kernel_rfl) (by simp) ?_
    refine AllReadyH.cons rfl (fun K hK => ?_) AllReadyH.nil
    go_simp
    have hh := (HX.out.keep (Below.refl _ X).drew)
    have HC := hid (hh.both.cp q p HP.out).1
    clear HX
    refine (promiseF um p.1 p.2 _ _ _ _ HC.out).mono ?_; rintro x X1 ⟨rfl, hc1, hch1⟩
    have HX := hid (hh.chP HP.out ⟨(prmR (st q).away (st q).mark um).2, (st q).away, (st q).e⟩ hc1 (hch1.mono fun b hb => .inl hb))
    clear hh HC hc1 hch1
    refine hK.out _ _ ?_ (fun hHeld => ?_)
    · (try dsimp only)
      (first | exact HX.out.cells hqN HP.out HR.out | exact hHeld | assumption)
    clear hK K
    try simp only [Act.put, List.setIfInBounds_toArray, List.set_cons_zero, List.set_cons_succ]
    refine wpAnyH_ready (rs := [13]) (by kernel_rfl) (by simp) ?_
    refine AllReadyH.cons rfl (fun K hK => ?_) AllReadyH.nil
    go_simp
    have HC := hid (HX.out.both.rf q rp HR.out).1
    refine (refPromiseF um rp _ _ _ _ HC.out).mono ?_; rintro x X2 ⟨rfl, hc2, hch2⟩
    have HX2 := hid (HX.out.chR HR.out ⟨(prmR (st q).away (st q).mark um).2, (st q).away, (st q).e⟩ hc2 hch2)
    clear HX HC hc2 hch2
    have HX := HX2
    clear HX2
    refine hK.out _ _ ?_ (fun hHeld => ?_)
    · (try dsimp only)
      (first | exact HX.out.cells hqN HP.out HR.out | exact hHeld | assumption)
    clear hK K
    try simp only [Act.put, List.setIfInBounds_toArray, List.set_cons_zero, List.set_cons_succ]
    refine takeD (i := 14) (v := ?_) (some 61) rfl rfl (by kernel_rfl) (by kernel_rfl) (by kernel_rfl) (fun _ _ _ h => h) (Or.inl ⟨by rfl, ?_⟩) (by assumption) ?_
    rotate_left
    · intro w hSw
      (try dsimp only at hSw)
      first
        | (go_simp; done)
        | (go_simp; with_reducible rfl)
    try simp only [Act.put, List.setIfInBounds_toArray, List.set_cons_zero, List.set_cons_succ]
    refine takeD (i := 15) (v := ?_) (some 6) rfl rfl (by kernel_rfl) (by kernel_rfl) (by kernel_rfl) (fun _ _ _ h => h) (Or.inl ⟨by rfl, ?_⟩) (by assumption) ?_
    rotate_left
    · intro w hSw
      (try dsimp only at hSw)
      first
        | (go_simp; done)
        | (go_simp; with_reducible rfl)
    try simp only [Act.put, List.setIfInBounds_toArray, List.set_cons_zero, List.set_cons_succ]
    refine wpAnyH_done (by kernel_rfl) ?_ _
    go_wp2
    go_ret
    exact ⟨rfl, _, HX.out.both⟩
  · skip
    refine wp_region_held_drew (S := (fun X => X.cell? ⟨b1, o1 + q, none⟩ = some (.pointer (some ⟨p.1, 0, none⟩)) ∧ X.cell? ⟨b2, o2 + q, none⟩ = some (.pointer (some ⟨rp, 0, none⟩)) ∧ X.cell? ⟨xb, 2, none⟩ = some (.int .i64 um) ∧ X.cell? ⟨xb, 3, none⟩ = some (.int .i64 ui) ∧ X.cell? ⟨xb, 4, none⟩ = some (.string ln))) (by kernel_rfl) (by (try dsimp only); (first | exact HX.out.cells hqN HP.out HR.out | exact hHeld | assumption)) (fun hHeld => ?_)
    refine takeD (i := 0) (v := ?_) (some 64) rfl rfl (by kernel_rfl) (by kernel_rfl) (by kernel_rfl) (fun _ _ _ h => h) (Or.inl ⟨by rfl, ?_⟩) (by assumption) ?_
    rotate_left
    · intro w hSw
      (try dsimp only at hSw)
      first
        | (go_simp; done)
        | (go_simp; with_reducible rfl)
    try simp only [Act.put, List.setIfInBounds_toArray, List.set_cons_zero, List.set_cons_succ]
    refine takeD (i := 1) (v := ?_) (some 65) rfl rfl (by kernel_rfl) (by kernel_rfl) (by kernel_rfl) (fun _ _ _ h => h) (Or.inl ⟨by rfl, ?_⟩) (by assumption) ?_
    rotate_left
    · intro w hSw
      (try dsimp only at hSw)
      first
        | (go_simp; done)
        | (go_simp; with_reducible rfl)
    try simp only [Act.put, List.setIfInBounds_toArray, List.set_cons_zero, List.set_cons_succ]
    refine takeD (i := 2) (v := ?_) (some 66) rfl rfl (by kernel_rfl) (by kernel_rfl) (by kernel_rfl) (fun _ _ _ h => h) (Or.inl ⟨by rfl, ?_⟩) (by assumption) ?_
    rotate_left
    · intro w hSw
      (try dsimp only at hSw)
      first
        | (go_simp; done)
        | (go_simp; with_reducible rfl)
    try simp only [Act.put, List.setIfInBounds_toArray, List.set_cons_zero, List.set_cons_succ]
    refine takeD (i := 3) (v := ?_) (some 67) rfl rfl (by kernel_rfl) (by kernel_rfl) (by kernel_rfl) (fun _ _ _ h => h) (Or.inl ⟨by rfl, ?_⟩) (by assumption) ?_
    rotate_left
    · intro w hSw
      (try dsimp only at hSw)
      first
        | (go_simp; done)
        | (go_simp; with_reducible rfl)
    try simp only [Act.put, List.setIfInBounds_toArray, List.set_cons_zero, List.set_cons_succ]
    refine takeD (i := 4) (v := ?_) (some 68) rfl rfl (by kernel_rfl) (by kernel_rfl) (by kernel_rfl) (fun _ _ _ h => h) (Or.inl ⟨by rfl, ?_⟩) (by assumption) ?_
    rotate_left
    · intro w hSw
      (try dsimp only at hSw)
      first
        | (go_simp; done)
        | (go_simp; with_reducible rfl)
    try simp only [Act.put, List.setIfInBounds_toArray, List.set_cons_zero, List.set_cons_succ]
    refine takeD (i := 5) (v := ?_) (some 69) rfl rfl (by kernel_rfl) (by kernel_rfl) (by kernel_rfl) (fun _ _ _ h => h) (Or.inl ⟨by rfl, ?_⟩) (by assumption) ?_
    rotate_left
    · intro w hSw
      (try dsimp only at hSw)
      first
        | (go_simp; done)
        | (go_simp; with_reducible rfl)
    try simp only [Act.put, List.setIfInBounds_toArray, List.set_cons_zero, List.set_cons_succ]
    refine takeD (i := 6) (v := ?_) (some 70) rfl rfl (by kernel_rfl) (by kernel_rfl) (by kernel_rfl) (fun _ _ _ h => h) (Or.inl ⟨by rfl, ?_⟩) (by assumption) ?_
    rotate_left
    · intro w hSw
      (try dsimp only at hSw)
      first
        | (go_simp; done)
        | (go_simp; with_reducible rfl)
    try simp only [Act.put, List.setIfInBounds_toArray, List.set_cons_zero, List.set_cons_succ]
    refine takeD (i := 7) (v := ?_) (some 71) rfl rfl (by kernel_rfl) (by kernel_rfl) (by kernel_rfl) (fun _ _ _ h => h) (Or.inl ⟨by rfl, ?_⟩) (by assumption) ?_
    rotate_left
    · intro w hSw
      (try dsimp only at hSw)
      first
        | (go_simp; done)
        | (go_simp; with_reducible rfl)
    try simp only [Act.put, List.setIfInBounds_toArray, List.set_cons_zero, List.set_cons_succ]
    refine takeD (i := 8) (v := ?_) (some 72) rfl rfl (by kernel_rfl) (by kernel_rfl) (by kernel_rfl) (fun _ _ _ h => h) (Or.inl ⟨by rfl, ?_⟩) (by assumption) ?_
    rotate_left
    · intro w hSw
      (try dsimp only at hSw)
      first
        | (go_simp; done)
        | (go_simp; with_reducible rfl)
    try simp only [Act.put, List.setIfInBounds_toArray, List.set_cons_zero, List.set_cons_succ]
    refine takeD (i := 9) (v := ?_) (some 73) rfl rfl (by kernel_rfl) (by kernel_rfl) (by kernel_rfl) (fun _ _ _ h => h) (Or.inl ⟨by rfl, ?_⟩) (by assumption) ?_
    rotate_left
    · intro w hSw
      (try dsimp only at hSw)
      first
        | (go_simp; done)
        | (go_simp; with_reducible rfl)
    try simp only [Act.put, List.setIfInBounds_toArray, List.set_cons_zero, List.set_cons_succ]
    refine takeD (i := 11) (v := ?_) (some 75) rfl rfl (by kernel_rfl) (by kernel_rfl) (by kernel_rfl) (fun _ _ _ h => h) (Or.inl ⟨by rfl, ?_⟩) (by assumption) ?_
    rotate_left
    · intro w hSw
      (try dsimp only at hSw)
      first
        | (go_simp; done)
        | (go_simp; with_reducible rfl)
    try simp only [Act.put, List.setIfInBounds_toArray, List.set_cons_zero, List.set_cons_succ]
    refine takeD (i := 12) (v := ?_) (some 76) rfl rfl (by kernel_rfl) (by kernel_rfl) (by kernel_rfl) (fun _ _ _ h => h) (Or.inl ⟨by rfl, ?_⟩) (by assumption) ?_
    rotate_left
    · intro w hSw
      (try dsimp only at hSw)
      first
        | (go_simp; done)
        | (go_simp; with_reducible rfl)
    try simp only [Act.put, List.setIfInBounds_toArray, List.set_cons_zero, List.set_cons_succ]
    refine takeD (i := 13) (v := ?_) (some 77) rfl rfl (by kernel_rfl) (by kernel_rfl) (by kernel_rfl) (fun _ _ _ h => h) (Or.inl ⟨by rfl, ?_⟩) (by assumption) ?_
    rotate_left
    · intro w hSw
      (try dsimp only at hSw)
      first
        | (go_simp; done)
        | (go_simp; with_reducible rfl)
    try simp only [Act.put, List.setIfInBounds_toArray, List.set_cons_zero, List.set_cons_succ]
    refine takeD (i := 14) (v := ?_) (some 78) rfl rfl (by kernel_rfl) (by kernel_rfl) (by kernel_rfl) (fun _ _ _ h => h) (Or.inl ⟨by rfl, ?_⟩) (by assumption) ?_
    rotate_left
    · intro w hSw
      (try dsimp only at hSw)
      first
        | (go_simp; done)
        | (go_simp; with_reducible rfl)
    try simp only [Act.put, List.setIfInBounds_toArray, List.set_cons_zero, List.set_cons_succ]
    refine takeD (i := 15) (v := ?_) (some 79) rfl rfl (by kernel_rfl) (by kernel_rfl) (by kernel_rfl) (fun _ _ _ h => h) (Or.inl ⟨by rfl, ?_⟩) (by assumption) ?_
    rotate_left
    · intro w hSw
      (try dsimp only at hSw)
      first
        | (go_simp; done)
        | (go_simp; with_reducible rfl)
    try simp only [Act.put, List.setIfInBounds_toArray, List.set_cons_zero, List.set_cons_succ]
    refine takeD (i := 16) (v := ?_) (some 80) rfl rfl (by kernel_rfl) (by kernel_rfl) (by kernel_rfl) (fun _ _ _ h => h) (Or.inl ⟨by rfl, ?_⟩) (by assumption) ?_
    rotate_left
    · intro w hSw
      (try dsimp only at hSw)
      first
        | (go_simp; done)
        | (go_simp; with_reducible rfl)
    try simp only [Act.put, List.setIfInBounds_toArray, List.set_cons_zero, List.set_cons_succ]
    refine takeD (i := 17) (v := ?_) (some 81) rfl rfl (by kernel_rfl) (by kernel_rfl) (by kernel_rfl) (fun _ _ _ h => h) (Or.inl ⟨by rfl, ?_⟩) (by assumption) ?_
    rotate_left
    · intro w hSw
      (try dsimp only at hSw)
      first
        | (go_simp; done)
        | (go_simp; with_reducible rfl)
    try simp only [Act.put, List.setIfInBounds_toArray, List.set_cons_zero, List.set_cons_succ]
    refine takeD (i := 18) (v := ?_) (some 82) rfl rfl (by kernel_rfl) (by kernel_rfl) (by kernel_rfl) (fun _ _ _ h => h) (Or.inl ⟨by rfl, ?_⟩) (by assumption) ?_
    rotate_left
    · intro w hSw
      (try dsimp only at hSw)
      first
        | (go_simp; done)
        | (go_simp; with_reducible rfl)
    try simp only [Act.put, List.setIfInBounds_toArray, List.set_cons_zero, List.set_cons_succ]
    refine takeD (i := 19) (v := ?_) (some 83) rfl rfl (by kernel_rfl) (by kernel_rfl) (by kernel_rfl) (fun _ _ _ h => h) (Or.inl ⟨by rfl, ?_⟩) (by assumption) ?_
    rotate_left
    · intro w hSw
      (try dsimp only at hSw)
      first
        | (go_simp; done)
        | (go_simp; with_reducible rfl)
    try simp only [Act.put, List.setIfInBounds_toArray, List.set_cons_zero, List.set_cons_succ]
    refine takeD (i := 20) (v := ?_) (some 84) rfl rfl (by kernel_rfl) (by kernel_rfl) (by kernel_rfl) (fun _ _ _ h => h) (Or.inl ⟨by rfl, ?_⟩) (by assumption) ?_
    rotate_left
    · intro w hSw
      (try dsimp only at hSw)
      first
        | (go_simp; done)
        | (go_simp; with_reducible rfl)
    try simp only [Act.put, List.setIfInBounds_toArray, List.set_cons_zero, List.set_cons_succ]
    refine wpAnyH_ready (rs := [10]) (by kernel_rfl) (by simp) ?_
    refine AllReadyH.cons rfl (fun K hK => ?_) AllReadyH.nil
    go_simp
    have hh := (HX.out.keep (Below.refl _ X).drew)
    have HC := hid (hh.both.cp q p HP.out).1
    clear HX
    refine (putF ui um ln p.1 p.2 _ _ _ _ HC.out).mono ?_; rintro x X1 ⟨rfl, hc1, hch1⟩
    have HX := hid (hh.chP HP.out (putS (st q) ui um ln) (putS_cp hc1) hch1)
    clear hh HC hc1 hch1
    refine hK.out _ _ ?_ (fun hHeld => ?_)
    · (try dsimp only)
      (first | exact HX.out.cells hqN HP.out HR.out | exact hHeld | assumption)
    clear hK K
    try simp only [Act.put, List.setIfInBounds_toArray, List.set_cons_zero, List.set_cons_succ]
    refine wpAnyH_ready (rs := [21]) (by kernel_rfl) (by simp) ?_
    refine AllReadyH.cons rfl (fun K hK => ?_) AllReadyH.nil
    go_simp
    have HC := hid (HX.out.both.rf q rp HR.out).1
    refine (refPutF ui um ln rp _ _ _ _ HC.out).mono ?_; rintro x X2 ⟨rfl, hc2, hch2⟩
    have HX2 := hid (HX.out.chR HR.out (putS (st q) ui um ln) (putS_rf hc2) hch2)
    clear HX HC hc2 hch2
    have HX := HX2
    clear HX2
    refine hK.out _ _ ?_ (fun hHeld => ?_)
    · (try dsimp only)
      (first | exact HX.out.cells hqN HP.out HR.out | exact hHeld | assumption)
    clear hK K
    try simp only [Act.put, List.setIfInBounds_toArray, List.set_cons_zero, List.set_cons_succ]
    refine takeD (i := 22) (v := ?_) (some 86) rfl rfl (by kernel_rfl) (by kernel_rfl) (by kernel_rfl) (fun _ _ _ h => h) (Or.inl ⟨by rfl, ?_⟩) (by assumption) ?_
    rotate_left
    · intro w hSw
      (try dsimp only at hSw)
      first
        | (go_simp; done)
        | (go_simp; with_reducible rfl)
    try simp only [Act.put, List.setIfInBounds_toArray, List.set_cons_zero, List.set_cons_succ]
    refine takeD (i := 23) (v := ?_) (some 6) rfl rfl (by kernel_rfl) (by kernel_rfl) (by kernel_rfl) (fun _ _ _ h => h) (Or.inl ⟨by rfl, ?_⟩) (by assumption) ?_
    rotate_left
    · intro w hSw
      (try dsimp only at hSw)
      first
        | (go_simp; done)
        | (go_simp; with_reducible rfl)
    try simp only [Act.put, List.setIfInBounds_toArray, List.set_cons_zero, List.set_cons_succ]
    refine wpAnyH_done (by kernel_rfl) ?_ _
    go_wp2
    go_ret
    exact ⟨rfl, _, HX.out.both⟩
  · skip
    refine wp_region_held_drew (S := (fun X => X.cell? ⟨b1, o1 + q, none⟩ = some (.pointer (some ⟨p.1, 0, none⟩)) ∧ X.cell? ⟨b2, o2 + q, none⟩ = some (.pointer (some ⟨rp, 0, none⟩)) ∧ X.cell? ⟨xb, 2, none⟩ = some (.int .i64 um) ∧ X.cell? ⟨xb, 3, none⟩ = some (.int .i64 ui) ∧ X.cell? ⟨xb, 4, none⟩ = some (.string ln))) (by kernel_rfl) (by (try dsimp only); (first | exact HX.out.cells hqN HP.out HR.out | exact hHeld | assumption)) (fun hHeld => ?_)
    refine takeD (i := 0) (v := ?_) (some 90) rfl rfl (by kernel_rfl) (by kernel_rfl) (by kernel_rfl) (fun _ _ _ h => h) (Or.inl ⟨by rfl, ?_⟩) (by assumption) ?_
    rotate_left
    · intro w hSw
      (try dsimp only at hSw)
      first
        | (go_simp; done)
        | (go_simp; with_reducible rfl)
    try simp only [Act.put, List.setIfInBounds_toArray, List.set_cons_zero, List.set_cons_succ]
    refine takeD (i := 1) (v := ?_) (some 91) rfl rfl (by kernel_rfl) (by kernel_rfl) (by kernel_rfl) (fun _ _ _ h => h) (Or.inl ⟨by rfl, ?_⟩) (by assumption) ?_
    rotate_left
    · intro w hSw
      (try dsimp only at hSw)
      first
        | (go_simp; done)
        | (go_simp; with_reducible rfl)
    try simp only [Act.put, List.setIfInBounds_toArray, List.set_cons_zero, List.set_cons_succ]
    refine takeD (i := 2) (v := ?_) (some 92) rfl rfl (by kernel_rfl) (by kernel_rfl) (by kernel_rfl) (fun _ _ _ h => h) (Or.inl ⟨by rfl, ?_⟩) (by assumption) ?_
    rotate_left
    · intro w hSw
      (try dsimp only at hSw)
      first
        | (go_simp; done)
        | (go_simp; with_reducible rfl)
    try simp only [Act.put, List.setIfInBounds_toArray, List.set_cons_zero, List.set_cons_succ]
    refine takeD (i := 3) (v := ?_) (some 93) rfl rfl (by kernel_rfl) (by kernel_rfl) (by kernel_rfl) (fun _ _ _ h => h) (Or.inl ⟨by rfl, ?_⟩) (by assumption) ?_
    rotate_left
    · intro w hSw
      (try dsimp only at hSw)
      first
        | (go_simp; done)
        | (go_simp; with_reducible rfl)
    try simp only [Act.put, List.setIfInBounds_toArray, List.set_cons_zero, List.set_cons_succ]
    refine takeD (i := 4) (v := ?_) (some 94) rfl rfl (by kernel_rfl) (by kernel_rfl) (by kernel_rfl) (fun _ _ _ h => h) (Or.inl ⟨by rfl, ?_⟩) (by assumption) ?_
    rotate_left
    · intro w hSw
      (try dsimp only at hSw)
      first
        | (go_simp; done)
        | (go_simp; with_reducible rfl)
    try simp only [Act.put, List.setIfInBounds_toArray, List.set_cons_zero, List.set_cons_succ]
    refine takeD (i := 5) (v := ?_) (some 95) rfl rfl (by kernel_rfl) (by kernel_rfl) (by kernel_rfl) (fun _ _ _ h => h) (Or.inl ⟨by rfl, ?_⟩) (by assumption) ?_
    rotate_left
    · intro w hSw
      (try dsimp only at hSw)
      first
        | (go_simp; done)
        | (go_simp; with_reducible rfl)
    try simp only [Act.put, List.setIfInBounds_toArray, List.set_cons_zero, List.set_cons_succ]
    refine wpAnyH_ready (rs := [6]) (by kernel_rfl) (by simp) ?_
    refine AllReadyH.cons rfl (fun K hK => ?_) AllReadyH.nil
    go_simp
    have hh := (HX.out.keep (Below.refl _ X).drew)
    have HC := hid (hh.both.cp q p HP.out).1
    clear HX
    refine (getF ui p.1 p.2 _ _ _ _ HC.out).mono ?_; rintro x X1 ⟨rfl, hb1⟩
    have HX := hid (hh.keep hb1)
    clear hh HC hb1
    refine hK.out _ _ ?_ (fun hHeld => ?_)
    · (try dsimp only)
      (first | exact HX.out.cells hqN HP.out HR.out | exact hHeld | assumption)
    clear hK K
    try simp only [Act.put, List.setIfInBounds_toArray, List.set_cons_zero, List.set_cons_succ]
    refine takeD (i := 7) (v := ?_) (some 89) rfl rfl (by kernel_rfl) (by kernel_rfl) (by kernel_rfl) (fun _ _ _ h => h) (Or.inl ⟨by rfl, ?_⟩) (by assumption) ?_
    rotate_left
    · intro w hSw
      (try dsimp only at hSw)
      first
        | (go_simp; done)
        | (go_simp; with_reducible rfl)
    try simp only [Act.put, List.setIfInBounds_toArray, List.set_cons_zero, List.set_cons_succ]
    refine takeD (i := 8) (v := ?_) (some 97) rfl rfl (by kernel_rfl) (by kernel_rfl) (by kernel_rfl) (fun _ _ _ h => h) (Or.inl ⟨by rfl, ?_⟩) (by assumption) ?_
    rotate_left
    · intro w hSw
      (try dsimp only at hSw)
      first
        | (go_simp; done)
        | (go_simp; with_reducible rfl)
    try simp only [Act.put, List.setIfInBounds_toArray, List.set_cons_zero, List.set_cons_succ]
    refine takeD (i := 9) (v := ?_) (some 98) rfl rfl (by kernel_rfl) (by kernel_rfl) (by kernel_rfl) (fun _ _ _ h => h) (Or.inl ⟨by rfl, ?_⟩) (by assumption) ?_
    rotate_left
    · intro w hSw
      (try dsimp only at hSw)
      first
        | (go_simp; done)
        | (go_simp; with_reducible rfl)
    try simp only [Act.put, List.setIfInBounds_toArray, List.set_cons_zero, List.set_cons_succ]
    refine takeD (i := 10) (v := ?_) (some 99) rfl rfl (by kernel_rfl) (by kernel_rfl) (by kernel_rfl) (fun _ _ _ h => h) (Or.inl ⟨by rfl, ?_⟩) (by assumption) ?_
    rotate_left
    · intro w hSw
      (try dsimp only at hSw)
      first
        | (go_simp; done)
        | (go_simp; with_reducible rfl)
    try simp only [Act.put, List.setIfInBounds_toArray, List.set_cons_zero, List.set_cons_succ]
    refine takeD (i := 11) (v := ?_) (some 8) rfl rfl (by kernel_rfl) (by kernel_rfl) (by kernel_rfl) (fun _ _ _ h => h) (Or.inl ⟨by rfl, ?_⟩) (by assumption) ?_
    rotate_left
    · intro w hSw
      (try dsimp only at hSw)
      first
        | (go_simp; done)
        | (go_simp; with_reducible rfl)
    try simp only [Act.put, List.setIfInBounds_toArray, List.set_cons_zero, List.set_cons_succ]
    refine takeD (i := 12) (v := ?_) (some 9) rfl rfl (by kernel_rfl) (by kernel_rfl) (by kernel_rfl) (fun _ _ _ h => h) (Or.inl ⟨by rfl, ?_⟩) (by assumption) ?_
    rotate_left
    · intro w hSw
      (try dsimp only at hSw)
      first
        | (go_simp; done)
        | (go_simp; with_reducible rfl)
    try simp only [Act.put, List.setIfInBounds_toArray, List.set_cons_zero, List.set_cons_succ]
    refine takeD (i := 13) (v := ?_) (some 10) rfl rfl (by kernel_rfl) (by kernel_rfl) (by kernel_rfl) (fun _ _ _ h => h) (Or.inl ⟨by rfl, ?_⟩) (by assumption) ?_
    rotate_left
    · intro w hSw
      (try dsimp only at hSw)
      first
        | (go_simp; done)
        | (go_simp; with_reducible rfl)
    try simp only [Act.put, List.setIfInBounds_toArray, List.set_cons_zero, List.set_cons_succ]
    refine wpAnyH_done (by kernel_rfl) ?_ _
    go_wp2_with fail
    refine wp_region_held_drew (S := (fun X => X.cell? ⟨b1, o1 + q, none⟩ = some (.pointer (some ⟨p.1, 0, none⟩)) ∧ X.cell? ⟨b2, o2 + q, none⟩ = some (.pointer (some ⟨rp, 0, none⟩)) ∧ X.cell? ⟨xb, 2, none⟩ = some (.int .i64 um) ∧ X.cell? ⟨xb, 3, none⟩ = some (.int .i64 ui) ∧ X.cell? ⟨xb, 4, none⟩ = some (.string ln))) (by kernel_rfl) (by (try dsimp only); (first | exact HX.out.cells hqN HP.out HR.out | exact hHeld | assumption)) (fun hHeld => ?_)
    refine takeD (i := 0) (v := ?_) (some 101) rfl rfl (by kernel_rfl) (by kernel_rfl) (by kernel_rfl) (fun _ _ _ h => h) (Or.inl ⟨by rfl, ?_⟩) (by assumption) ?_
    rotate_left
    · intro w hSw
      (try dsimp only at hSw)
      first
        | (go_simp; done)
        | (go_simp; with_reducible rfl)
    try simp only [Act.put, List.setIfInBounds_toArray, List.set_cons_zero, List.set_cons_succ]
    refine takeD (i := 1) (v := ?_) (some 102) rfl rfl (by kernel_rfl) (by kernel_rfl) (by kernel_rfl) (fun _ _ _ h => h) (Or.inl ⟨by rfl, ?_⟩) (by assumption) ?_
    rotate_left
    · intro w hSw
      (try dsimp only at hSw)
      first
        | (go_simp; done)
        | (go_simp; with_reducible rfl)
    try simp only [Act.put, List.setIfInBounds_toArray, List.set_cons_zero, List.set_cons_succ]
    refine takeD (i := 2) (v := ?_) (some 103) rfl rfl (by kernel_rfl) (by kernel_rfl) (by kernel_rfl) (fun _ _ _ h => h) (Or.inl ⟨by rfl, ?_⟩) (by assumption) ?_
    rotate_left
    · intro w hSw
      (try dsimp only at hSw)
      first
        | (go_simp; done)
        | (go_simp; with_reducible rfl)
    try simp only [Act.put, List.setIfInBounds_toArray, List.set_cons_zero, List.set_cons_succ]
    refine takeD (i := 3) (v := ?_) (some 104) rfl rfl (by kernel_rfl) (by kernel_rfl) (by kernel_rfl) (fun _ _ _ h => h) (Or.inl ⟨by rfl, ?_⟩) (by assumption) ?_
    rotate_left
    · intro w hSw
      (try dsimp only at hSw)
      first
        | (go_simp; done)
        | (go_simp; with_reducible rfl)
    try simp only [Act.put, List.setIfInBounds_toArray, List.set_cons_zero, List.set_cons_succ]
    refine takeD (i := 4) (v := ?_) (some 105) rfl rfl (by kernel_rfl) (by kernel_rfl) (by kernel_rfl) (fun _ _ _ h => h) (Or.inl ⟨by rfl, ?_⟩) (by assumption) ?_
    rotate_left
    · intro w hSw
      (try dsimp only at hSw)
      first
        | (go_simp; done)
        | (go_simp; with_reducible rfl)
    try simp only [Act.put, List.setIfInBounds_toArray, List.set_cons_zero, List.set_cons_succ]
    refine takeD (i := 5) (v := ?_) (some 106) rfl rfl (by kernel_rfl) (by kernel_rfl) (by kernel_rfl) (fun _ _ _ h => h) (Or.inl ⟨by rfl, ?_⟩) (by assumption) ?_
    rotate_left
    · intro w hSw
      (try dsimp only at hSw)
      first
        | (go_simp; done)
        | (go_simp; with_reducible rfl)
    try simp only [Act.put, List.setIfInBounds_toArray, List.set_cons_zero, List.set_cons_succ]
    refine wpAnyH_ready (rs := [6]) (by kernel_rfl) (by simp) ?_
    refine AllReadyH.cons rfl (fun K hK => ?_) AllReadyH.nil
    go_simp
    have hh := (HX.out.keep (Below.refl _ X1).drew)
    have HC := hid (hh.both.rf q rp HR.out).1
    clear HX
    refine (refGetF ui rp _ _ _ _ HC.out).mono ?_; rintro x X2 ⟨rfl, hb2⟩
    have HX := hid (hh.keep hb2)
    clear hh HC hb2
    refine hK.out _ _ ?_ (fun hHeld => ?_)
    · (try dsimp only)
      (first | exact HX.out.cells hqN HP.out HR.out | exact hHeld | assumption)
    clear hK K
    try simp only [Act.put, List.setIfInBounds_toArray, List.set_cons_zero, List.set_cons_succ]
    refine takeD (i := 7) (v := ?_) (some 100) rfl rfl (by kernel_rfl) (by kernel_rfl) (by kernel_rfl) (fun _ _ _ h => h) (Or.inl ⟨by rfl, ?_⟩) (by assumption) ?_
    rotate_left
    · intro w hSw
      (try dsimp only at hSw)
      first
        | (go_simp; done)
        | (go_simp; with_reducible rfl)
    try simp only [Act.put, List.setIfInBounds_toArray, List.set_cons_zero, List.set_cons_succ]
    refine takeD (i := 8) (v := ?_) (some 108) rfl rfl (by kernel_rfl) (by kernel_rfl) (by kernel_rfl) (fun _ _ _ h => h) (Or.inl ⟨by rfl, ?_⟩) (by assumption) ?_
    rotate_left
    · intro w hSw
      (try dsimp only at hSw)
      first
        | (go_simp; done)
        | (go_simp; with_reducible rfl)
    try simp only [Act.put, List.setIfInBounds_toArray, List.set_cons_zero, List.set_cons_succ]
    refine takeD (i := 9) (v := ?_) (some 109) rfl rfl (by kernel_rfl) (by kernel_rfl) (by kernel_rfl) (fun _ _ _ h => h) (Or.inl ⟨by rfl, ?_⟩) (by assumption) ?_
    rotate_left
    · intro w hSw
      (try dsimp only at hSw)
      first
        | (go_simp; done)
        | (go_simp; with_reducible rfl)
    try simp only [Act.put, List.setIfInBounds_toArray, List.set_cons_zero, List.set_cons_succ]
    refine takeD (i := 10) (v := ?_) (some 110) rfl rfl (by kernel_rfl) (by kernel_rfl) (by kernel_rfl) (fun _ _ _ h => h) (Or.inl ⟨by rfl, ?_⟩) (by assumption) ?_
    rotate_left
    · intro w hSw
      (try dsimp only at hSw)
      first
        | (go_simp; done)
        | (go_simp; with_reducible rfl)
    try simp only [Act.put, List.setIfInBounds_toArray, List.set_cons_zero, List.set_cons_succ]
    refine takeD (i := 11) (v := ?_) (some 11) rfl rfl (by kernel_rfl) (by kernel_rfl) (by kernel_rfl) (fun _ _ _ h => h) (Or.inl ⟨by rfl, ?_⟩) (by assumption) ?_
    rotate_left
    · intro w hSw
      (try dsimp only at hSw)
      first
        | (go_simp; done)
        | (go_simp; with_reducible rfl)
    try simp only [Act.put, List.setIfInBounds_toArray, List.set_cons_zero, List.set_cons_succ]
    refine takeD (i := 12) (v := ?_) (some 12) rfl rfl (by kernel_rfl) (by kernel_rfl) (by kernel_rfl) (fun _ _ _ h => h) (Or.inl ⟨by rfl, ?_⟩) (by assumption) ?_
    rotate_left
    · intro w hSw
      (try dsimp only at hSw)
      first
        | (go_simp; done)
        | (go_simp; with_reducible rfl)
    try simp only [Act.put, List.setIfInBounds_toArray, List.set_cons_zero, List.set_cons_succ]
    refine takeD (i := 13) (v := ?_) (some 13) rfl rfl (by kernel_rfl) (by kernel_rfl) (by kernel_rfl) (fun _ _ _ h => h) (Or.inl ⟨by rfl, ?_⟩) (by assumption) ?_
    rotate_left
    · intro w hSw
      (try dsimp only at hSw)
      first
        | (go_simp; done)
        | (go_simp; with_reducible rfl)
    try simp only [Act.put, List.setIfInBounds_toArray, List.set_cons_zero, List.set_cons_succ]
    refine wpAnyH_done (by kernel_rfl) ?_ _
    go_wp2
    go_ret
    exact ⟨rfl, _, HX.out.both⟩
  · go_ret
    exact ⟨rfl, _, HX.out.both⟩
end Go.Proofs.YtkjinamjdjijcaaGreatDoor

