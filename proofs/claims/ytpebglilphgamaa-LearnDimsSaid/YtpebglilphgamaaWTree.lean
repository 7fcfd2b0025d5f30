/- Walk of tree: the program's look at a tree. Condition: the slices read as lists. -/
import Derived.Test.YtpebglilphgamaaCheck
import Derived.Deep.RegionHeld3
namespace Go.Proofs.Ytpebglilphgamaa
open Go.RowKit Go.Maps

section
variable {P : Program} {ops : Array Oper} {Q : Exit → Act → World → Prop} {md : Region.Mode} {S : World → Prop}
/-- An operation taken first, its temporary named. -/
theorem takeD {i : Nat} {oi : Oper} {v : Value} {fuel : Nat} {listed : Array Bool} {a : Act} {w : World} (d : Option Tmp) (hi : ops[i]? = some oi) (hd : oi.dst = d)
    (hs : Region.noSelect ops = true) (hf : Region.free md ops listed i = true) (hr : (Region.ready md ops listed).contains i = true)
    (hQ : ∀ c a w, Q (.panic c) (a.put d v) w → Q (.panic c) a w) (hy : YieldsIf P ops S oi v a) (hS : S w)
    (h : wpAnyH P md ops Q S fuel (listed.setIfInBounds i true) (a.put d v) w) : wpAnyH P md ops Q S (fuel + 1) listed a w := by
  subst hd
  exact wpAnyH_take hi hs hf hr hQ hy hS h
end

/-- A school, nodes, and the map of those that were met. -/
structure Stt (w : World) (s p : Nat) (A : Option Addr) (n c : Nat) (xs : List Int) (B M : Nat) (T : Option Addr) (m k : Nat) (ts : List Nd) (told : Nat → Bool) : Prop where
  sch : Sch w s p A n c xs B
  sl3 : Sl3 w T m k ts
  met : Met w M told
  ns : s ≠ M
section
variable {w w' : World} {s p : Nat} {A : Option Addr} {n c : Nat} {xs : List Int} {B M : Nat} {T : Option Addr} {m k : Nat} {ts : List Nd} {told told' : Nat → Bool}
theorem Stt.grown (h : Stt w s p A n c xs B M T m k ts told) (hg : w.grownBy w' (some M)) (hm : Met w' M told') : Stt w' s p A n c xs B M T m k ts told' := by
  have hcell : ∀ (a : Addr) (v : Value), w.cell? a = some v → w'.cell? a = some v := fun a v hv =>
    (World.cell?_of_block (hg.block a.block (World.block_lt_of_cell? w a hv) (by simpa using h.met.ne_cell hv))).trans hv
  refine ⟨⟨h.sch.blk.grown hg (by simpa using h.ns), h.sch.sl.len, h.sch.sl.cap, h.sch.sl.capm, fun hn => ?_⟩, ⟨h.sl3.len, h.sl3.cap, h.sl3.capm, fun hn => ?_⟩, hm, h.ns⟩
  · obtain ⟨b, o, e, hb, hc⟩ := h.sch.sl.pos hn
    exact ⟨b, o, e, Nat.lt_of_lt_of_le hb hg.size, fun j u hu => hcell _ _ (hc j u hu)⟩
  · obtain ⟨b, o, e, hb, hc⟩ := h.sl3.pos hn
    exact ⟨b, o, e, Nat.lt_of_lt_of_le hb hg.size, fun j u hu => ⟨hcell _ _ (hc j u hu).1, hcell _ _ (hc j u hu).2.1, hcell _ _ (hc j u hu).2.2⟩⟩
theorem Stt.below (h : Stt w s p A n c xs B M T m k ts told) (hb : Below w.heap.size w w') : Stt w' s p A n c xs B M T m k ts told :=
  ⟨h.sch.keep hb, h.sl3.below hb, h.met.keep hb, h.ns⟩
theorem Stt.drewN (h : Stt w s p A n c xs B M T m k ts told) (j : Nat) : Stt (w.drewN j) s p A n c xs B M T m k ts told :=
  ⟨h.sch.drewN j, h.sl3.drewN j, h.met.drewN j, h.ns⟩
theorem Stt.drew (h : Stt w s p A n c xs B M T m k ts told) : Stt w.drew s p A n c xs B M T m k ts told :=
  ⟨⟨h.sch.blk.drew, h.sch.sl.drew⟩, ⟨h.sl3.len, h.sl3.cap, h.sl3.capm, h.sl3.pos⟩, h.met, h.ns⟩
end

def TreeTo (s p : Nat) (A : Option Addr) (n c : Nat) (xs : List Int) (B M : Nat) (T : Option Addr) (m k : Nat) (ts : List Nd) (d : Nat) : Prop :=
  ∀ (f : Nat → Bool) (W : World) (r : Int) (told : Nat → Bool), Stt W s p A n c xs B M T m k ts told →
    Calls Try.prog 63 #[.pointer (some ⟨s, 0, none⟩), .slice T m k, .int .i64 r, .int .i64 (mk n f), .int .i64 d, .map (some M)] W fun e w' =>
      e = .returned (.bool (treeL p ts d r (sel n f xs) told).isSome) ∧ W.grownBy w' (some M) ∧ ∀ t, treeL p ts d r (sel n f xs) told = some t → Met w' M t

set_option maxRecDepth 100000 in
set_option maxHeartbeats 1000000 in
theorem treeZero (s p : Nat) (A : Option Addr) (n c : Nat) (xs : List Int) (B M : Nat) (T : Option Addr) (m k : Nat) (ts : List Nd) : TreeTo s p A n c xs B M T m k ts 0 := by
  intro f W r told hst
  have HM := hid hst.met
  by_cases hr : r = -1
  · have hr' : (r == -1) = true := by rw [beq_iff_eq]; exact hr
    by_cases hz : mk n f = 0
    · have hz' : (mk n f != 0) = false := by rw [bne_eq_false_iff_eq]; exact hz
      have hE : treeL p ts 0 r (sel n f xs) told = none := by simp [treeL, sel_nil.2 hz]
      rw [hE]
      clear hE hz hr hst
      go_enter Try.func63, Try.ntmps63
      go_wp2
      go_ret
      exact ⟨rfl, grow_refl _ _, fun t h => by cases h⟩
    · have hz' : (mk n f != 0) = true := by rw [bne_iff_ne]; exact hz
      have hE : treeL p ts 0 r (sel n f xs) told = some told := by
        have : sel n f xs ≠ [] := fun e => hz (sel_nil.1 e)
        simp [treeL, hr, this]
      rw [hE]
      clear hE hz hr hst
      go_enter Try.func63, Try.ntmps63
      go_wp2
      go_ret
      exact ⟨rfl, grow_refl _ _, fun t h => by cases h; exact HM.out⟩
  · have hr' : (r == -1) = false := by rw [beq_eq_false_iff_ne]; exact hr
    have hE : treeL p ts 0 r (sel n f xs) told = none := treeL_zero_bad hr
    rw [hE]
    clear hE hr hst
    go_enter Try.func63, Try.ntmps63
    go_wp2
    go_ret
    exact ⟨rfl, grow_refl _ _, fun t h => by cases h⟩

set_option maxRecDepth 100000 in
set_option maxHeartbeats 4000000 in
theorem treeStep (s p : Nat) (A : Option Addr) (n c : Nat) (xs : List Int) (B M : Nat) (T : Option Addr) (m k : Nat) (ts : List Nd) (d : Nat) (hp : p ≤ 60) (hn : n ≤ 16) (hd : d ≤ 60) (IH : TreeTo s p A n c xs B M T m k ts d) : TreeTo s p A n c xs B M T m k ts (d + 1) := by
  intro f W r told hst
  have hle := hst.sl3.len_le
  have hl := hst.sl3.len
  have hd0 : (((d + 1 : Nat) : Int) == 0) = false := by rw [beq_eq_false_iff_ne]; omega
  have hd00 : (((d : Int) + 1) == 0) = false := by rw [beq_eq_false_iff_ne]; omega
  by_cases h0 : r < 0
  · have h0' : decide (r < 0) = true := decide_eq_true h0
    have hE : treeL p ts (d + 1) r (sel n f xs) told = none := by simp only [treeL]; rw [if_pos (.inl h0)]
    rw [hE]
    clear hE h0 hst hl
    go_enter Try.func63, Try.ntmps63
    go_wp2
    go_ret
    exact ⟨rfl, grow_refl _ _, fun t h => by cases h⟩
  have h0' : decide (r < 0) = false := decide_eq_false h0
  obtain ⟨i, rfl⟩ := Int.eq_ofNat_of_zero_le (show 0 ≤ r by omega)
  by_cases h1 : m ≤ i
  · have h1' : decide ((m : Int) ≤ (i : Int)) = true := decide_eq_true (by omega)
    have h1'' : decide (m ≤ i) = true := decide_eq_true h1
    have hE : treeL p ts (d + 1) (i : Int) (sel n f xs) told = none := treeL_out (by omega)
    rw [hE]
    clear hE h0 hst hl h1
    go_enter Try.func63, Try.ntmps63
    go_wp2
    go_ret
    exact ⟨rfl, grow_refl _ _, fun t h => by cases h⟩
  have h1' : decide ((m : Int) ≤ (i : Int)) = false := decide_eq_false (by omega)
  have h1'' : decide (m ≤ i) = false := decide_eq_false h1
  have hlk := hst.met.look (i := i) (by omega)
  cases ht : told i with
  | true =>
    have hE : treeL p ts (d + 1) (i : Int) (sel n f xs) told = none := by simp only [treeL]; rw [if_pos (.inr (.inr ht))]
    rw [hE]
    rw [ht] at hlk
    clear hE h0 hst hl h1 ht
    go_enter Try.func63, Try.ntmps63
    go_wp2
    go_ret
    exact ⟨rfl, grow_refl _ _, fun t h => by cases h⟩
  | false =>
    rw [ht] at hlk
    obtain ⟨W1, hu, hm1, hg1⟩ := hst.met.update (i := i) (by omega)
    have hst1 := hst.grown hg1 hm1
    obtain ⟨b, o, rfl, lb, _, a0, a1, a2⟩ := hst1.sl3.at (k := i) (by omega)
    have hE0 : treeL p ts (d + 1) (i : Int) (sel n f xs) told = if (nd ts i).pt < 0 ∨ (p : Int) ≤ (nd ts i).pt ∨ (0 < d ∧ min (nd ts i).zero (nd ts i).one ≤ (i : Int)) then none
        else (treeL p ts d (nd ts i).zero (split (sel n f xs) (nd ts i).pt false) (updB told i)).bind fun m => treeL p ts d (nd ts i).one (split (sel n f xs) (nd ts i).pt true) m := by
      simp only [treeL]
      rw [if_neg (by rintro (a | a | a); omega; omega; rw [Int.toNat_natCast, ht] at a; cases a), Int.toNat_natCast]
    have HG1 := hid hg1
    have HST1 := hid hst1
    generalize hnd : nd ts i = u at *
    obtain ⟨pt, ze, on⟩ := u
    simp only at a0 a1 a2 hE0
    have him : i < m := by omega
    have a1' : W1.cell? ⟨b, o + i * 3 + 1, none⟩ = some (.int .i64 ze) := a1
    have a2' : W1.cell? ⟨b, o + i * 3 + 2, none⟩ = some (.int .i64 on) := a2
    clear a1 a2
    have hz1 := hg1.size
    have hbl := Blk.new W1 41 #[.int .i64 pt, .int .i64 ze, .int .i64 on]
    have HBL := hid hbl
    have n0 := hbl.cell 0
    have n1 := hbl.cell 1
    have n2 := hbl.cell 2
    simp at n0 n1 n2
    have HST2 := hid (hst1.below ((Below.refl _ _).alloc (Nat.le_refl _) (.cells #[.int .i64 pt, .int .i64 ze, .int .i64 on] 41)))
    have s0 := HST2.out.sch.c0
    have as0 : (⟨s, 0, none⟩ : Addr).add 0 = ⟨s, 0, none⟩ := rfl
    have G9 := hid (show ∀ q : Nat, W.grownBy ((W1.alloc (.cells #[.int .i64 pt, .int .i64 ze, .int .i64 on] 41)).drewN q) (some M) from fun q =>
      grow_trans hg1 (grow_below (below_drewN ((Below.refl _ _).alloc (Nat.le_refl _) _) q)))
    have HIM := hid him
    have HL := hid hl
    clear ht hst hst1 hg1 hm1 hbl hz1 hl h0 h1
    by_cases c1 : pt < 0
    · have c1' : decide (pt < 0) = true := decide_eq_true c1
      have hE : treeL p ts (d + 1) (i : Int) (sel n f xs) told = none := by rw [hE0, if_pos (.inl c1)]
      rw [hE]
      clear hE hE0 c1
      go_enter Try.func63, Try.ntmps63
      go_wp2_with fail
      go_quiet (fail)
      go_wp2
      go_ret
      exact ⟨rfl, G9.out _, fun t h => by cases h⟩
    have c1' : decide (pt < 0) = false := decide_eq_false c1
    by_cases c2 : (p : Int) ≤ pt
    · have c2' : decide ((p : Int) ≤ pt) = true := decide_eq_true c2
      have hE : treeL p ts (d + 1) (i : Int) (sel n f xs) told = none := by rw [hE0, if_pos (.inr (.inl c2))]
      rw [hE]
      clear hE hE0 c1 c2
      go_enter Try.func63, Try.ntmps63
      go_wp2_with fail
      go_quiet (fail)
      go_wp2
      go_ret
      exact ⟨rfl, G9.out _, fun t h => by cases h⟩
    have c2' : decide ((p : Int) ≤ pt) = false := decide_eq_false c2
    by_cases c3 : 0 < d ∧ min ze on ≤ (i : Int)
    · have hE : treeL p ts (d + 1) (i : Int) (sel n f xs) told = none := by rw [hE0, if_pos (.inr (.inr c3))]
      rw [hE]
      have e1 : decide (1 < (((d + 1 : Nat) : Int))) = true := decide_eq_true (by omega)
      have e2 : decide (1 < (d : Int) + 1) = true := decide_eq_true (by omega)
      have e3 : decide (0 < (d : Int)) = true := decide_eq_true (by omega)
      clear hE hE0 c1 c2
      go_enter Try.func63, Try.ntmps63
      go_wp2_with fail
      go_quiet (fail)
      go_wp2
      go_ret
      exact ⟨rfl, G9.out _, fun t h => by cases h⟩
    obtain ⟨x, rfl⟩ := Int.eq_ofNat_of_zero_le (show 0 ≤ pt by omega)
    have c2'' : decide (p ≤ x) = false := decide_eq_false (by omega)
    have hE : treeL p ts (d + 1) (i : Int) (sel n f xs) told = (treeL p ts d ze (split (sel n f xs) x false) (updB told i)).bind fun m => treeL p ts d on (split (sel n f xs) x true) m := by
      rw [hE0, if_neg]
      rintro (a | a | a)
      · exact c1 a
      · exact c2 a
      · exact c3 a
    have S0 := hid fun W' (hW : Sch W' s p A n c xs B) => saidS s p A n c xs B f x false ⟨by omega, by omega⟩ hn W' hW
    have S1 := hid fun W' (hW : Sch W' s p A n c xs B) => saidS s p A n c xs B f x true ⟨by omega, by omega⟩ hn W' hW
    rw [show (if false = true then (1 : Int) else 0) = 0 from rfl] at S0
    rw [show (if true = true then (1 : Int) else 0) = 1 from rfl] at S1
    rw [sel_split, sel_split] at hE
    generalize (fun i => f i && (bitB (at0 xs i) x == false)) = f0 at *
    generalize (fun i => f i && (bitB (at0 xs i) x == true)) = f1 at *
    have I0 := hid fun W' hW => IH f0 W' ze (updB told i) hW
    rw [hE]
    clear hE hE0 c1 c2
    cases hr : treeL p ts d ze (sel n f0 xs) (updB told i) with
    | none =>
      rw [hr] at I0
      simp only [Option.isSome_none] at I0
      rw [Option.bind_none]
      clear hr
      by_cases hd1 : d = 0
      · have e1 : decide (1 < (((d + 1 : Nat) : Int))) = false := decide_eq_false (by omega)
        have e2 : decide (1 < (d : Int) + 1) = false := decide_eq_false (by omega)
        have e3 : decide (0 < (d : Int)) = false := decide_eq_false (by omega)
        clear c3 hd1
        go_enter Try.func63, Try.ntmps63
        go_wp2_with fail
        go_quiet (fail)
        go_wp2
        have HSa := hid (HST2.out.drewN nq).drew
        have hnbM : W1.heap.size ≠ M := by have := HST1.out.met.lt; omega
        have q0 : ((W1.alloc (.cells #[.int .i64 (x : Int), .int .i64 ze, .int .i64 on] 41)).drewN nq).cell? ⟨W1.heap.size, 0, none⟩ = some (.int .i64 (x : Int)) := by simp
        have q1 : ((W1.alloc (.cells #[.int .i64 (x : Int), .int .i64 ze, .int .i64 on] 41)).drewN nq).cell? ⟨W1.heap.size, 1, none⟩ = some (.int .i64 ze) := by simp
        have q2 : ((W1.alloc (.cells #[.int .i64 (x : Int), .int .i64 ze, .int .i64 on] 41)).drewN nq).cell? ⟨W1.heap.size, 2, none⟩ = some (.int .i64 on) := by simp
        have hs3 : IntKind.i64.wrap (d : Int) = (d : Int) := by rw [IntKind.wrap_i64]; omega
        have hs4 : IntKind.i64.wrap ((d : Int) + 1 - 1) = (d : Int) := by rw [IntKind.wrap_i64]; omega
        have hs5 : IntKind.i64.wrap (((d + 1 : Nat) : Int) - 1) = (d : Int) := by rw [IntKind.wrap_i64]; omega
        have HW5 := hid (show ∀ w5, ((W1.alloc (.cells #[.int .i64 (x : Int), .int .i64 ze, .int .i64 on] 41)).drewN nq).drew.grownBy w5 (some M) → (w5.cell? ⟨W1.heap.size, 0, none⟩ = some (.int .i64 (x : Int)) ∧ w5.cell? ⟨W1.heap.size, 1, none⟩ = some (.int .i64 ze) ∧ w5.cell? ⟨W1.heap.size, 2, none⟩ = some (.int .i64 on)) ∧ W.grownBy w5 (some M) from fun w5 g5 => by
          have hlt : W1.heap.size < ((W1.alloc (.cells #[.int .i64 (x : Int), .int .i64 ze, .int .i64 on] 41)).drewN nq).drew.heap.size := by simp
          have hb := g5.block W1.heap.size hlt (by simpa using hnbM)
          refine ⟨⟨?_, ?_, ?_⟩, grow_trans (G9.out nq) ⟨g5.os, g5.tape, g5.output, g5.size, g5.block⟩⟩
          · exact (World.cell?_of_block (a := ⟨W1.heap.size, 0, none⟩) hb).trans q0
          · exact (World.cell?_of_block (a := ⟨W1.heap.size, 1, none⟩) hb).trans q1
          · exact (World.cell?_of_block (a := ⟨W1.heap.size, 2, none⟩) hb).trans q2)
        refine wp_region_held_drew (S := (fun w' => w'.cell? ⟨W1.heap.size, 0, none⟩ = some (.int .i64 (x : Int)) ∧ w'.cell? ⟨W1.heap.size, 1, none⟩ = some (.int .i64 ze) ∧ w'.cell? ⟨W1.heap.size, 2, none⟩ = some (.int .i64 on))) (by kernel_rfl) (by (try dsimp only); (first | assumption | go_keep)) (fun hHeld => ?_)
        refine takeD (i := 0) (v := ?_) (some 66) rfl rfl (by kernel_rfl) (by kernel_rfl) (by kernel_rfl) (fun _ _ _ h => h) (Or.inl ⟨by rfl, ?_⟩) (by assumption) ?_
        rotate_left
        · intro w hSw
          (try dsimp only at hSw)
          first
            | (go_simp; done)
            | (go_simp; with_reducible rfl)
        try simp only [Act.put, List.setIfInBounds_toArray, List.set_cons_zero, List.set_cons_succ]
        refine takeD (i := 1) (v := ?_) (some 67) rfl rfl (by kernel_rfl) (by kernel_rfl) (by kernel_rfl) (fun _ _ _ h => h) (Or.inl ⟨by rfl, ?_⟩) (by assumption) ?_
        rotate_left
        · intro w hSw
          (try dsimp only at hSw)
          first
            | (go_simp; done)
            | (go_simp; with_reducible rfl)
        try simp only [Act.put, List.setIfInBounds_toArray, List.set_cons_zero, List.set_cons_succ]
        refine takeD (i := 2) (v := ?_) (some 68) rfl rfl (by kernel_rfl) (by kernel_rfl) (by kernel_rfl) (fun _ _ _ h => h) (Or.inl ⟨by rfl, ?_⟩) (by assumption) ?_
        rotate_left
        · intro w hSw
          (try dsimp only at hSw)
          first
            | (go_simp; done)
            | (go_simp; with_reducible rfl)
        try simp only [Act.put, List.setIfInBounds_toArray, List.set_cons_zero, List.set_cons_succ]
        refine takeD (i := 3) (v := ?_) (some 69) rfl rfl (by kernel_rfl) (by kernel_rfl) (by kernel_rfl) (fun _ _ _ h => h) (Or.inl ⟨by rfl, ?_⟩) (by assumption) ?_
        rotate_left
        · intro w hSw
          (try dsimp only at hSw)
          first
            | (go_simp; done)
            | (go_simp; with_reducible rfl)
        try simp only [Act.put, List.setIfInBounds_toArray, List.set_cons_zero, List.set_cons_succ]
        refine takeD (i := 4) (v := ?_) (some 70) rfl rfl (by kernel_rfl) (by kernel_rfl) (by kernel_rfl) (fun _ _ _ h => h) (Or.inl ⟨by rfl, ?_⟩) (by assumption) ?_
        rotate_left
        · intro w hSw
          (try dsimp only at hSw)
          first
            | (go_simp; done)
            | (go_simp; with_reducible rfl)
        try simp only [Act.put, List.setIfInBounds_toArray, List.set_cons_zero, List.set_cons_succ]
        refine takeD (i := 5) (v := ?_) (some 71) rfl rfl (by kernel_rfl) (by kernel_rfl) (by kernel_rfl) (fun _ _ _ h => h) (Or.inl ⟨by rfl, ?_⟩) (by assumption) ?_
        rotate_left
        · intro w hSw
          (try dsimp only at hSw)
          first
            | (go_simp; done)
            | (go_simp; with_reducible rfl)
        try simp only [Act.put, List.setIfInBounds_toArray, List.set_cons_zero, List.set_cons_succ]
        refine takeD (i := 6) (v := ?_) (some 72) rfl rfl (by kernel_rfl) (by kernel_rfl) (by kernel_rfl) (fun _ _ _ h => h) (Or.inl ⟨by rfl, ?_⟩) (by assumption) ?_
        rotate_left
        · intro w hSw
          (try dsimp only at hSw)
          first
            | (go_simp; done)
            | (go_simp; with_reducible rfl)
        try simp only [Act.put, List.setIfInBounds_toArray, List.set_cons_zero, List.set_cons_succ]
        refine takeD (i := 7) (v := ?_) (some 73) rfl rfl (by kernel_rfl) (by kernel_rfl) (by kernel_rfl) (fun _ _ _ h => h) (Or.inl ⟨by rfl, ?_⟩) (by assumption) ?_
        rotate_left
        · intro w hSw
          (try dsimp only at hSw)
          first
            | (go_simp; done)
            | (go_simp; with_reducible rfl)
        try simp only [Act.put, List.setIfInBounds_toArray, List.set_cons_zero, List.set_cons_succ]
        refine takeD (i := 9) (v := ?_) (some 75) rfl rfl (by kernel_rfl) (by kernel_rfl) (by kernel_rfl) (fun _ _ _ h => h) (Or.inl ⟨by rfl, ?_⟩) (by assumption) ?_
        rotate_left
        · intro w hSw
          (try dsimp only at hSw)
          first
            | (go_simp; done)
            | (go_simp; with_reducible rfl)
        try simp only [Act.put, List.setIfInBounds_toArray, List.set_cons_zero, List.set_cons_succ]
        refine takeD (i := 10) (v := ?_) (some 76) rfl rfl (by kernel_rfl) (by kernel_rfl) (by kernel_rfl) (fun _ _ _ h => h) (Or.inl ⟨by rfl, ?_⟩) (by assumption) ?_
        rotate_left
        · intro w hSw
          (try dsimp only at hSw)
          first
            | (go_simp; done)
            | (go_simp; with_reducible rfl)
        try simp only [Act.put, List.setIfInBounds_toArray, List.set_cons_zero, List.set_cons_succ]
        refine takeD (i := 11) (v := ?_) (some 77) rfl rfl (by kernel_rfl) (by kernel_rfl) (by kernel_rfl) (fun _ _ _ h => h) (Or.inl ⟨by rfl, ?_⟩) (by assumption) ?_
        rotate_left
        · intro w hSw
          (try dsimp only at hSw)
          first
            | (go_simp; done)
            | (go_simp; with_reducible rfl)
        try simp only [Act.put, List.setIfInBounds_toArray, List.set_cons_zero, List.set_cons_succ]
        refine wpAnyH_ready (rs := [8]) (by kernel_rfl) (by simp) ?_
        refine AllReadyH.cons rfl (fun K hK => ?_) AllReadyH.nil
        go_simp
        refine (S0.out _ HSa.out.sch).mono ?_; rintro e w3 ⟨rfl, rfl⟩
        refine hK.out _ _ ?_ (fun hHeld => ?_)
        · (try dsimp only)
          (first | assumption | go_keep)
        clear hK K
        try simp only [Act.put, List.setIfInBounds_toArray, List.set_cons_zero, List.set_cons_succ]
        refine wpAnyH_ready (rs := [12]) (by kernel_rfl) (by simp) ?_
        refine AllReadyH.cons rfl (fun K hK => ?_) AllReadyH.nil
        go_simp
        try rw [hs3]
        refine (I0.out _ HSa.out).mono ?_
        rintro e w5 ⟨rfl, g5, m5⟩
        have hk5 := (HW5.out w5 g5).1
        have HG5 := hid (HW5.out w5 g5).2
        clear g5 m5
        refine hK.out _ _ ?_ (fun hHeld => ?_)
        · (try dsimp only)
          (first | assumption | go_keep)
        clear hK K
        try simp only [Act.put, List.setIfInBounds_toArray, List.set_cons_zero, List.set_cons_succ]
        refine takeD (i := 13) (v := ?_) (some 79) rfl rfl (by kernel_rfl) (by kernel_rfl) (by kernel_rfl) (fun _ _ _ h => h) (Or.inl ⟨by rfl, ?_⟩) (by assumption) ?_
        rotate_left
        · intro w hSw
          (try dsimp only at hSw)
          first
            | (go_simp; done)
            | (go_simp; with_reducible rfl)
        try simp only [Act.put, List.setIfInBounds_toArray, List.set_cons_zero, List.set_cons_succ]
        refine takeD (i := 14) (v := undef) (some 80) rfl rfl (by kernel_rfl) (by kernel_rfl) (by kernel_rfl) (fun _ _ _ h => h) (Or.inr ⟨by rfl, rfl⟩) (by assumption) ?_
        try simp only [Act.put, List.setIfInBounds_toArray, List.set_cons_zero, List.set_cons_succ]
        refine takeD (i := 15) (v := undef) (some 81) rfl rfl (by kernel_rfl) (by kernel_rfl) (by kernel_rfl) (fun _ _ _ h => h) (Or.inr ⟨by rfl, rfl⟩) (by assumption) ?_
        try simp only [Act.put, List.setIfInBounds_toArray, List.set_cons_zero, List.set_cons_succ]
        refine takeD (i := 16) (v := undef) (some 82) rfl rfl (by kernel_rfl) (by kernel_rfl) (by kernel_rfl) (fun _ _ _ h => h) (Or.inr ⟨by rfl, rfl⟩) (by assumption) ?_
        try simp only [Act.put, List.setIfInBounds_toArray, List.set_cons_zero, List.set_cons_succ]
        refine takeD (i := 17) (v := undef) (some 83) rfl rfl (by kernel_rfl) (by kernel_rfl) (by kernel_rfl) (fun _ _ _ h => h) (Or.inr ⟨by rfl, rfl⟩) (by assumption) ?_
        try simp only [Act.put, List.setIfInBounds_toArray, List.set_cons_zero, List.set_cons_succ]
        refine takeD (i := 18) (v := undef) (some 84) rfl rfl (by kernel_rfl) (by kernel_rfl) (by kernel_rfl) (fun _ _ _ h => h) (Or.inr ⟨by rfl, rfl⟩) (by assumption) ?_
        try simp only [Act.put, List.setIfInBounds_toArray, List.set_cons_zero, List.set_cons_succ]
        refine takeD (i := 19) (v := undef) (some 85) rfl rfl (by kernel_rfl) (by kernel_rfl) (by kernel_rfl) (fun _ _ _ h => h) (Or.inr ⟨by rfl, rfl⟩) (by assumption) ?_
        try simp only [Act.put, List.setIfInBounds_toArray, List.set_cons_zero, List.set_cons_succ]
        refine takeD (i := 20) (v := undef) (some 86) rfl rfl (by kernel_rfl) (by kernel_rfl) (by kernel_rfl) (fun _ _ _ h => h) (Or.inr ⟨by rfl, rfl⟩) (by assumption) ?_
        try simp only [Act.put, List.setIfInBounds_toArray, List.set_cons_zero, List.set_cons_succ]
        refine takeD (i := 21) (v := undef) (some 87) rfl rfl (by kernel_rfl) (by kernel_rfl) (by kernel_rfl) (fun _ _ _ h => h) (Or.inr ⟨by rfl, rfl⟩) (by assumption) ?_
        try simp only [Act.put, List.setIfInBounds_toArray, List.set_cons_zero, List.set_cons_succ]
        refine takeD (i := 22) (v := undef) (some 88) rfl rfl (by kernel_rfl) (by kernel_rfl) (by kernel_rfl) (fun _ _ _ h => h) (Or.inr ⟨by rfl, rfl⟩) (by assumption) ?_
        try simp only [Act.put, List.setIfInBounds_toArray, List.set_cons_zero, List.set_cons_succ]
        refine takeD (i := 23) (v := undef) (some 89) rfl rfl (by kernel_rfl) (by kernel_rfl) (by kernel_rfl) (fun _ _ _ h => h) (Or.inr ⟨by rfl, rfl⟩) (by assumption) ?_
        try simp only [Act.put, List.setIfInBounds_toArray, List.set_cons_zero, List.set_cons_succ]
        refine takeD (i := 24) (v := undef) (some 90) rfl rfl (by kernel_rfl) (by kernel_rfl) (by kernel_rfl) (fun _ _ _ h => h) (Or.inr ⟨by rfl, rfl⟩) (by assumption) ?_
        try simp only [Act.put, List.setIfInBounds_toArray, List.set_cons_zero, List.set_cons_succ]
        refine takeD (i := 25) (v := undef) (some 91) rfl rfl (by kernel_rfl) (by kernel_rfl) (by kernel_rfl) (fun _ _ _ h => h) (Or.inr ⟨by rfl, rfl⟩) (by assumption) ?_
        try simp only [Act.put, List.setIfInBounds_toArray, List.set_cons_zero, List.set_cons_succ]
        refine takeD (i := 26) (v := undef) (some 92) rfl rfl (by kernel_rfl) (by kernel_rfl) (by kernel_rfl) (fun _ _ _ h => h) (Or.inr ⟨by rfl, rfl⟩) (by assumption) ?_
        try simp only [Act.put, List.setIfInBounds_toArray, List.set_cons_zero, List.set_cons_succ]
        refine takeD (i := 27) (v := ?_) (some 93) rfl rfl (by kernel_rfl) (by kernel_rfl) (by kernel_rfl) (fun _ _ _ h => h) (Or.inl ⟨by rfl, ?_⟩) (by assumption) ?_
        rotate_left
        · intro w hSw
          (try dsimp only at hSw)
          first
            | (go_simp; done)
            | (go_simp; with_reducible rfl)
        try simp only [Act.put, List.setIfInBounds_toArray, List.set_cons_zero, List.set_cons_succ]
        refine takeD (i := 28) (v := ?_) (some 12) rfl rfl (by kernel_rfl) (by kernel_rfl) (by kernel_rfl) (fun _ _ _ h => h) (Or.inl ⟨by rfl, ?_⟩) (by assumption) ?_
        rotate_left
        · intro w hSw
          (try dsimp only at hSw)
          first
            | (go_simp; done)
            | (go_simp; with_reducible rfl)
        try simp only [Act.put, List.setIfInBounds_toArray, List.set_cons_zero, List.set_cons_succ]
        refine wpAnyH_done (by kernel_rfl) ?_ _
        go_wp2
        go_ret
        exact ⟨rfl, HG5.out, fun t h => by cases h⟩
      · have e1 : decide (1 < (((d + 1 : Nat) : Int))) = true := decide_eq_true (by omega)
        have e2 : decide (1 < (d : Int) + 1) = true := decide_eq_true (by omega)
        have e3 : decide (0 < (d : Int)) = true := decide_eq_true (by omega)
        have c4 : ¬ min ze on ≤ (i : Int) := fun h => c3 ⟨by omega, h⟩
        clear c3 hd1
        go_enter Try.func63, Try.ntmps63
        go_wp2_with fail
        go_quiet (fail)
        go_wp2
        have HSa := hid (HST2.out.drewN nq).drew
        have hnbM : W1.heap.size ≠ M := by have := HST1.out.met.lt; omega
        have q0 : ((W1.alloc (.cells #[.int .i64 (x : Int), .int .i64 ze, .int .i64 on] 41)).drewN nq).cell? ⟨W1.heap.size, 0, none⟩ = some (.int .i64 (x : Int)) := by simp
        have q1 : ((W1.alloc (.cells #[.int .i64 (x : Int), .int .i64 ze, .int .i64 on] 41)).drewN nq).cell? ⟨W1.heap.size, 1, none⟩ = some (.int .i64 ze) := by simp
        have q2 : ((W1.alloc (.cells #[.int .i64 (x : Int), .int .i64 ze, .int .i64 on] 41)).drewN nq).cell? ⟨W1.heap.size, 2, none⟩ = some (.int .i64 on) := by simp
        have hs3 : IntKind.i64.wrap (d : Int) = (d : Int) := by rw [IntKind.wrap_i64]; omega
        have hs4 : IntKind.i64.wrap ((d : Int) + 1 - 1) = (d : Int) := by rw [IntKind.wrap_i64]; omega
        have hs5 : IntKind.i64.wrap (((d + 1 : Nat) : Int) - 1) = (d : Int) := by rw [IntKind.wrap_i64]; omega
        have HW5 := hid (show ∀ w5, ((W1.alloc (.cells #[.int .i64 (x : Int), .int .i64 ze, .int .i64 on] 41)).drewN nq).drew.grownBy w5 (some M) → (w5.cell? ⟨W1.heap.size, 0, none⟩ = some (.int .i64 (x : Int)) ∧ w5.cell? ⟨W1.heap.size, 1, none⟩ = some (.int .i64 ze) ∧ w5.cell? ⟨W1.heap.size, 2, none⟩ = some (.int .i64 on)) ∧ W.grownBy w5 (some M) from fun w5 g5 => by
          have hlt : W1.heap.size < ((W1.alloc (.cells #[.int .i64 (x : Int), .int .i64 ze, .int .i64 on] 41)).drewN nq).drew.heap.size := by simp
          have hb := g5.block W1.heap.size hlt (by simpa using hnbM)
          refine ⟨⟨?_, ?_, ?_⟩, grow_trans (G9.out nq) ⟨g5.os, g5.tape, g5.output, g5.size, g5.block⟩⟩
          · exact (World.cell?_of_block (a := ⟨W1.heap.size, 0, none⟩) hb).trans q0
          · exact (World.cell?_of_block (a := ⟨W1.heap.size, 1, none⟩) hb).trans q1
          · exact (World.cell?_of_block (a := ⟨W1.heap.size, 2, none⟩) hb).trans q2)
        refine wp_region_held_drew (S := (fun w' => w'.cell? ⟨W1.heap.size, 0, none⟩ = some (.int .i64 (x : Int)) ∧ w'.cell? ⟨W1.heap.size, 1, none⟩ = some (.int .i64 ze) ∧ w'.cell? ⟨W1.heap.size, 2, none⟩ = some (.int .i64 on))) (by kernel_rfl) (by (try dsimp only); (first | assumption | go_keep)) (fun hHeld => ?_)
        refine takeD (i := 0) (v := ?_) (some 66) rfl rfl (by kernel_rfl) (by kernel_rfl) (by kernel_rfl) (fun _ _ _ h => h) (Or.inl ⟨by rfl, ?_⟩) (by assumption) ?_
        rotate_left
        · intro w hSw
          (try dsimp only at hSw)
          first
            | (go_simp; done)
            | (go_simp; with_reducible rfl)
        try simp only [Act.put, List.setIfInBounds_toArray, List.set_cons_zero, List.set_cons_succ]
        refine takeD (i := 1) (v := ?_) (some 67) rfl rfl (by kernel_rfl) (by kernel_rfl) (by kernel_rfl) (fun _ _ _ h => h) (Or.inl ⟨by rfl, ?_⟩) (by assumption) ?_
        rotate_left
        · intro w hSw
          (try dsimp only at hSw)
          first
            | (go_simp; done)
            | (go_simp; with_reducible rfl)
        try simp only [Act.put, List.setIfInBounds_toArray, List.set_cons_zero, List.set_cons_succ]
        refine takeD (i := 2) (v := ?_) (some 68) rfl rfl (by kernel_rfl) (by kernel_rfl) (by kernel_rfl) (fun _ _ _ h => h) (Or.inl ⟨by rfl, ?_⟩) (by assumption) ?_
        rotate_left
        · intro w hSw
          (try dsimp only at hSw)
          first
            | (go_simp; done)
            | (go_simp; with_reducible rfl)
        try simp only [Act.put, List.setIfInBounds_toArray, List.set_cons_zero, List.set_cons_succ]
        refine takeD (i := 3) (v := ?_) (some 69) rfl rfl (by kernel_rfl) (by kernel_rfl) (by kernel_rfl) (fun _ _ _ h => h) (Or.inl ⟨by rfl, ?_⟩) (by assumption) ?_
        rotate_left
        · intro w hSw
          (try dsimp only at hSw)
          first
            | (go_simp; done)
            | (go_simp; with_reducible rfl)
        try simp only [Act.put, List.setIfInBounds_toArray, List.set_cons_zero, List.set_cons_succ]
        refine takeD (i := 4) (v := ?_) (some 70) rfl rfl (by kernel_rfl) (by kernel_rfl) (by kernel_rfl) (fun _ _ _ h => h) (Or.inl ⟨by rfl, ?_⟩) (by assumption) ?_
        rotate_left
        · intro w hSw
          (try dsimp only at hSw)
          first
            | (go_simp; done)
            | (go_simp; with_reducible rfl)
        try simp only [Act.put, List.setIfInBounds_toArray, List.set_cons_zero, List.set_cons_succ]
        refine takeD (i := 5) (v := ?_) (some 71) rfl rfl (by kernel_rfl) (by kernel_rfl) (by kernel_rfl) (fun _ _ _ h => h) (Or.inl ⟨by rfl, ?_⟩) (by assumption) ?_
        rotate_left
        · intro w hSw
          (try dsimp only at hSw)
          first
            | (go_simp; done)
            | (go_simp; with_reducible rfl)
        try simp only [Act.put, List.setIfInBounds_toArray, List.set_cons_zero, List.set_cons_succ]
        refine takeD (i := 6) (v := ?_) (some 72) rfl rfl (by kernel_rfl) (by kernel_rfl) (by kernel_rfl) (fun _ _ _ h => h) (Or.inl ⟨by rfl, ?_⟩) (by assumption) ?_
        rotate_left
        · intro w hSw
          (try dsimp only at hSw)
          first
            | (go_simp; done)
            | (go_simp; with_reducible rfl)
        try simp only [Act.put, List.setIfInBounds_toArray, List.set_cons_zero, List.set_cons_succ]
        refine takeD (i := 7) (v := ?_) (some 73) rfl rfl (by kernel_rfl) (by kernel_rfl) (by kernel_rfl) (fun _ _ _ h => h) (Or.inl ⟨by rfl, ?_⟩) (by assumption) ?_
        rotate_left
        · intro w hSw
          (try dsimp only at hSw)
          first
            | (go_simp; done)
            | (go_simp; with_reducible rfl)
        try simp only [Act.put, List.setIfInBounds_toArray, List.set_cons_zero, List.set_cons_succ]
        refine takeD (i := 9) (v := ?_) (some 75) rfl rfl (by kernel_rfl) (by kernel_rfl) (by kernel_rfl) (fun _ _ _ h => h) (Or.inl ⟨by rfl, ?_⟩) (by assumption) ?_
        rotate_left
        · intro w hSw
          (try dsimp only at hSw)
          first
            | (go_simp; done)
            | (go_simp; with_reducible rfl)
        try simp only [Act.put, List.setIfInBounds_toArray, List.set_cons_zero, List.set_cons_succ]
        refine takeD (i := 10) (v := ?_) (some 76) rfl rfl (by kernel_rfl) (by kernel_rfl) (by kernel_rfl) (fun _ _ _ h => h) (Or.inl ⟨by rfl, ?_⟩) (by assumption) ?_
        rotate_left
        · intro w hSw
          (try dsimp only at hSw)
          first
            | (go_simp; done)
            | (go_simp; with_reducible rfl)
        try simp only [Act.put, List.setIfInBounds_toArray, List.set_cons_zero, List.set_cons_succ]
        refine takeD (i := 11) (v := ?_) (some 77) rfl rfl (by kernel_rfl) (by kernel_rfl) (by kernel_rfl) (fun _ _ _ h => h) (Or.inl ⟨by rfl, ?_⟩) (by assumption) ?_
        rotate_left
        · intro w hSw
          (try dsimp only at hSw)
          first
            | (go_simp; done)
            | (go_simp; with_reducible rfl)
        try simp only [Act.put, List.setIfInBounds_toArray, List.set_cons_zero, List.set_cons_succ]
        refine wpAnyH_ready (rs := [8]) (by kernel_rfl) (by simp) ?_
        refine AllReadyH.cons rfl (fun K hK => ?_) AllReadyH.nil
        go_simp
        refine (S0.out _ HSa.out.sch).mono ?_; rintro e w3 ⟨rfl, rfl⟩
        refine hK.out _ _ ?_ (fun hHeld => ?_)
        · (try dsimp only)
          (first | assumption | go_keep)
        clear hK K
        try simp only [Act.put, List.setIfInBounds_toArray, List.set_cons_zero, List.set_cons_succ]
        refine wpAnyH_ready (rs := [12]) (by kernel_rfl) (by simp) ?_
        refine AllReadyH.cons rfl (fun K hK => ?_) AllReadyH.nil
        go_simp
        try rw [hs3]
        refine (I0.out _ HSa.out).mono ?_
        rintro e w5 ⟨rfl, g5, m5⟩
        have hk5 := (HW5.out w5 g5).1
        have HG5 := hid (HW5.out w5 g5).2
        clear g5 m5
        refine hK.out _ _ ?_ (fun hHeld => ?_)
        · (try dsimp only)
          (first | assumption | go_keep)
        clear hK K
        try simp only [Act.put, List.setIfInBounds_toArray, List.set_cons_zero, List.set_cons_succ]
        refine takeD (i := 13) (v := ?_) (some 79) rfl rfl (by kernel_rfl) (by kernel_rfl) (by kernel_rfl) (fun _ _ _ h => h) (Or.inl ⟨by rfl, ?_⟩) (by assumption) ?_
        rotate_left
        · intro w hSw
          (try dsimp only at hSw)
          first
            | (go_simp; done)
            | (go_simp; with_reducible rfl)
        try simp only [Act.put, List.setIfInBounds_toArray, List.set_cons_zero, List.set_cons_succ]
        refine takeD (i := 14) (v := undef) (some 80) rfl rfl (by kernel_rfl) (by kernel_rfl) (by kernel_rfl) (fun _ _ _ h => h) (Or.inr ⟨by rfl, rfl⟩) (by assumption) ?_
        try simp only [Act.put, List.setIfInBounds_toArray, List.set_cons_zero, List.set_cons_succ]
        refine takeD (i := 15) (v := undef) (some 81) rfl rfl (by kernel_rfl) (by kernel_rfl) (by kernel_rfl) (fun _ _ _ h => h) (Or.inr ⟨by rfl, rfl⟩) (by assumption) ?_
        try simp only [Act.put, List.setIfInBounds_toArray, List.set_cons_zero, List.set_cons_succ]
        refine takeD (i := 16) (v := undef) (some 82) rfl rfl (by kernel_rfl) (by kernel_rfl) (by kernel_rfl) (fun _ _ _ h => h) (Or.inr ⟨by rfl, rfl⟩) (by assumption) ?_
        try simp only [Act.put, List.setIfInBounds_toArray, List.set_cons_zero, List.set_cons_succ]
        refine takeD (i := 17) (v := undef) (some 83) rfl rfl (by kernel_rfl) (by kernel_rfl) (by kernel_rfl) (fun _ _ _ h => h) (Or.inr ⟨by rfl, rfl⟩) (by assumption) ?_
        try simp only [Act.put, List.setIfInBounds_toArray, List.set_cons_zero, List.set_cons_succ]
        refine takeD (i := 18) (v := undef) (some 84) rfl rfl (by kernel_rfl) (by kernel_rfl) (by kernel_rfl) (fun _ _ _ h => h) (Or.inr ⟨by rfl, rfl⟩) (by assumption) ?_
        try simp only [Act.put, List.setIfInBounds_toArray, List.set_cons_zero, List.set_cons_succ]
        refine takeD (i := 19) (v := undef) (some 85) rfl rfl (by kernel_rfl) (by kernel_rfl) (by kernel_rfl) (fun _ _ _ h => h) (Or.inr ⟨by rfl, rfl⟩) (by assumption) ?_
        try simp only [Act.put, List.setIfInBounds_toArray, List.set_cons_zero, List.set_cons_succ]
        refine takeD (i := 20) (v := undef) (some 86) rfl rfl (by kernel_rfl) (by kernel_rfl) (by kernel_rfl) (fun _ _ _ h => h) (Or.inr ⟨by rfl, rfl⟩) (by assumption) ?_
        try simp only [Act.put, List.setIfInBounds_toArray, List.set_cons_zero, List.set_cons_succ]
        refine takeD (i := 21) (v := undef) (some 87) rfl rfl (by kernel_rfl) (by kernel_rfl) (by kernel_rfl) (fun _ _ _ h => h) (Or.inr ⟨by rfl, rfl⟩) (by assumption) ?_
        try simp only [Act.put, List.setIfInBounds_toArray, List.set_cons_zero, List.set_cons_succ]
        refine takeD (i := 22) (v := undef) (some 88) rfl rfl (by kernel_rfl) (by kernel_rfl) (by kernel_rfl) (fun _ _ _ h => h) (Or.inr ⟨by rfl, rfl⟩) (by assumption) ?_
        try simp only [Act.put, List.setIfInBounds_toArray, List.set_cons_zero, List.set_cons_succ]
        refine takeD (i := 23) (v := undef) (some 89) rfl rfl (by kernel_rfl) (by kernel_rfl) (by kernel_rfl) (fun _ _ _ h => h) (Or.inr ⟨by rfl, rfl⟩) (by assumption) ?_
        try simp only [Act.put, List.setIfInBounds_toArray, List.set_cons_zero, List.set_cons_succ]
        refine takeD (i := 24) (v := undef) (some 90) rfl rfl (by kernel_rfl) (by kernel_rfl) (by kernel_rfl) (fun _ _ _ h => h) (Or.inr ⟨by rfl, rfl⟩) (by assumption) ?_
        try simp only [Act.put, List.setIfInBounds_toArray, List.set_cons_zero, List.set_cons_succ]
        refine takeD (i := 25) (v := undef) (some 91) rfl rfl (by kernel_rfl) (by kernel_rfl) (by kernel_rfl) (fun _ _ _ h => h) (Or.inr ⟨by rfl, rfl⟩) (by assumption) ?_
        try simp only [Act.put, List.setIfInBounds_toArray, List.set_cons_zero, List.set_cons_succ]
        refine takeD (i := 26) (v := undef) (some 92) rfl rfl (by kernel_rfl) (by kernel_rfl) (by kernel_rfl) (fun _ _ _ h => h) (Or.inr ⟨by rfl, rfl⟩) (by assumption) ?_
        try simp only [Act.put, List.setIfInBounds_toArray, List.set_cons_zero, List.set_cons_succ]
        refine takeD (i := 27) (v := ?_) (some 93) rfl rfl (by kernel_rfl) (by kernel_rfl) (by kernel_rfl) (fun _ _ _ h => h) (Or.inl ⟨by rfl, ?_⟩) (by assumption) ?_
        rotate_left
        · intro w hSw
          (try dsimp only at hSw)
          first
            | (go_simp; done)
            | (go_simp; with_reducible rfl)
        try simp only [Act.put, List.setIfInBounds_toArray, List.set_cons_zero, List.set_cons_succ]
        refine takeD (i := 28) (v := ?_) (some 12) rfl rfl (by kernel_rfl) (by kernel_rfl) (by kernel_rfl) (fun _ _ _ h => h) (Or.inl ⟨by rfl, ?_⟩) (by assumption) ?_
        rotate_left
        · intro w hSw
          (try dsimp only at hSw)
          first
            | (go_simp; done)
            | (go_simp; with_reducible rfl)
        try simp only [Act.put, List.setIfInBounds_toArray, List.set_cons_zero, List.set_cons_succ]
        refine wpAnyH_done (by kernel_rfl) ?_ _
        go_wp2
        go_ret
        exact ⟨rfl, HG5.out, fun t h => by cases h⟩
    | some m1 =>
      rw [hr] at I0
      simp only [Option.isSome_some] at I0
      rw [Option.bind_some]
      have I1 := hid fun W' hW => IH f1 W' on m1 hW
      clear hr
      by_cases hd1 : d = 0
      · have e1 : decide (1 < (((d + 1 : Nat) : Int))) = false := decide_eq_false (by omega)
        have e2 : decide (1 < (d : Int) + 1) = false := decide_eq_false (by omega)
        have e3 : decide (0 < (d : Int)) = false := decide_eq_false (by omega)
        clear c3 hd1
        go_enter Try.func63, Try.ntmps63
        go_wp2_with fail
        go_quiet (fail)
        go_wp2
        have HSa := hid (HST2.out.drewN nq).drew
        have hnbM : W1.heap.size ≠ M := by have := HST1.out.met.lt; omega
        have q0 : ((W1.alloc (.cells #[.int .i64 (x : Int), .int .i64 ze, .int .i64 on] 41)).drewN nq).cell? ⟨W1.heap.size, 0, none⟩ = some (.int .i64 (x : Int)) := by simp
        have q1 : ((W1.alloc (.cells #[.int .i64 (x : Int), .int .i64 ze, .int .i64 on] 41)).drewN nq).cell? ⟨W1.heap.size, 1, none⟩ = some (.int .i64 ze) := by simp
        have q2 : ((W1.alloc (.cells #[.int .i64 (x : Int), .int .i64 ze, .int .i64 on] 41)).drewN nq).cell? ⟨W1.heap.size, 2, none⟩ = some (.int .i64 on) := by simp
        have hs3 : IntKind.i64.wrap (d : Int) = (d : Int) := by rw [IntKind.wrap_i64]; omega
        have hs4 : IntKind.i64.wrap ((d : Int) + 1 - 1) = (d : Int) := by rw [IntKind.wrap_i64]; omega
        have hs5 : IntKind.i64.wrap (((d + 1 : Nat) : Int) - 1) = (d : Int) := by rw [IntKind.wrap_i64]; omega
        have HW5 := hid (show ∀ w5, ((W1.alloc (.cells #[.int .i64 (x : Int), .int .i64 ze, .int .i64 on] 41)).drewN nq).drew.grownBy w5 (some M) → (w5.cell? ⟨W1.heap.size, 0, none⟩ = some (.int .i64 (x : Int)) ∧ w5.cell? ⟨W1.heap.size, 1, none⟩ = some (.int .i64 ze) ∧ w5.cell? ⟨W1.heap.size, 2, none⟩ = some (.int .i64 on)) ∧ W.grownBy w5 (some M) from fun w5 g5 => by
          have hlt : W1.heap.size < ((W1.alloc (.cells #[.int .i64 (x : Int), .int .i64 ze, .int .i64 on] 41)).drewN nq).drew.heap.size := by simp
          have hb := g5.block W1.heap.size hlt (by simpa using hnbM)
          refine ⟨⟨?_, ?_, ?_⟩, grow_trans (G9.out nq) ⟨g5.os, g5.tape, g5.output, g5.size, g5.block⟩⟩
          · exact (World.cell?_of_block (a := ⟨W1.heap.size, 0, none⟩) hb).trans q0
          · exact (World.cell?_of_block (a := ⟨W1.heap.size, 1, none⟩) hb).trans q1
          · exact (World.cell?_of_block (a := ⟨W1.heap.size, 2, none⟩) hb).trans q2)
        go_region_held3 (fun w' => w'.cell? ⟨W1.heap.size, 0, none⟩ = some (.int .i64 (x : Int)) ∧ w'.cell? ⟨W1.heap.size, 1, none⟩ = some (.int .i64 ze) ∧ w'.cell? ⟨W1.heap.size, 2, none⟩ = some (.int .i64 on)) (first | assumption | go_keep)
          ((first
            | (have _h5 := HS5.out; go_at_call 75; refine (S1.out _ HS5.out.sch).mono ?_; rintro e w3 ⟨rfl, rfl⟩)
            | (go_at_call 75; refine (S0.out _ HSa.out.sch).mono ?_; rintro e w3 ⟨rfl, rfl⟩)
            | (have _h5 := HS5.out
               go_at_call 63
               try rw [hs3]
               refine (I1.out _ HS5.out).mono ?_
               rintro e w6 ⟨rfl, g6, m6⟩
               have hk6 : w6.cell? ⟨W1.heap.size, 0, none⟩ = some (.int .i64 (x : Int)) ∧ w6.cell? ⟨W1.heap.size, 1, none⟩ = some (.int .i64 ze) ∧ w6.cell? ⟨W1.heap.size, 2, none⟩ = some (.int .i64 on) := by
                 have hlt : W1.heap.size < w5.heap.size := World.block_lt_of_cell? w5 ⟨W1.heap.size, 0, none⟩ hk5.1
                 have hb := g6.block W1.heap.size hlt (by simpa using hnbM)
                 exact ⟨(World.cell?_of_block (a := ⟨W1.heap.size, 0, none⟩) hb).trans hk5.1, (World.cell?_of_block (a := ⟨W1.heap.size, 1, none⟩) hb).trans hk5.2.1, (World.cell?_of_block (a := ⟨W1.heap.size, 2, none⟩) hb).trans hk5.2.2⟩
               have HG6 := hid (grow_trans HG5.out g6)
               have HM6 := hid m6
               clear g6 m6)
            | (go_at_call 63
               try rw [hs3]
               refine (I0.out _ HSa.out).mono ?_
               rintro e w5 ⟨rfl, g5, m5⟩
               have hk5 := (HW5.out w5 g5).1
               have HG5 := hid (HW5.out w5 g5).2
               have HS5 := hid (HSa.out.grown g5 (m5 _ rfl))
               clear g5 m5)))
        go_wp2
        go_ret
        exact ⟨rfl, HG6.out, HM6.out⟩
      · have e1 : decide (1 < (((d + 1 : Nat) : Int))) = true := decide_eq_true (by omega)
        have e2 : decide (1 < (d : Int) + 1) = true := decide_eq_true (by omega)
        have e3 : decide (0 < (d : Int)) = true := decide_eq_true (by omega)
        have c4 : ¬ min ze on ≤ (i : Int) := fun h => c3 ⟨by omega, h⟩
        clear c3 hd1
        go_enter Try.func63, Try.ntmps63
        go_wp2_with fail
        go_quiet (fail)
        go_wp2
        have HSa := hid (HST2.out.drewN nq).drew
        have hnbM : W1.heap.size ≠ M := by have := HST1.out.met.lt; omega
        have q0 : ((W1.alloc (.cells #[.int .i64 (x : Int), .int .i64 ze, .int .i64 on] 41)).drewN nq).cell? ⟨W1.heap.size, 0, none⟩ = some (.int .i64 (x : Int)) := by simp
        have q1 : ((W1.alloc (.cells #[.int .i64 (x : Int), .int .i64 ze, .int .i64 on] 41)).drewN nq).cell? ⟨W1.heap.size, 1, none⟩ = some (.int .i64 ze) := by simp
        have q2 : ((W1.alloc (.cells #[.int .i64 (x : Int), .int .i64 ze, .int .i64 on] 41)).drewN nq).cell? ⟨W1.heap.size, 2, none⟩ = some (.int .i64 on) := by simp
        have hs3 : IntKind.i64.wrap (d : Int) = (d : Int) := by rw [IntKind.wrap_i64]; omega
        have hs4 : IntKind.i64.wrap ((d : Int) + 1 - 1) = (d : Int) := by rw [IntKind.wrap_i64]; omega
        have hs5 : IntKind.i64.wrap (((d + 1 : Nat) : Int) - 1) = (d : Int) := by rw [IntKind.wrap_i64]; omega
        have HW5 := hid (show ∀ w5, ((W1.alloc (.cells #[.int .i64 (x : Int), .int .i64 ze, .int .i64 on] 41)).drewN nq).drew.grownBy w5 (some M) → (w5.cell? ⟨W1.heap.size, 0, none⟩ = some (.int .i64 (x : Int)) ∧ w5.cell? ⟨W1.heap.size, 1, none⟩ = some (.int .i64 ze) ∧ w5.cell? ⟨W1.heap.size, 2, none⟩ = some (.int .i64 on)) ∧ W.grownBy w5 (some M) from fun w5 g5 => by
          have hlt : W1.heap.size < ((W1.alloc (.cells #[.int .i64 (x : Int), .int .i64 ze, .int .i64 on] 41)).drewN nq).drew.heap.size := by simp
          have hb := g5.block W1.heap.size hlt (by simpa using hnbM)
          refine ⟨⟨?_, ?_, ?_⟩, grow_trans (G9.out nq) ⟨g5.os, g5.tape, g5.output, g5.size, g5.block⟩⟩
          · exact (World.cell?_of_block (a := ⟨W1.heap.size, 0, none⟩) hb).trans q0
          · exact (World.cell?_of_block (a := ⟨W1.heap.size, 1, none⟩) hb).trans q1
          · exact (World.cell?_of_block (a := ⟨W1.heap.size, 2, none⟩) hb).trans q2)
        go_region_held3 (fun w' => w'.cell? ⟨W1.heap.size, 0, none⟩ = some (.int .i64 (x : Int)) ∧ w'.cell? ⟨W1.heap.size, 1, none⟩ = some (.int .i64 ze) ∧ w'.cell? ⟨W1.heap.size, 2, none⟩ = some (.int .i64 on)) (first | assumption | go_keep)
          ((first
            | (have _h5 := HS5.out; go_at_call 75; refine (S1.out _ HS5.out.sch).mono ?_; rintro e w3 ⟨rfl, rfl⟩)
            | (go_at_call 75; refine (S0.out _ HSa.out.sch).mono ?_; rintro e w3 ⟨rfl, rfl⟩)
            | (have _h5 := HS5.out
               go_at_call 63
               try rw [hs3]
               refine (I1.out _ HS5.out).mono ?_
               rintro e w6 ⟨rfl, g6, m6⟩
               have hk6 : w6.cell? ⟨W1.heap.size, 0, none⟩ = some (.int .i64 (x : Int)) ∧ w6.cell? ⟨W1.heap.size, 1, none⟩ = some (.int .i64 ze) ∧ w6.cell? ⟨W1.heap.size, 2, none⟩ = some (.int .i64 on) := by
                 have hlt : W1.heap.size < w5.heap.size := World.block_lt_of_cell? w5 ⟨W1.heap.size, 0, none⟩ hk5.1
                 have hb := g6.block W1.heap.size hlt (by simpa using hnbM)
                 exact ⟨(World.cell?_of_block (a := ⟨W1.heap.size, 0, none⟩) hb).trans hk5.1, (World.cell?_of_block (a := ⟨W1.heap.size, 1, none⟩) hb).trans hk5.2.1, (World.cell?_of_block (a := ⟨W1.heap.size, 2, none⟩) hb).trans hk5.2.2⟩
               have HG6 := hid (grow_trans HG5.out g6)
               have HM6 := hid m6
               clear g6 m6)
            | (go_at_call 63
               try rw [hs3]
               refine (I0.out _ HSa.out).mono ?_
               rintro e w5 ⟨rfl, g5, m5⟩
               have hk5 := (HW5.out w5 g5).1
               have HG5 := hid (HW5.out w5 g5).2
               have HS5 := hid (HSa.out.grown g5 (m5 _ rfl))
               clear g5 m5)))
        go_wp2
        go_ret
        exact ⟨rfl, HG6.out, HM6.out⟩

theorem treeS (s p : Nat) (A : Option Addr) (n c : Nat) (xs : List Int) (B M : Nat) (T : Option Addr) (m k : Nat) (ts : List Nd) (hp : p ≤ 60) (hn : n ≤ 16) : ∀ d, d ≤ 60 → TreeTo s p A n c xs B M T m k ts d := by
  intro d
  induction d with
  | zero => intro _; exact treeZero s p A n c xs B M T m k ts
  | succ d ih => intro hd; exact treeStep s p A n c xs B M T m k ts d hp hn (by omega) (ih (by omega))
end Go.Proofs.Ytpebglilphgamaa
