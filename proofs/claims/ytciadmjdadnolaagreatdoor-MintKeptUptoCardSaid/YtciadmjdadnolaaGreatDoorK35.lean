/- Texts of this proof, one behind the other; each says its condition at its head. -/
import Derived.Test.YtciadmjdadnolaaGreatDoorK32
import Derived.Test.YtciadmjdadnolaaGreatDoorK33
import Derived.Test.YtciadmjdadnolaaGreatDoorK34
/- Plain law of MintKept, in the words of doM and openM: each act keeps what is kept. No program in sight. -/
namespace Go.Proofs.YtciadmjdadnolaaGreatDoor
open Go.RowKit Go.Maps
/-- What is kept does not ask which copies are in reach. -/
theorem KeptI.strip {C C' : List Cp} {M : Int} {J : List ByteArray} {s : Bk} {sure : List ByteArray} (h : KeptI stepL bk0 C M J s sure) (e : C'.map (fun c => (c.mark, c.ent)) = C.map fun c => (c.mark, c.ent)) : KeptI stepL bk0 C' M J s sure := by
 have hl : C'.length = C.length := by have := congrArg List.length e; simpa using this
 have hm : ∀ c ∈ C', ∃ c0 ∈ C, c0.mark = c.mark ∧ c0.ent = c.ent := fun c hc => by
  have : (c.mark, c.ent) ∈ C'.map (fun c => (c.mark, c.ent)) := List.mem_map.2 ⟨c, hc, rfl⟩
  rw [e] at this
  obtain ⟨c0, h0, h1⟩ := List.mem_map.1 this
  simp only [Prod.mk.injEq] at h1
  exact ⟨c0, h0, h1.1, h1.2⟩
 have hcount : ∀ p : Int × Ents → Bool, C'.countP (fun c => p (c.mark, c.ent)) = C.countP (fun c => p (c.mark, c.ent)) := fun p => by
  have h1 : ∀ D : List Cp, D.countP (fun c => p (c.mark, c.ent)) = (D.map fun c => (c.mark, c.ent)).countP p := fun D => by rw [List.countP_map]; rfl
  rw [h1, h1, e]
 refine ⟨h.pos, fun c hc => ?_, fun c hc i x hx => ?_, ?_, fun i x hx => ?_, fun c hc i x hx => ?_, h.sure, h.runs, h.len⟩
 · obtain ⟨c0, h0, h1, _⟩ := hm c hc
   rw [← h1]; exact h.marks c0 h0
 · obtain ⟨c0, h0, h1, h2⟩ := hm c hc
   rw [← h1]; rw [← h2] at hx; exact h.ents c0 h0 i x hx
 · rw [hl]
   have := hcount fun q => q.1 == M
   rw [this]
   exact h.most
 · rw [hl]
   have := hcount fun q => decide (q.2 i = some (M, x))
   rw [this]
   exact h.kept i x hx
 · obtain ⟨c0, h0, h1, h2⟩ := hm c hc
   rw [← h2] at hx
   exact h.only c0 h0 i x hx
theorem KeptI.setAway {C : List Cp} {M : Int} {J : List ByteArray} {s : Bk} {sure : List ByteArray} (h : KeptI stepL bk0 C M J s sure) {i : Nat} {c : Cp} (hc : C[i]? = some c) (b : Bool) : KeptI stepL bk0 (C.set i { c with away := b }) M J s sure := by
 refine h.strip ?_
 rw [List.map_set]
 apply List.ext_getElem?
 intro j
 by_cases e : j = i
 · subst e
   have hl := (List.getElem?_eq_some_iff.1 hc).1
   rw [List.getElem?_set_self (by simpa using hl), List.getElem?_map, hc]
   rfl
 · rw [List.getElem?_set_ne (fun x => e x.symm)]
theorem KeptI.begin {n : Nat} (h0 : 0 < n) : KeptI stepL bk0 (List.replicate n ⟨0, false, fun _ => none⟩) 0 [] bk0 [] := by
 refine ⟨Int.le_refl _, fun c hc => ?_, fun c hc i x hx => ?_, ?_, fun i x hx => by simp at hx, fun c hc i x hx => ?_, List.prefix_rfl, rfl, by simp⟩
 · rw [List.eq_of_mem_replicate hc]; exact ⟨Int.le_refl _, Int.le_refl _⟩
 · rw [List.eq_of_mem_replicate hc] at hx; cases hx
 · rw [List.countP_replicate]; simp; omega
 · rw [List.eq_of_mem_replicate hc] at hx; cases hx
/-- The newest mint's line: it is done, or nothing is changed. -/
theorem KeptI.doNew {C : List Cp} {M : Int} {J : List ByteArray} {s : Bk} {sure : List ByteArray} (h : KeptI stepL bk0 C M J s sure) (x : ByteArray) :
 (∃ e, e ≠ 0 ∧ doM C M s J false x = (C, s, J, false, e)) ∨ (∃ C' s', doM C M s J false x = (C', s', J ++ [x], false, 0) ∧ KeptI stepL bk0 C' M (J ++ [x]) s' (J ++ [x])) := by
 unfold doM
 rw [if_neg (by simp)]
 by_cases hz : (doL s x).2 = 0
 · rw [if_neg (by simpa using hz)]
   by_cases hj : J.length = 200
   · rw [if_pos hj]
     exact .inl ⟨7, by omega, rfl⟩
   · rw [if_neg hj]
     by_cases hm : C.length < 2 * reachN C
     · rw [if_neg (by simpa using hm)]
       have hall : C.countP (fun c => !c.away && decide (c.mark ≤ M)) = reachN C := by
        unfold reachN
        apply List.countP_congr
        intro c hc
        have := (h.marks c hc).2
        simp [this]
       rw [hall, if_neg (by simpa using hm)]
       refine .inr ⟨_, _, rfl, ?_⟩
       refine h.newest (s' := (doL s x).1) ?_ hm (by have := h.len; omega)
       unfold stepL
       rw [if_pos hz]
     · rw [if_pos hm]
       exact .inl ⟨8, by omega, rfl⟩
 · rw [if_pos hz]
   exact .inl ⟨_, hz, rfl⟩
/-- An older mint's line: it is refused, and the mint is out or nothing is changed. -/
theorem KeptI.doOld {C : List Cp} {M k : Int} {J Jo : List ByteArray} {s so : Bk} {sure : List ByteArray} {out : Bool} (h : KeptI stepL bk0 C M J s sure) (hk : k < M) (x : ByteArray) :
 ∃ C' out' e, doM C k so Jo out x = (C', so, Jo, out', e) ∧ e ≠ 0 ∧ (out = true → e = 5 ∧ out' = true) ∧ KeptI stepL bk0 C' M J s sure := by
 unfold doM
 cases out with
 | true => exact ⟨C, true, 5, by rw [if_pos rfl], by omega, fun _ => ⟨rfl, rfl⟩, h⟩
 | false =>
  rw [if_neg (by simp)]
  by_cases hz : (doL so x).2 = 0
  · rw [if_neg (by simpa using hz)]
    by_cases hj : Jo.length = 200
    · rw [if_pos hj]
      exact ⟨C, false, 7, rfl, by omega, (fun e => by cases e), h⟩
    · rw [if_neg hj]
      by_cases hm : C.length < 2 * reachN C
      · rw [if_neg (by simpa using hm)]
        obtain ⟨h1, h2⟩ := h.older hk Jo.length x
        rw [if_pos h2]
        exact ⟨_, true, 5, rfl, by omega, (fun e => by cases e), h1⟩
      · rw [if_pos hm]
        exact ⟨C, false, 8, rfl, by omega, (fun e => by cases e), h⟩
  · rw [if_pos hz]
    exact ⟨C, false, _, rfl, hz, (fun e => by cases e), h⟩
/-- A mint is opened. -/
theorem KeptI.openNew {C : List Cp} {M : Int} {J : List ByteArray} {s : Bk} {sure : List ByteArray} (h : KeptI stepL bk0 C M J s sure) (hm : C.length < 2 * reachN C) : topM C = M ∧ KeptI stepL bk0 (openM C) (M + 1) (readM C).2 (readM C).1 sure := by
 obtain ⟨h1, h2⟩ := h.opened hm
 refine ⟨h1, ?_⟩
 unfold openM
 rw [h1]
 exact h2
/-- Lines that stand in the copies are short. -/
def ShortE (C : List Cp) : Prop := ∀ c ∈ C, ∀ i x, c.ent i = some x → x.2.size ≤ 60
theorem ShortE.best {C : List Cp} (h : ShortE C) : ∀ i y, bestE (entsOn C) i = some y → y.2.size ≤ 60 := fun i y hy =>
 (best_fold i (fun y => y.2.size ≤ 60) (entsOn C) none (fun y hy => by cases hy) (fun e he z hz => by
  unfold entsOn at he
  obtain ⟨c, hc, rfl⟩ := List.mem_map.1 he
  exact h c (List.mem_filter.1 hc).1 i z hz)).1 y hy
theorem ShortE.all {C : List Cp} (h : ShortE C) {f : Cp → Cp} (hf : ∀ c, (∀ i x, c.ent i = some x → x.2.size ≤ 60) → ∀ i x, (f c).ent i = some x → x.2.size ≤ 60) : ShortE (onAll f C) := fun c hc => by
 unfold onAll at hc
 obtain ⟨c0, h0, rfl⟩ := List.mem_map.1 hc
 by_cases ha : c0.away = true
 · rw [if_pos ha]; exact h c0 h0
 · rw [if_neg ha]; exact hf c0 (h c0 h0)
theorem short_put {c : Cp} {i : Nat} {k : Int} {s : ByteArray} (hs : s.size ≤ 60) (h : ∀ i x, c.ent i = some x → x.2.size ≤ 60) : ∀ j x, (c.put i k s).ent j = some x → x.2.size ≤ 60 := fun j x hx => by
 unfold Cp.put at hx
 split at hx
 · exact h j x hx
 · simp only [putE] at hx
   split at hx
   · cases hx; exact hs
   · exact h j x hx
theorem ShortE.putAll {k : Int} {J : List ByteArray} (hJ : ∀ x ∈ J, x.size ≤ 60) : ∀ {i : Nat} {C : List Cp}, ShortE C → ShortE (putAll k J i C) := by
 induction J with
 | nil => intro i C h; exact h
 | cons x J ih =>
  intro i C h
  rw [Go.Proofs.YtciadmjdadnolaaGreatDoor.putAll]
  exact ih (fun y hy => hJ y (List.mem_cons_of_mem _ hy)) (h.all fun c hc => short_put (hJ x (List.mem_cons_self ..)) hc)
theorem ShortE.open {C : List Cp} (h : ShortE C) : ShortE (openM C) := by
 unfold openM
 exact ShortE.putAll (readM_size C) (h.all fun c hc => hc)
theorem ShortE.doM {C : List Cp} (h : ShortE C) (k : Int) (s : Bk) (J : List ByteArray) (out : Bool) (x : ByteArray) : ShortE (doM C k s J out x).1 := by
 unfold Go.Proofs.YtciadmjdadnolaaGreatDoor.doM
 split
 · exact h
 · split
   · exact h
   · rename_i hz
     have hx : x.size ≤ 60 := doL_size (by simpa using hz)
     split
     · exact h
     · split
       · exact h
       · split
         · exact h.all fun c hc => short_put hx hc
         · exact h.all fun c hc => short_put hx hc
end Go.Proofs.YtciadmjdadnolaaGreatDoor
/- Walk of slices.Equal at two slices of the same strings. Condition: both read as those strings. -/
namespace Go.Proofs.YtciadmjdadnolaaGreatDoor
open Go.RowKit Go.Maps
set_option maxRecDepth 100000 in
set_option maxHeartbeats 4000000 in
theorem equalS (A B : Option Addr) (n c1 c2 : Nat) (l : List ByteArray) (w : World) (hn : n ≤ 1000000) (h1 : Sl w A n c1 (strV l)) (h2 : Sl w B n c2 (strV l)) :
 Calls Tryz.prog 9 #[.slice A n c1, .slice B n c2] w fun e w' => e = .returned (.bool true) ∧ Below w.heap.size w w' := by
 have H1 := hid h1
 have H2 := hid h2
 have q1 : ((n : Int) != (n : Int)) = false := by simp
 have q2 : (n != n) = false := by simp
 clear h1 h2
 go_enter Tryz.func9, Tryz.ntmps9
 go_wp2
 go_loopg [13] n (fun gk i wr => ∃ d : Nat, gk + d = n ∧ i = .int .i64 d ∧ Hid (Below w.heap.size w wr))
 case atStart => exact ⟨0, by omega, rfl, hid (Below.refl _ _)⟩
 case round =>
  obtain ⟨d, hd, rfl, HB⟩ := hrel
  have HD := hid hd
  by_cases hlt : d < n
  · have HLT := hid hlt
    obtain ⟨b1, o1, u1, rfl, lb1, e1, ca1⟩ := (H1.out.below HB.out).at hlt
    obtain ⟨b2, o2, u2, rfl, lb2, e2, ca2⟩ := (H2.out.below HB.out).at hlt
    obtain ⟨x, hx, rfl⟩ := strV_at e1
    obtain ⟨y, hy, rfl⟩ := strV_at e2
    rw [hx] at hy
    cases hy
    have hcap1 := H1.out.cap
    have hcap2 := H2.out.cap
    have HBD := hid HB.out.drew
    clear hd lb1 lb2 e1 e2 hx
    go_wp2
    go_quiet (fail)
    go_wp2
    go_roundg (gk - 1)
    case measure => have := HD.out; have := HLT.out; omega
    case rel => exact ⟨d + 1, by have := HD.out; have := HLT.out; omega, by go_num, hid (below_drewN HB.out _)⟩
  · obtain rfl : d = n := by have := HD.out; omega
    clear hd hlt
    go_wp2
    go_ret
    exact ⟨rfl, HB.out⟩
end Go.Proofs.YtciadmjdadnolaaGreatDoor
/- What stands in the rounds of MintKept: the copies, the mints on them, what was acknowledged last. No condition. -/
namespace Go.Proofs.YtciadmjdadnolaaGreatDoor
open Go.RowKit Go.Maps
/-- A mint: its block, the blocks that it reads, its journal's value, its mark, books and journal; whether it is out. -/
structure MRec where
 m : Nat
 R : Nat → Prop
 d : Value
 k : Int
 s : Bk
 J : List ByteArray
 out : Bool
/-- The blocks that a mint may write. -/
def MRec.foot (r : MRec) (i : Nat) : Prop := footM r.m r.d i
/-- All blocks of a mint. -/
def MRec.all (r : MRec) (i : Nat) : Prop := r.R i ∨ footM r.m r.d i
structure KepS (w W : World) (A : Option Addr) (ca n : Nat) (L : List (Nat × Nat)) (C : List Cp) (Ms : List MRec) (M : Int) (J : List ByteArray) (s : Bk) (sure : List ByteArray) (mv : Value) (S : Option Addr) (sc cnt : Nat) : Prop where
 cps : CpsM W L C
 own : W.ownsRow w.heap.size 42 1 (.slice A n ca) n (ptrs (L.map (·.1)))
 mts : W.ownsRow w.heap.size 32 1 mv Ms.length (ptrs (Ms.map (·.m)))
 sur : Sl W S sure.length sc (strV sure)
 surB : ∀ a, S = some a → ¬ inL L a.block ∧ (∀ r ∈ Ms, ¬ r.foot a.block) ∧ mv.ownBlock ≠ some a.block
 surT : ∀ a, S = some a → a.block < W.heap.size
 each : ∀ (i : Nat) (r : MRec), Ms[i]? = some r → MinM W r.R r.m r.d L r.k r.s r.J r.out ∧ BkI r.s ∧ r.J.length ≤ 200 ∧ 0 ≤ r.k
 apL : ∀ r ∈ Ms, ∀ i, r.all i → ¬ inL L i ∧ w.heap.size ≤ i
 apM : ∀ (i j : Nat) (r q : MRec), i ≠ j → Ms[i]? = some r → Ms[j]? = some q → ∀ x, r.foot x → ¬ q.all x
 apV : ∀ r ∈ Ms, ∀ i, r.all i → mv.ownBlock ≠ some i
 lowL : ∀ i, inL L i → w.heap.size ≤ i
 low : Below w.heap.size w W
 kept : KeptI stepL bk0 C M J s sure
 short : ShortE C
 last : ∀ (i : Nat) (r : MRec), Ms[i]? = some r → (i + 1 = cnt → r.k = M ∧ r.J = J ∧ r.s = s ∧ r.out = false) ∧ (i + 1 < cnt → r.k < M)
section
variable {w W W' : World} {A : Option Addr} {ca n : Nat} {L : List (Nat × Nat)} {C C' : List Cp} {Ms : List MRec} {M : Int} {J : List ByteArray} {s : Bk} {sure : List ByteArray} {mv : Value} {S : Option Addr} {sc cnt : Nat}
theorem KepS.below (h : KepS w W A ca n L C Ms M J s sure mv S sc cnt) (hb : Below W.heap.size W W') : KepS w W' A ca n L C Ms M J s sure mv S sc cnt :=
 ⟨h.cps.below hb, own_below h.own hb, own_below h.mts hb, h.sur.below hb, h.surB, (fun a e => Nat.lt_of_lt_of_le (h.surT a e) hb.size), fun i r hr => ⟨(h.each i r hr).1.below hb, (h.each i r hr).2⟩, h.apL, h.apM, h.apV, h.lowL, below_call h.low hb h.low.size, h.kept, h.short, h.last⟩
/-- The copies were changed, and nothing else. -/
theorem KepS.copies {M' : Int} {J' : List ByteArray} {s' : Bk} {cnt' : Nat} (h : KepS w W A ca n L C Ms M J s sure mv S sc cnt) (hc : CpsM W' L C') (hs : Chs (inL L) W W') (hk : KeptI stepL bk0 C' M' J' s' sure) (hsh : ShortE C')
 (hl : ∀ (i : Nat) (r : MRec), Ms[i]? = some r → (i + 1 = cnt' → r.k = M' ∧ r.J = J' ∧ r.s = s' ∧ r.out = false) ∧ (i + 1 < cnt' → r.k < M')) (hmv : ∀ g, mv.ownBlock = some g → ¬ inL L g) : KepS w W' A ca n L C' Ms M' J' s' sure mv S sc cnt' :=
 ⟨hc, own_chsM h.own hs (own_notL h.own h.cps), own_chsM h.mts hs hmv, h.sur.chs hs (fun a e => (h.surB a e).1), h.surB, (fun a e => Nat.lt_of_lt_of_le (h.surT a e) hs.size), fun i r hr => ⟨(h.each i r hr).1.chs hs (fun j hj => (h.apL r (List.mem_of_getElem? hr) j (.inl hj)).1) (fun j hj => (h.apL r (List.mem_of_getElem? hr) j (.inr hj)).1), (h.each i r hr).2⟩, h.apL, h.apM, h.apV, h.lowL, hs.below h.low h.low.size h.lowL, hk, hsh, hl⟩
theorem KepS.mvL (h : KepS w W A ca n L C Ms M J s sure mv S sc cnt) : ∀ g, mv.ownBlock = some g → ¬ inL L g := fun g hg hi => by
 rcases hi with hi | hi
 · obtain ⟨p, hp, rfl⟩ := List.mem_map.1 hi
   obtain ⟨j, hj⟩ := List.getElem?_of_mem hp
   obtain ⟨cc, _, hcc⟩ := h.cps.at hj
   exact own_ne_blk h.mts hcc.blk (by decide) hg.symm
 · obtain ⟨p, hp, rfl⟩ := List.mem_map.1 hi
   obtain ⟨j, hj⟩ := List.getElem?_of_mem hp
   obtain ⟨cc, _, hcc⟩ := h.cps.at hj
   exact own_ne_map h.mts hcc.map hg.symm
theorem KeptI.top_le (h : KeptI stepL bk0 C M J s sure) : topM C ≤ M := by
 unfold topM
 rcases (topM_fold (C.filter fun c => !c.away) 0).2.2 with h1 | ⟨c, hc, h1⟩
 · rw [h1]; exact h.pos
 · rw [h1]; exact (h.marks c (List.mem_filter.1 hc).1).2
/-- A mint did a line: the j-th one's record is another one. -/
theorem KepS.done {j : Nat} {r : MRec} {q : List Cp × Bk × List ByteArray × Bool × Nat} {M' : Int} {J' : List ByteArray} {s' : Bk} (h : KepS w W A ca n L C Ms M J s sure mv S sc cnt) (hr : Ms[j]? = some r) (hd : DoneM W W' r.R r.m r.d L r.k q)
 (hk : KeptI stepL bk0 q.1 M' J' s' sure) (hsh : ShortE q.1) (hb : BkI q.2.1) (hj2 : q.2.2.1.length ≤ 200)
 (hl : (j + 1 = cnt → r.k = M' ∧ q.2.2.1 = J' ∧ q.2.1 = s' ∧ q.2.2.2.1 = false) ∧ (j + 1 < cnt → r.k < M' ∧ M' = M ∧ J' = J ∧ s' = s)) (hM : j + 1 = cnt → M' = M) (hcnt : Ms.length ≤ cnt) :
 ∃ r', r'.m = r.m ∧ r'.J = q.2.2.1 ∧ r'.out = q.2.2.2.1 ∧ (∀ i, r'.all i → r.all i ∨ W.heap.size ≤ i) ∧ KepS w W' A ca n L q.1 (Ms.set j r') M' J' s' sure mv S sc cnt := by
 obtain ⟨R', d', h1, h2, h3, h4, h5⟩ := hd
 have hjl : j < Ms.length := (List.getElem?_eq_some_iff.1 hr).1
 have hmem := List.mem_of_getElem? hr
 have hlowW := h.low.size
 have hall : ∀ i, (R' i ∨ footM r.m d' i) → r.all i ∨ W.heap.size ≤ i := fun i hi => by
  rcases hi with hi | hi
  · rcases h4 i hi with hi | hi
    · exact .inl (.inl hi)
    · exact .inr hi
  · rcases h5 i hi with hi | hi
    · exact .inl (.inr hi)
    · exact .inr hi
 have hgetq : ∀ (i : Nat) (q2 : MRec), i ≠ j → Ms[i]? = some q2 → ∀ x, q2.all x → x < W.heap.size := fun i q2 _ hq x hx => by
  rcases hx with hx | hx
  · exact (h.each i q2 hq).1.lt x hx
  · exact (h.each i q2 hq).1.foot_lt hx
 have hS : ∀ x, (inL L x ∨ footM r.m r.d x) → x < W.heap.size := fun x hx => by
  rcases hx with hx | hx
  · exact h.cps.lt hx
  · exact (h.each j r hr).1.foot_lt hx
 refine ⟨⟨r.m, R', d', r.k, q.2.1, q.2.2.1, q.2.2.2.1⟩, rfl, rfl, rfl, hall, ?_⟩
 have hset : ∀ (i : Nat) (q2 : MRec), (Ms.set j ⟨r.m, R', d', r.k, q.2.1, q.2.2.1, q.2.2.2.1⟩)[i]? = some q2 → (i = j ∧ q2 = ⟨r.m, R', d', r.k, q.2.1, q.2.2.1, q.2.2.2.1⟩) ∨ (i ≠ j ∧ Ms[i]? = some q2) := fun i q2 hq => by
  by_cases e : i = j
  · subst e
    rw [List.getElem?_set_self hjl] at hq
    exact .inl ⟨rfl, (Option.some.inj hq).symm⟩
  · rw [List.getElem?_set_ne (fun x => e x.symm)] at hq
    exact .inr ⟨e, hq⟩
 have hsetm : ∀ q2 ∈ Ms.set j ⟨r.m, R', d', r.k, q.2.1, q.2.2.1, q.2.2.2.1⟩, q2 = ⟨r.m, R', d', r.k, q.2.1, q.2.2.1, q.2.2.2.1⟩ ∨ ∃ i, i ≠ j ∧ Ms[i]? = some q2 := fun q2 hq => by
  obtain ⟨i, hi⟩ := List.getElem?_of_mem hq
  rcases hset i q2 hi with ⟨_, e⟩ | ⟨e, hi⟩
  · exact .inl e
  · exact .inr ⟨i, e, hi⟩
 have hmvlt : ∀ g, mv.ownBlock = some g → g < W.heap.size := fun g hg => (h.mts.lt g hg).2
 refine ⟨h2, own_chsM h.own h3 (fun g hg e => ?_), ?_, h.sur.chs h3 (fun a e hh => ?_), fun a e => ⟨(h.surB a e).1, fun q2 hq hf => ?_, (h.surB a e).2.2⟩, (fun a e => Nat.lt_of_lt_of_le (h.surT a e) h3.size), fun i q2 hq => ?_, fun q2 hq i hi => ?_, fun i i2 q2 q3 hne hq2 hq3 x hx hx3 => ?_, fun q2 hq i hi hv => ?_, h.lowL, h3.below h.low hlowW (fun i hi => ?_), hk, hsh, fun i q2 hq => ?_⟩
 · rcases e with e | e
   · exact own_notL h.own h.cps g hg e
   · rcases e with rfl | e
     · obtain ⟨_, _, _, hb, _⟩ := (h.each j r hr).1.ex
       exact own_ne_blk h.own hb (by decide) hg.symm
     · rcases own_apart2 h.own (h.each j r hr).1.own (by decide) with h0 | h0
       · rw [h0] at hg; cases hg
       · exact h0 (by rw [hg, e])
 · have hmap : (Ms.set j ⟨r.m, R', d', r.k, q.2.1, q.2.2.1, q.2.2.2.1⟩).map (·.m) = Ms.map (·.m) := by
    rw [List.map_set]
    apply List.ext_getElem?
    intro i
    by_cases e : i = j
    · subst e
      rw [List.getElem?_set_self (by simpa using hjl), List.getElem?_map, hr]
      rfl
    · rw [List.getElem?_set_ne (fun x => e x.symm)]
   rw [hmap, List.length_set]
   exact own_chsM h.mts h3 fun g hg e => by
    rcases e with e | e
    · exact h.mvL g hg e
    · exact h.apV r hmem g (.inr e) hg
 · rcases hh with hh | hh
   · exact (h.surB a e).1 hh
   · exact (h.surB a e).2.1 r hmem hh
 · rcases hsetm q2 hq with rfl | ⟨i, hi, hq2⟩
   · rcases h5 _ hf with hf | hf
     · exact (h.surB a e).2.1 r hmem hf
     · have := h.surT a e
       omega
   · exact (h.surB a e).2.1 q2 (List.mem_of_getElem? hq2) hf
 · rcases hset i q2 hq with ⟨rfl, rfl⟩ | ⟨hne, hq⟩
   · exact ⟨h1, hb, hj2, (h.each i r hr).2.2.2⟩
   · refine ⟨(h.each i q2 hq).1.chs h3 (fun x hx hh => ?_) (fun x hx hh => ?_), (h.each i q2 hq).2⟩
     · rcases hh with hh | hh
       · exact (h.apL q2 (List.mem_of_getElem? hq) x (.inl hx)).1 hh
       · exact h.apM j i r q2 (fun e => hne e.symm) hr hq x hh (.inl hx)
     · rcases hh with hh | hh
       · exact (h.apL q2 (List.mem_of_getElem? hq) x (.inr hx)).1 hh
       · exact h.apM j i r q2 (fun e => hne e.symm) hr hq x hh (.inr hx)
 · rcases hsetm q2 hq with rfl | ⟨i2, _, hq2⟩
   · rcases hall i hi with hi | hi
     · exact h.apL r hmem i hi
     · exact ⟨fun hL => by have := h.cps.lt hL; omega, by omega⟩
   · exact h.apL q2 (List.mem_of_getElem? hq2) i hi
 · rcases hset i q2 hq2 with ⟨rfl, rfl⟩ | ⟨hn2, hqq⟩
   · rcases hset i2 q3 hq3 with ⟨rfl, rfl⟩ | ⟨hn3, hq3⟩
     · exact hne rfl
     · rcases h5 x hx with hx | hx
       · exact h.apM i i2 r q3 hne hr hq3 x hx hx3
       · have := hgetq i2 q3 hn3 hq3 x hx3
         omega
   · rcases hset i2 q3 hq3 with ⟨rfl, rfl⟩ | ⟨hn3, hq3⟩
     · rcases hall x hx3 with h0 | h0
       · exact h.apM i i2 q2 r hne hqq hr x hx h0
       · have := hgetq i q2 hn2 hqq x (.inr hx)
         omega
     · exact h.apM i i2 q2 q3 hne hqq hq3 x hx hx3
 · rcases hsetm q2 hq with rfl | ⟨i2, _, hq2⟩
   · rcases hall i hi with hi | hi
     · exact h.apV r hmem i hi hv
     · have := hmvlt i hv
       omega
   · exact h.apV q2 (List.mem_of_getElem? hq2) i hi hv
 · rcases hi with hi | hi
   · exact h.lowL i hi
   · exact (h.apL r hmem i (.inr hi)).2
 · rcases hset i q2 hq with ⟨rfl, rfl⟩ | ⟨hne, hq⟩
   · exact ⟨hl.1, fun e => (hl.2 e).1⟩
   · have hold := h.last i q2 hq
     have hil := (List.getElem?_eq_some_iff.1 hq).1
     by_cases ej : j + 1 = cnt
     · refine ⟨fun e => absurd (by omega) hne, fun e => ?_⟩
       rw [hM ej]
       exact hold.2 e
     · obtain ⟨_, e1, e2, e3⟩ := hl.2 (by omega)
       rw [e1, e2, e3]
       exact hold
/-- A new mint is put behind the others; W1: the world ahead of the append. -/
theorem KepS.push {W1 : World} {r : MRec} {mv' : Value} (h : KepS w W1 A ca n L C Ms M J s sure mv S sc (Ms.length + 1)) (hm : MinM W1 r.R r.m r.d L r.k r.s r.J r.out) (hb : BkI r.s) (hj : r.J.length ≤ 200) (h0 : 0 ≤ r.k) (hr : r.k = M ∧ r.J = J ∧ r.s = s ∧ r.out = false)
 (hnew : ∀ i, r.all i → ¬ inL L i ∧ w.heap.size ≤ i ∧ mv.ownBlock ≠ some i ∧ (∀ a, S = some a → a.block ≠ i) ∧ ∀ q ∈ Ms, ¬ q.all i)
 (ho : W'.ownsRow w.heap.size 32 1 mv' (Ms.length + 1) (ptrs (Ms.map (·.m)) ++ [.pointer (some ⟨r.m, 0, none⟩)])) (hg : W1.grownBy W' mv.ownBlock) (hl : mv'.ownBlock = mv.ownBlock ∨ ∀ g, mv'.ownBlock = some g → W1.heap.size ≤ g) :
 KepS w W' A ca n L C (Ms ++ [r]) M J s sure mv' S sc (Ms.length + 1) := by
 have hc : Chs (fun i => mv.ownBlock = some i) W1 W' := ⟨hg.os, hg.tape, hg.output, hg.size, fun i hi hs => hg.block i hi fun e => hs e.symm⟩
 have hget : ∀ (i : Nat) (q : MRec), (Ms ++ [r])[i]? = some q → Ms[i]? = some q ∨ (i = Ms.length ∧ q = r) := fun i q hq => by
  by_cases hi : i < Ms.length
  · rw [List.getElem?_append_left hi] at hq; exact .inl hq
  · have h2 := (List.getElem?_eq_some_iff.1 hq).1
    have : i = Ms.length := by simp at h2; omega
    subst this
    rw [List.getElem?_append_right (Nat.le_refl _)] at hq
    simp at hq
    exact .inr ⟨rfl, hq.symm⟩
 have hlt : ∀ (q : MRec), q ∈ Ms ∨ q = r → ∀ x, q.all x → x < W1.heap.size := fun q hq x hx => by
  rcases hq with hq | rfl
  · obtain ⟨i, hi⟩ := List.getElem?_of_mem hq
    rcases hx with hx | hx
    · exact (h.each i q hi).1.lt x hx
    · exact (h.each i q hi).1.foot_lt hx
  · rcases hx with hx | hx
    · exact hm.lt x hx
    · exact hm.foot_lt hx
 have hallv : ∀ (q : MRec), q ∈ Ms ∨ q = r → ∀ x, q.all x → mv.ownBlock ≠ some x := fun q hq x hx => by
  rcases hq with hq | rfl
  · exact h.apV q hq x hx
  · exact (hnew x hx).2.2.1
 have hmem : ∀ q ∈ Ms ++ [r], q ∈ Ms ∨ q = r := fun q hq => by simpa using hq
 refine ⟨h.cps.chs hc (fun i hi e => h.mvL i e hi), own_chsM h.own hc (fun g e e2 => ?_), ?_, h.sur.chs hc (fun a e e2 => (h.surB a e).2.2 e2), fun a e => ⟨(h.surB a e).1, fun q hq hf => ?_, fun e2 => ?_⟩, fun a e => Nat.lt_of_lt_of_le (h.surT a e) hg.size, fun i q hq => ?_, fun q hq i hi => ?_, fun i j q q2 hne hq hq2 x hx hx2 => ?_, fun q hq i hi e => ?_, h.lowL, hc.below h.low h.low.size (fun i e => (h.mts.lt i e).1), h.kept, h.short, fun i q hq => ?_⟩
 · rcases own_apart2 h.own h.mts (by decide) with h3 | h3
   · rw [h3] at e; cases e
   · exact h3 (by rw [e, e2])
 · rw [List.length_append, List.map_append, List.length_singleton]
   unfold ptrs at ho ⊢
   rw [List.map_append]
   exact ho
 · rcases hmem q hq with hq | rfl
   · exact (h.surB a e).2.1 q hq hf
   · exact (hnew _ (.inr hf)).2.2.2.1 a e rfl
 · rcases hl with hl | hl
   · rw [hl] at e2; exact (h.surB a e).2.2 e2
   · have := hl _ e2
     have := h.surT a e
     omega
 · rcases hget i q hq with hq | ⟨rfl, rfl⟩
   · refine ⟨(h.each i q hq).1.chs hc (fun x hx e => ?_) (fun x hx e => ?_), (h.each i q hq).2⟩
     · exact h.apV q (List.mem_of_getElem? hq) x (.inl hx) e
     · exact h.apV q (List.mem_of_getElem? hq) x (.inr hx) e
   · exact ⟨hm.chs hc (fun x hx e => (hnew x (.inl hx)).2.2.1 e) (fun x hx e => (hnew x (.inr hx)).2.2.1 e), hb, hj, h0⟩
 · rcases hmem q hq with hq | rfl
   · exact h.apL q hq i hi
   · exact ⟨(hnew i hi).1, (hnew i hi).2.1⟩
 · rcases hget i q hq with hqo | ⟨rfl, rfl⟩
   · rcases hget j q2 hq2 with hq2 | ⟨rfl, rfl⟩
     · exact h.apM i j q q2 hne hqo hq2 x hx hx2
     · exact (hnew x hx2).2.2.2.2 q (List.mem_of_getElem? hqo) (.inr hx)
   · rcases hget j q2 hq2 with hq2 | ⟨rfl, rfl⟩
     · exact (hnew x (.inr hx)).2.2.2.2 q2 (List.mem_of_getElem? hq2) hx2
     · exact hne rfl
 · rcases hl with hl | hl
   · rw [hl] at e; exact hallv q (hmem q hq) i hi e
   · have := hl i e
     have := hlt q (hmem q hq) i hi
     omega
 · rcases hget i q hq with hq | ⟨rfl, rfl⟩
   · exact h.last i q hq
   · exact ⟨fun _ => hr, fun e => absurd e (Nat.lt_irrefl _)⟩
/-- A block that nothing of all that lies in. -/
def FreeK (L : List (Nat × Nat)) (Ms : List MRec) (mv : Value) (S : Option Addr) (v0 : Value) (g : Nat) : Prop := ¬ inL L g ∧ (∀ r ∈ Ms, ¬ r.all g) ∧ mv.ownBlock ≠ some g ∧ (∀ a, S = some a → a.block ≠ g) ∧ v0.ownBlock ≠ some g
theorem KepS.free (h : KepS w W A ca n L C Ms M J s sure mv S sc cnt) {g : Nat} (hg : W.heap.size ≤ g) : FreeK L Ms mv S (.slice A n ca) g :=
 ⟨fun e => by have := h.cps.lt e; omega, fun r hr e => by
  obtain ⟨i, hi⟩ := List.getElem?_of_mem hr
  rcases e with e | e
  · have := (h.each i r hi).1.lt g e; omega
  · have := (h.each i r hi).1.foot_lt e; omega, fun e => by have := (h.mts.lt g e).2; omega, fun a e e2 => by have := h.surT a e; omega, fun e => by have := (h.own.lt g e).2; omega⟩
theorem FreeK.set {v0 : Value} {g j : Nat} {r r' : MRec} (h : FreeK L Ms mv S v0 g) (hr : Ms[j]? = some r) (hg : g < W.heap.size) (ha : ∀ i, r'.all i → r.all i ∨ W.heap.size ≤ i) : FreeK L (Ms.set j r') mv S v0 g :=
 ⟨h.1, fun q hq e => by
  rcases List.mem_or_eq_of_mem_set hq with hq | rfl
  · exact h.2.1 q hq e
  · rcases ha g e with e | e
    · exact h.2.1 r (List.mem_of_getElem? hr) e
    · omega, h.2.2⟩
theorem KepS.chsF {F : Nat → Prop} (h : KepS w W A ca n L C Ms M J s sure mv S sc cnt) (hc : Chs F W W') (hf : ∀ i, F i → FreeK L Ms mv S (.slice A n ca) i) (hlo : ∀ i, F i → w.heap.size ≤ i) : KepS w W' A ca n L C Ms M J s sure mv S sc cnt :=
 ⟨h.cps.chs hc (fun i hi e => (hf i e).1 hi), own_chsM h.own hc (fun g e e2 => (hf g e2).2.2.2.2 e), own_chsM h.mts hc (fun g e e2 => (hf g e2).2.2.1 e), h.sur.chs hc (fun a e e2 => (hf _ e2).2.2.2.1 a e rfl), h.surB, (fun a e => Nat.lt_of_lt_of_le (h.surT a e) hc.size), fun i q hq => ⟨(h.each i q hq).1.chs hc (fun x hx e => (hf x e).2.1 q (List.mem_of_getElem? hq) (.inl hx)) (fun x hx e => (hf x e).2.1 q (List.mem_of_getElem? hq) (.inr hx)), (h.each i q hq).2⟩, h.apL, h.apM, h.apV, h.lowL, hc.below h.low h.low.size hlo, h.kept, h.short, h.last⟩
/-- What was acknowledged last is another slice. -/
theorem KepS.sureIs {sure' : List ByteArray} {S' : Option Addr} {sc' : Nat} (h : KepS w W A ca n L C Ms M J s sure mv S sc cnt) (hs : Sl W S' sure'.length sc' (strV sure')) (hb : ∀ a, S' = some a → ¬ inL L a.block ∧ (∀ r ∈ Ms, ¬ r.foot a.block) ∧ mv.ownBlock ≠ some a.block) (ht : ∀ a, S' = some a → a.block < W.heap.size) (hk : KeptI stepL bk0 C M J s sure') :
 KepS w W A ca n L C Ms M J s sure' mv S' sc' cnt :=
 ⟨h.cps, h.own, h.mts, hs, hb, ht, h.each, h.apL, h.apM, h.apV, h.lowL, h.low, hk, h.short, h.last⟩
end
end Go.Proofs.YtciadmjdadnolaaGreatDoor
/- Rows of acts that the call made; copies and Open at three or five of them. No condition. -/
namespace Go.Proofs.YtciadmjdadnolaaGreatDoor
open Go.RowKit Go.Maps
def actV (a : Ac) : List Value := [.int .i64 a.kind, .int .i64 a.n, .int .i64 a.m, .int .i64 a.i, .string a.line]
def flatA (l : List Ac) : List Value := l.flatMap actV
theorem flatA_len (l : List Ac) : (flatA l).length = l.length * 5 := by
 induction l with
 | nil => rfl
 | cons x l ih => unfold flatA at *; rw [List.flatMap_cons, List.length_append, ih, List.length_cons]; simp [actV]; omega
theorem flatA_at {l : List Ac} : ∀ {j : Nat} {u : Ac}, l[j]? = some u → ∀ k v, (actV u)[k]? = some v → (flatA l)[j * 5 + k]? = some v := by
 induction l with
 | nil => intro j u h; simp at h
 | cons x l ih =>
  intro j u h k v hk
  have hk5 : k < 5 := by have := (List.getElem?_eq_some_iff.1 hk).1; simpa [actV] using this
  cases j with
  | zero =>
   have h : x = u := by simpa using h
   subst h
   unfold flatA
   rw [List.flatMap_cons, List.getElem?_append_left (by simp [actV]; omega), Nat.zero_mul, Nat.zero_add]
   exact hk
  | succ j =>
   have h : l[j]? = some u := by simpa using h
   have := ih h k v hk
   unfold flatA at *
   rw [List.flatMap_cons, List.getElem?_append_right (by simp [actV]; omega)]
   simp only [actV, List.length_cons, List.length_nil] at *
   rw [show (j + 1) * 5 + k - (0 + 1 + 1 + 1 + 1 + 1) = j * 5 + k by omega]
   exact this
theorem TA : TS Tryz.prog 22 30 5 48 (.agg #[.int .i64 0, .int .i64 0, .int .i64 0, .int .i64 0, .string ByteArray.empty]) := ⟨Tryz.underlying22, by kernel_rfl, rfl, by decide⟩
theorem TMm : TS Tryz.prog 27 32 1 8 (.pointer none) := ⟨Tryz.underlying27, by kernel_rfl, rfl, by decide⟩
theorem Sl5.of_own {w : World} {B : Nat} {A : Option Addr} {n c : Nat} {l : List Ac} (h : w.ownsRow B 30 5 (.slice A n c) n (flatA l)) (hn : l.length = n) : Sl5 w A n c l := by
 rcases h.2 with ⟨hv, h0⟩ | ⟨g, cap, cur, hv, hb, hg, hc, hm, hs, ht⟩
 · simp at hv
   obtain ⟨rfl, -, rfl⟩ := hv
   exact ⟨hn, by omega, Nat.zero_le _, fun h => by omega⟩
 · simp at hv
   obtain ⟨rfl, rfl⟩ := hv
   refine ⟨hn, hc, hm, fun _ => ⟨g, 0, rfl, lt_of_block hg, fun j u hu => ?_⟩⟩
   have key : ∀ k v, (actV u)[k]? = some v → w.cell? ⟨g, 0 + (j * 5 + k), none⟩ = some v := fun k v hv => by
    have := h.cells (g := g) rfl (j * 5 + k) v (flatA_at hu k v hv)
    have hadd : (⟨g, 0, none⟩ : Addr).add (j * 5 + k) = ⟨g, 0 + (j * 5 + k), none⟩ := by unfold Addr.add; split <;> simp_all
    rwa [hadd] at this
   exact ⟨key 0 _ rfl, key 1 _ rfl, key 2 _ rfl, key 3 _ rfl, key 4 _ rfl⟩
theorem flatA_inv {l : List Ac} {j : Nat} {u : Value} (h : (flatA l)[j]? = some u) : ∃ (q k : Nat) (y : Ac), j = q * 5 + k ∧ l[q]? = some y ∧ (actV y)[k]? = some u := by
 have hj := (List.getElem?_eq_some_iff.1 h).1
 rw [flatA_len] at hj
 have hq : j / 5 < l.length := by omega
 have hk : j % 5 < (actV l[j / 5]).length := by simp [actV]; omega
 have e : j = j / 5 * 5 + j % 5 := by omega
 have h2 := flatA_at (List.getElem?_eq_getElem hq) (j % 5) _ (List.getElem?_eq_getElem hk)
 rw [← e, h] at h2
 exact ⟨j / 5, j % 5, _, e, List.getElem?_eq_getElem hq, by rw [List.getElem?_eq_getElem hk]; exact h2.symm⟩
theorem run_append_noA {w : World} {base n c : Nat} {ty : TypeId} {v : Value} {xs : List Value} (ho : w.ownsRow base 30 5 v n xs) : (Builtin.append_ #[22, 22] ty #[v, .slice none 0 c]).run Tryz.prog w = .ok v w := by
 obtain ⟨i, hi, hz0, hz1, hz2⟩ := info_parts TA.inf
 have hf : (Builtin.firstCells 5 0 (Value.slice none 0 c)).run Tryz.prog w = .ok #[] w := by simp [Builtin.firstCells]
 rcases ho.2 with ⟨rfl, rfl⟩ | ⟨g, cap, cur, rfl, hg, hblk, hc, hm, hs, ht⟩
 · simp [Builtin.append_, run_underlying TA.und, sizeOf, typeInfo, hi, hz1, Builtin.lenOf, hf]
 · simp [Builtin.append_, run_underlying TA.und, sizeOf, typeInfo, hi, hz1, Builtin.lenOf, hc, hf, Addr.add_lit, storeCells]
theorem flatA_app (l m : List Ac) : flatA (l ++ m) = flatA l ++ flatA m := by unfold flatA; rw [List.flatMap_append]
/-- append of acts that came in onto a row of the call's own. -/
theorem pushActs {ops : Array Oper} {rest : List Oper} {o : Oper} {a : Act} {Q : Exit → Act → World → Prop} (w : World) (base n : Nat) (v : Value) (xs : List Ac) (hown : w.ownsRow base 30 5 v n (flatA xs))
 (A : Option Addr) (m c : Nat) (ys : List Ac) (hsl : Sl5 w A m c ys)
 (s x : Operand) (hgd : o.guard = none) (ho : o.op = .call { callee := .builtin .append, args := #[s, x], argTypes := #[22, 22] })
 (hs : a.eval s = v) (hx : a.eval x = .slice A m c) (hn : n + m ≤ 100000) (hb : base ≤ w.heap.size)
 (h : ∀ v' w', w'.ownsRow base 30 5 v' (n + m) (flatA (xs ++ ys)) → w.grownBy w' v.ownBlock → wpList Tryz.prog ops Q rest (a.put o.dst v') w') :
 wpList Tryz.prog ops Q (o :: rest) a w := by
 have hl : ys.length = m := hsl.len
 obtain ⟨i, hi, hz0, hz1, hz2⟩ := info_parts TA.inf
 cases A with
 | none =>
  have hm : m = 0 := by
   rcases Nat.eq_zero_or_pos m with h0 | h0
   · exact h0
   · obtain ⟨b, o, e, _⟩ := hsl.pos h0
     cases e
  subst hm
  have hy : ys = [] := List.eq_nil_of_length_eq_zero hl
  subst hy
  refine wpList_plain hgd fun K hK => ?_
  have hr := run_append_noA (c := c) (ty := o.type) hown
  unfold Oper.wp execOp
  simp only [ho, resolve, invoke, builtin, Sem.run_bind, Sem.run_pure, Result.andThen_ok, List.map_toArray, List.map_cons, List.map_nil, hs, hx, hr]
  refine hK _ _ (h v w ?_ ⟨rfl, rfl, rfl, Nat.le_refl _, fun _ _ _ => rfl⟩)
  simpa using hown
 | some ad =>
  refine wpList_append_own _ hgd s x 22 ho base 30 i _ 5 48 TA.und hi hz0 hz1 hz2 TA.zc TA.sz v n _ hs hown ad m c (flatA ys) hx (by rw [flatA_len, hl]) ?_ ?_ (by unfold maxLen; omega) (by omega) hb fun v' w' a1 a2 _ => h v' w' (by rw [flatA_app]; exact a1) a2
  · intro j u hu
    obtain ⟨q, k, y, rfl, hq, hk⟩ := flatA_inv hu
    have hqm : q < m := by have := (List.getElem?_eq_some_iff.1 hq).1; omega
    obtain ⟨b, o, e, _, hc⟩ := hsl.pos (by omega)
    cases e
    obtain ⟨c0, c1, c2, c3, c4⟩ := hc q y hq
    have e4 : ∀ z, (⟨b, o, none⟩ : Addr).add z = ⟨b, o + z, none⟩ := fun z => by unfold Addr.add; split <;> simp_all
    rw [e4]
    have hk5 : k < 5 := by have := (List.getElem?_eq_some_iff.1 hk).1; simpa [actV] using this
    match k, hk5, hk with
    | 0, _, hk => simp [actV] at hk; subst hk; exact c0
    | 1, _, hk => simp [actV] at hk; subst hk; exact c1
    | 2, _, hk => simp [actV] at hk; subst hk; exact c2
    | 3, _, hk => simp [actV] at hk; subst hk; exact c3
    | 4, _, hk => simp [actV] at hk; subst hk; exact c4
  · intro u hu
    obtain ⟨j, hj⟩ := List.getElem?_of_mem hu
    obtain ⟨q, k, y, _, _, hk⟩ := flatA_inv hj
    have hm := List.mem_of_getElem? hk
    simp [actV] at hm
    rcases hm with rfl | rfl | rfl | rfl | rfl <;> rfl
theorem openB {n : Nat} (h35 : n = 3 ∨ n = 5) (w0 w : World) (A : Option Addr) (c : Nat) (L : List (Nat × Nat)) (C : List Cp) (hlow : Below w0.heap.size w0 w) (he : EnvN w0) (hT : Tab w0) (hs : Sl w A n c (ptrs (L.map (·.1)))) (hc : CpsM w L C) (hLlow : ∀ i, inL L i → w0.heap.size ≤ i) (htop : topM C < 1000000000) (hsz : ∀ i y, bestE (entsOn C) i = some y → y.2.size ≤ 60) :
 Calls Tryz.prog 10 #[.slice A n c] w fun x w' => OpenR w w' n L C x := by
 rcases h35 with rfl | rfl
 · exact openG3 w0 w A c L C hlow he hT hs hc hLlow htop hsz
 · exact openG5 w0 w A c L C hlow he hT hs hc hLlow htop hsz
def nFive (b : Bool) : Nat := if b then 5 else 3
theorem nFive_35 (b : Bool) : nFive b = 3 ∨ nFive b = 5 := by cases b <;> simp [nFive]
theorem copiesB (b : Bool) (w : World) :
 Calls Tryz.prog 5 #[.bool b] w fun x w' => ∃ a r, x = .returned (.tuple #[a, r]) ∧ CopAre w' w.heap.size (nFive b) a r ∧ Below w.heap.size w w' := by
 cases b with
 | false => exact copies3 w
 | true => exact copies5 w
theorem cps_newB {w : World} {B n : Nat} {L : List (Nat × Nat)} (h : NewC w B L) (hl : L.length = n) : CpsM w L (List.replicate n ⟨0, false, fun _ => none⟩) := by
 refine ⟨by rw [hl, List.length_replicate], fun i p c hp hc => ?_, h.nod1, h.nod2⟩
 have hc := List.eq_of_mem_replicate (List.mem_of_getElem? hc)
 subst hc
 exact (h.cpm p (List.mem_of_getElem? hp)).1
end Go.Proofs.YtciadmjdadnolaaGreatDoor
