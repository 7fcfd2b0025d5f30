/- Texts of this proof, one behind the other; each says its condition at its head. -/
import Derived.Test.YtnibidmlkbcfkaaGreatDoorT1
import Derived.Test.YtnibidmlkbcfkaaGreatDoorT9
namespace Go.Proofs.YtnibidmlkbcfkaaGreatDoor
/- The plain law of copies and marks: what most copies hold is read again. No program in sight. -/
section
/-- A copy: its mark, whether it is out of reach, what it holds. -/
structure Cp where
 mark : Int
 away : Bool
 ent : Ents
/-- Put of a line with a mark. -/
def Cp.put (c : Cp) (i : Nat) (k : Int) (s : ByteArray) : Cp := if k < c.mark then c else { c with mark := k, ent := putE c.ent i (k, s) }
def Cp.prom (c : Cp) (k : Int) : Cp := { c with mark := k }
/-- Something done on all copies in reach. -/
def onAll (f : Cp → Cp) (C : List Cp) : List Cp := C.map fun c => if c.away then c else f c
def reachN (C : List Cp) : Nat := C.countP fun c => !c.away
/-- The lines put from number i on. -/
def putAll (k : Int) : List ByteArray → Nat → List Cp → List Cp
 | [], _, C => C
 | s :: J, i, C => putAll k J (i + 1) (onAll (fun c => c.put i k s) C)
/-- The entry with the greatest mark. -/
def betE (o : Option (Int × ByteArray)) (x : Option (Int × ByteArray)) : Option (Int × ByteArray) :=
 match x with
 | none => o
 | some x => match o with
  | none => some x
  | some y => if y.1 < x.1 then some x else some y
def bestE (l : List Ents) (i : Nat) : Option (Int × ByteArray) := l.foldl (fun o e => betE o (e i)) none
section
variable {σ : Type} (D : σ → ByteArray → Option σ)
/-- The reading of the books: from number i on, at most n of them. -/
def readL (f : Nat → Option (Int × ByteArray)) : Nat → Nat → Int → σ → List ByteArray → σ × List ByteArray
 | 0, _, _, s, J => (s, J)
 | n + 1, i, last, s, J =>
  match f i with
  | none => (s, J)
  | some x => if x.1 < last then (s, J) else
   match D s x.2 with
   | none => (s, J)
   | some s' => readL f n (i + 1) x.1 s' (J ++ [x.2])
def runL (s : σ) : List ByteArray → Option σ
 | [] => some s
 | x :: J => match D s x with
  | none => none
  | some s' => runL s' J
end
/-- The copies' greatest mark, of those in reach. -/
def topM (C : List Cp) : Int := (C.filter fun c => !c.away).foldl (fun m c => max m c.mark) 0
def entsOn (C : List Cp) : List Ents := (C.filter fun c => !c.away).map (·.ent)
section
variable {σ : Type} {D : σ → ByteArray → Option σ}
theorem runL_snoc (s : σ) (J : List ByteArray) (x : ByteArray) : runL D s (J ++ [x]) = (runL D s J).bind fun s' => D s' x := by
 induction J generalizing s with
 | nil => simp [runL]; cases D s x <;> rfl
 | cons y J ih =>
  simp only [List.cons_append, runL]
  cases D s y with
  | none => rfl
  | some s' => exact ih s'
theorem readL_more (f : Nat → Option (Int × ByteArray)) (n i : Nat) (last : Int) (s : σ) (J : List ByteArray) : J <+: (readL D f n i last s J).2 := by
 induction n generalizing i last s J with
 | zero => exact List.prefix_rfl
 | succ n ih =>
  unfold readL
  split
  · exact List.prefix_rfl
  · split
    · exact List.prefix_rfl
    · split
      · exact List.prefix_rfl
      · exact (List.prefix_append _ _).trans (ih _ _ _ _)
theorem readL_len (f : Nat → Option (Int × ByteArray)) (n i : Nat) (last : Int) (s : σ) (J : List ByteArray) : (readL D f n i last s J).2.length ≤ J.length + n := by
 induction n generalizing i last s J with
 | zero => simp [readL]
 | succ n ih =>
  unfold readL
  split
  · simp
  · split
    · simp
    · split
      · simp
      · rename_i x _ _ _ s' _
        have := ih (i + 1) x.1 s' (J ++ [x.2])
        rw [List.length_append, List.length_singleton] at this
        omega
theorem readL_runs (f : Nat → Option (Int × ByteArray)) (s0 : σ) (n i : Nat) (last : Int) (s : σ) (J : List ByteArray) (h : runL D s0 J = some s) : runL D s0 (readL D f n i last s J).2 = some (readL D f n i last s J).1 := by
 induction n generalizing i last s J with
 | zero => exact h
 | succ n ih =>
  unfold readL
  split
  · exact h
  · split
    · exact h
    · split
      · exact h
      · rename_i s' hs'
        exact ih _ _ _ _ (by rw [runL_snoc, h]; exact hs')
/-- Lines that stand there with one mark, and run, are read. -/
theorem readL_all (f : Nat → Option (Int × ByteArray)) (M : Int) (L : List ByteArray) : ∀ (n i : Nat) (last : Int) (s t : σ) (J : List ByteArray), L.length ≤ n → last ≤ M → (∀ j x, L[j]? = some x → f (i + j) = some (M, x)) → runL D s L = some t →
 readL D f n i last s J = readL D f (n - L.length) (i + L.length) (if L = [] then last else M) t (J ++ L) := by
 induction L with
 | nil =>
  intro n i last s t J _ _ _ hr
  simp only [runL, Option.some.injEq] at hr
  subst hr
  simp
 | cons x L ih =>
  intro n i last s t J hn hl hf hr
  cases n with
  | zero => simp at hn
  | succ n =>
   have h0 := hf 0 x rfl
   rw [Nat.add_zero] at h0
   simp only [runL] at hr
   cases hD : D s x with
   | none => rw [hD] at hr; cases hr
   | some s' =>
    rw [hD] at hr
    rw [show readL D f (n + 1) i last s J = readL D f n (i + 1) M s' (J ++ [x]) by
     rw [readL, h0]
     simp only
     rw [if_neg (by omega), hD]]
    rw [ih n (i + 1) M s' t (J ++ [x]) (by simp at hn; exact hn) (Int.le_refl _) (fun j y hy => by
     have := hf (j + 1) y hy
     rwa [show i + (j + 1) = i + 1 + j by omega] at this) hr]
    simp only [List.length_cons, reduceCtorEq, if_false, List.append_assoc, List.singleton_append]
    rw [show n + 1 - (L.length + 1) = n - L.length by omega, show i + (L.length + 1) = i + 1 + L.length by omega]
    split <;> rfl
end
/- ## Most of some -/
theorem countP_le_of {p q : Cp → Bool} {C : List Cp} (h : ∀ c ∈ C, p c = true → q c = true) : C.countP p ≤ C.countP q := by
 induction C with
 | nil => simp
 | cons c C ih =>
  have := ih fun c hc => h c (List.mem_cons_of_mem _ hc)
  have h0 := h c (List.mem_cons_self ..)
  rw [List.countP_cons, List.countP_cons]
  by_cases hp : p c = true
  · rw [if_pos hp, if_pos (h0 hp)]; omega
  · rw [if_neg hp]; omega
theorem countP_map_le {p q : Cp → Bool} {f : Cp → Cp} {C : List Cp} (h : ∀ c ∈ C, p c = true → q (f c) = true) : C.countP p ≤ (C.map f).countP q := by
 rw [List.countP_map]
 exact countP_le_of h
theorem meet {p q : Cp → Bool} {C : List Cp} (hp : C.length < 2 * C.countP p) (hq : C.length < 2 * C.countP q) : ∃ c ∈ C, p c = true ∧ q c = true := by
 have key : ∀ C : List Cp, (∀ c ∈ C, ¬ (p c = true ∧ q c = true)) → C.countP p + C.countP q ≤ C.length := by
  intro C
  induction C with
  | nil => simp
  | cons c C ih =>
   intro h
   have h1 := ih fun c hc => h c (List.mem_cons_of_mem _ hc)
   have h0 := h c (List.mem_cons_self ..)
   rw [List.countP_cons, List.countP_cons, List.length_cons]
   by_cases a : p c = true
   · by_cases b : q c = true
     · exact absurd ⟨a, b⟩ h0
     · rw [if_pos a, if_neg b]; omega
   · by_cases b : q c = true
     · rw [if_neg a, if_pos b]; omega
     · rw [if_neg a, if_neg b]; omega
 refine Classical.byContradiction fun hn => ?_
 have := key C fun c hc hb => hn ⟨c, hc, hb⟩
 omega
theorem onAll_len (f : Cp → Cp) (C : List Cp) : (onAll f C).length = C.length := by simp [onAll]
theorem Cp.put_away (c : Cp) (i : Nat) (k : Int) (s : ByteArray) : (c.put i k s).away = c.away := by unfold Cp.put; split <;> rfl
/-- What a copy holds behind all lines. -/
def putsE (k : Int) : List ByteArray → Nat → Ents → Ents
 | [], _, e => e
 | s :: J, i, e => putsE k J (i + 1) (putE e i (k, s))
theorem putsE_at (k : Int) (J : List ByteArray) (i : Nat) (e : Ents) (j : Nat) : putsE k J i e j = if i ≤ j ∧ j < i + J.length then (J[j - i]?).map (fun s => (k, s)) else e j := by
 induction J generalizing i e with
 | nil => rw [if_neg (by simp)]; rfl
 | cons s J ih =>
  rw [putsE, ih]
  by_cases h1 : i + 1 ≤ j ∧ j < i + 1 + J.length
  · rw [if_pos h1, if_pos (by simp; omega)]
    rw [show j - i = (j - (i + 1)) + 1 by omega]
    rfl
  · rw [if_neg h1]
    by_cases h2 : j = i
    · subst h2
      rw [if_pos (by simp)]
      simp [putE]
    · rw [if_neg (by simp; omega)]
      simp [putE, h2]
theorem putAll_eq (k : Int) (J : List ByteArray) (i : Nat) (C : List Cp) (h : ∀ c ∈ C, c.away = false → c.mark = k) :
 putAll k J i C = onAll (fun c => { c with ent := putsE k J i c.ent }) C := by
 induction J generalizing i C with
 | nil =>
  rw [putAll]
  unfold onAll
  conv => lhs; rw [← List.map_id C]
  apply List.map_congr_left
  intro c _
  simp only [id, putsE]
  split <;> rfl
 | cons s J ih =>
  have hput : ∀ c ∈ C, c.away = false → c.put i k s = { c with ent := putE c.ent i (k, s) } := fun c hc ha => by
   have := h c hc ha
   unfold Cp.put
   rw [if_neg (by omega), ← this]
  rw [putAll, ih]
  · unfold onAll
    rw [List.map_map]
    apply List.map_congr_left
    intro c hc
    simp only [Function.comp]
    by_cases ha : c.away = true
    · simp [ha]
    · have ha' : c.away = false := by simpa using ha
      simp only [ha', Bool.false_eq_true, if_false]
      rw [hput c hc ha']
      simp [ha', putsE]
  · intro c hc ha
    unfold onAll at hc
    obtain ⟨c0, hc0, rfl⟩ := List.mem_map.1 hc
    by_cases h0 : c0.away = true
    · simp [h0] at ha
    · have h0' : c0.away = false := by simpa using h0
      simp only [h0', Bool.false_eq_true, if_false]
      rw [hput c0 hc0 h0']
      exact h c0 hc0 h0'
theorem betE_best (o x : Option (Int × ByteArray)) (P : Int × ByteArray → Prop) (ho : ∀ y, o = some y → P y) (hx : ∀ y, x = some y → P y) : (∀ y, betE o x = some y → P y) ∧ (∀ y, o = some y → ∃ z, betE o x = some z ∧ y.1 ≤ z.1) ∧ (∀ y, x = some y → ∃ z, betE o x = some z ∧ y.1 ≤ z.1) := by
 unfold betE
 cases x with
 | none => exact ⟨ho, fun y hy => ⟨y, hy, Int.le_refl _⟩, fun y hy => by cases hy⟩
 | some x =>
  cases o with
  | none => exact ⟨fun y hy => hx y hy, (fun y hy => by cases hy), fun y hy => ⟨x, rfl, by cases hy; exact Int.le_refl _⟩⟩
  | some v =>
   simp only
   split
   · rename_i hlt
     exact ⟨fun y hy => hx y hy, fun y hy => ⟨x, rfl, by cases hy; omega⟩, fun y hy => ⟨x, rfl, by cases hy; exact Int.le_refl _⟩⟩
   · rename_i hlt
     exact ⟨fun y hy => ho y hy, fun y hy => ⟨v, rfl, by cases hy; exact Int.le_refl _⟩, fun y hy => ⟨v, rfl, by cases hy; omega⟩⟩
theorem best_fold (i : Nat) (P : Int × ByteArray → Prop) (l : List Ents) (o : Option (Int × ByteArray)) (ho : ∀ y, o = some y → P y) (hl : ∀ e ∈ l, ∀ y, e i = some y → P y) :
 (∀ y, l.foldl (fun o e => betE o (e i)) o = some y → P y) ∧ (∀ y, o = some y → ∃ z, l.foldl (fun o e => betE o (e i)) o = some z ∧ y.1 ≤ z.1) ∧ (∀ e ∈ l, ∀ y, e i = some y → ∃ z, l.foldl (fun o e => betE o (e i)) o = some z ∧ y.1 ≤ z.1) := by
 induction l generalizing o with
 | nil => exact ⟨ho, fun y hy => ⟨y, hy, Int.le_refl _⟩, fun e he => by cases he⟩
 | cons e l ih =>
  obtain ⟨b1, b2, b3⟩ := betE_best o (e i) P ho (hl e (List.mem_cons_self ..))
  obtain ⟨i1, i2, i3⟩ := ih (betE o (e i)) b1 fun e' he' => hl e' (List.mem_cons_of_mem _ he')
  refine ⟨i1, fun y hy => ?_, fun e' he' y hy => ?_⟩
  · obtain ⟨z, hz, hle⟩ := b2 y hy
    obtain ⟨z', hz', hle'⟩ := i2 z hz
    exact ⟨z', hz', by omega⟩
  · rcases List.mem_cons.1 he' with rfl | he'
    · obtain ⟨z, hz, hle⟩ := b3 y hy
      obtain ⟨z', hz', hle'⟩ := i2 z hz
      exact ⟨z', hz', by omega⟩
    · exact i3 e' he' y hy
/-- The entry with the greatest mark is the only one with that mark. -/
theorem best_is {l : List Ents} {i : Nat} {M : Int} {s : ByteArray} (hle : ∀ e ∈ l, ∀ y, e i = some y → y.1 ≤ M ∧ (y.1 = M → y.2 = s)) (hex : ∃ e ∈ l, e i = some (M, s)) : bestE l i = some (M, s) := by
 obtain ⟨h1, _, h3⟩ := best_fold i (fun y => y.1 ≤ M ∧ (y.1 = M → y.2 = s)) l none (fun y hy => by cases hy) hle
 obtain ⟨e, he, hs⟩ := hex
 obtain ⟨z, hz, hMz⟩ := h3 e he _ hs
 have hz' : bestE l i = some z := hz
 obtain ⟨a, b⟩ := h1 z hz
 have : z.1 = M := by simp at hMz; omega
 have h2 := b this
 rw [hz']
 obtain ⟨z1, z2⟩ := z
 simp at this h2
 rw [this, h2]
theorem topM_fold (l : List Cp) (m : Int) : m ≤ l.foldl (fun m c => max m c.mark) m ∧ (∀ c ∈ l, c.mark ≤ l.foldl (fun m c => max m c.mark) m) ∧ (l.foldl (fun m c => max m c.mark) m = m ∨ ∃ c ∈ l, l.foldl (fun m c => max m c.mark) m = c.mark) := by
 induction l generalizing m with
 | nil => exact ⟨Int.le_refl _, (fun c hc => by cases hc), .inl rfl⟩
 | cons c l ih =>
  obtain ⟨h1, h2, h3⟩ := ih (max m c.mark)
  simp only [List.foldl_cons]
  refine ⟨by omega, fun d hd => ?_, ?_⟩
  · rcases List.mem_cons.1 hd with rfl | hd
    · omega
    · exact h2 d hd
  · rcases h3 with h3 | ⟨d, hd, h3⟩
    · by_cases e : c.mark ≤ m
      · left; omega
      · right; exact ⟨c, List.mem_cons_self .., by omega⟩
    · right; exact ⟨d, List.mem_cons_of_mem _ hd, h3⟩
/- ## What is kept -/
section
variable {σ : Type} (D : σ → ByteArray → Option σ) (s0 : σ)
/-- M is the newest mint's mark, J its journal, s its state, sure what was acknowledged last. -/
structure KeptI (C : List Cp) (M : Int) (J : List ByteArray) (s : σ) (sure : List ByteArray) : Prop where
 pos : 0 ≤ M
 marks : ∀ c ∈ C, 0 ≤ c.mark ∧ c.mark ≤ M
 ents : ∀ c ∈ C, ∀ i x, c.ent i = some x → x.1 ≤ c.mark
 most : C.length < 2 * C.countP (fun c => c.mark == M)
 kept : ∀ i x, J[i]? = some x → C.length < 2 * C.countP (fun c => decide (c.ent i = some (M, x)))
 only : ∀ c ∈ C, ∀ i x, c.ent i = some (M, x) → J[i]? = some x
 sure : sure <+: J
 runs : runL D s0 J = some s
 len : J.length ≤ 200
end
section
variable {σ : Type} {D : σ → ByteArray → Option σ} {s0 s : σ} {C : List Cp} {M k : Int} {J sure : List ByteArray}
theorem KeptI.reach (h : KeptI D s0 C M J s sure) (f : Cp → Bool) : KeptI D s0 (C.map fun c => { c with away := f c }) M J s sure := by
 refine ⟨h.pos, fun c hc => ?_, fun c hc i x hx => ?_, ?_, fun i x hx => ?_, fun c hc i x hx => ?_, h.sure, h.runs, h.len⟩
 · obtain ⟨c0, h0, rfl⟩ := List.mem_map.1 hc
   exact h.marks c0 h0
 · obtain ⟨c0, h0, rfl⟩ := List.mem_map.1 hc
   exact h.ents c0 h0 i x hx
 · rw [List.countP_map, List.length_map]
   exact h.most
 · rw [List.countP_map, List.length_map]
   exact h.kept i x hx
 · obtain ⟨c0, h0, rfl⟩ := List.mem_map.1 hc
   exact h.only c0 h0 i x hx
/-- The newest mint's change. -/
theorem KeptI.newest (h : KeptI D s0 C M J s sure) {x : ByteArray} {s' : σ} (hD : D s x = some s') (hmost : C.length < 2 * reachN C) (hl : J.length < 200) : KeptI D s0 (onAll (fun c => c.put J.length M x) C) M (J ++ [x]) s' (J ++ [x]) := by
 have hput : ∀ c ∈ C, c.put J.length M x = { c with mark := M, ent := putE c.ent J.length (M, x) } := fun c hc => by
  have := h.marks c hc
  unfold Cp.put
  rw [if_neg (by omega)]
 have hmem : ∀ c ∈ onAll (fun c => c.put J.length M x) C, ∃ c0 ∈ C, (c0.away = true ∧ c = c0) ∨ (c0.away = false ∧ c = { c0 with mark := M, ent := putE c0.ent J.length (M, x) }) := fun c hc => by
  unfold onAll at hc
  obtain ⟨c0, h0, rfl⟩ := List.mem_map.1 hc
  refine ⟨c0, h0, ?_⟩
  by_cases ha : c0.away = true
  · left; simp [ha]
  · have ha' : c0.away = false := by simpa using ha
    right
    refine ⟨ha', ?_⟩
    simp only [ha', Bool.false_eq_true, if_false]
    rw [hput c0 h0, ha']
 refine ⟨h.pos, fun c hc => ?_, fun c hc i y hy => ?_, ?_, fun i y hy => ?_, fun c hc i y hy => ?_, List.prefix_rfl, by rw [runL_snoc, h.runs]; exact hD, by simp; omega⟩
 · obtain ⟨c0, h0, ⟨_, rfl⟩ | ⟨_, rfl⟩⟩ := hmem c hc
   · exact h.marks _ h0
   · exact ⟨h.pos, Int.le_refl _⟩
 · obtain ⟨c0, h0, ⟨_, rfl⟩ | ⟨_, rfl⟩⟩ := hmem c hc
   · exact h.ents _ h0 i y hy
   · simp only at hy ⊢
     unfold putE at hy
     split at hy
     · cases hy; exact Int.le_refl _
     · have := h.ents _ h0 i y hy
       have := h.marks _ h0
       omega
 · rw [onAll_len]
   refine Nat.lt_of_lt_of_le h.most (Nat.mul_le_mul_left 2 (countP_map_le fun c hc hm => ?_))
   by_cases ha : c.away = true
   · simp only [ha, if_true]; exact hm
   · have ha' : c.away = false := by simpa using ha
     simp only [ha', Bool.false_eq_true, if_false]
     rw [hput c hc]; simp
 · rw [onAll_len]
   by_cases hi : i < J.length
   · rw [List.getElem?_append_left hi] at hy
     refine Nat.lt_of_lt_of_le (h.kept i y hy) (Nat.mul_le_mul_left 2 (countP_map_le fun c hc hm => ?_))
     by_cases ha : c.away = true
     · simp only [ha, if_true]; exact hm
     · have ha' : c.away = false := by simpa using ha
       simp only [ha', Bool.false_eq_true, if_false]
       rw [hput c hc]
       refine decide_eq_true ?_
       simp only [putE]
       rw [if_neg (by omega)]
       exact of_decide_eq_true hm
   · have hi2 : i = J.length := by
      have := (List.getElem?_eq_some_iff.1 hy).1
      simp at this
      omega
     subst hi2
     have hyx : y = x := by simpa using hy.symm
     subst hyx
     refine Nat.lt_of_lt_of_le hmost (Nat.mul_le_mul_left 2 (countP_map_le fun c hc hm => ?_))
     have ha' : c.away = false := by simpa using hm
     simp only [ha', Bool.false_eq_true, if_false]
     rw [hput c hc]
     simp [putE]
 · obtain ⟨c0, h0, ⟨_, rfl⟩ | ⟨_, rfl⟩⟩ := hmem c hc
   · have := h.only _ h0 i y hy
     rw [List.getElem?_append_left (List.getElem?_eq_some_iff.1 this).1]
     exact this
   · simp only [putE] at hy
     split at hy
     · rename_i e
       subst e
       cases hy
       simp
     · have := h.only _ h0 i y hy
       rw [List.getElem?_append_left (List.getElem?_eq_some_iff.1 this).1]
       exact this
/-- A mint opened anew. -/
theorem KeptI.opened (h : KeptI D s0 C M J s sure) (hmost : C.length < 2 * reachN C) : topM C = M ∧
 KeptI D s0 (putAll (M + 1) (readL D (bestE (entsOn C)) 200 0 0 s0 []).2 0 (onAll (fun c => c.prom (M + 1)) C)) (M + 1) (readL D (bestE (entsOn C)) 200 0 0 s0 []).2 (readL D (bestE (entsOn C)) 200 0 0 s0 []).1 sure := by
 have htop : topM C = M := by
  unfold topM
  obtain ⟨h1, h2, h3⟩ := topM_fold (C.filter fun c => !c.away) 0
  obtain ⟨c, hc, ha, hm⟩ := meet (p := fun c => !c.away) hmost h.most
  have := h2 c (by simp [hc]; simpa using ha)
  have hm' : c.mark = M := by simpa using hm
  have hle : List.foldl (fun m c => max m c.mark) 0 (C.filter fun c => !c.away) ≤ M := by
   rcases h3 with h3 | ⟨d, hd, h3⟩
   · rw [h3]; exact h.pos
   · rw [h3]; exact (h.marks d (List.mem_filter.1 hd).1).2
  omega
 refine ⟨htop, ?_⟩
 have hbest : ∀ j x, J[j]? = some x → bestE (entsOn C) (0 + j) = some (M, x) := fun j x hx => by
  rw [Nat.zero_add]
  refine best_is (fun e he y hy => ?_) ?_
  · unfold entsOn at he
    obtain ⟨c, hc, rfl⟩ := List.mem_map.1 he
    have hc := (List.mem_filter.1 hc).1
    have h1 := h.ents c hc j y hy
    have h2 := h.marks c hc
    refine ⟨by omega, fun e => ?_⟩
    have := h.only c hc j y.2 (by rw [hy, ← e])
    rw [hx] at this
    exact (Option.some.inj this).symm
  · obtain ⟨c, hc, ha, hm⟩ := meet (p := fun c => !c.away) hmost (h.kept j x hx)
    exact ⟨c.ent, by unfold entsOn; exact List.mem_map.2 ⟨c, List.mem_filter.2 ⟨hc, ha⟩, rfl⟩, by simpa using hm⟩
 have hread := readL_all (D := D) (bestE (entsOn C)) M J 200 0 0 s0 s [] h.len h.pos hbest h.runs
 have hpre : J <+: (readL D (bestE (entsOn C)) 200 0 0 s0 []).2 := by
  rw [hread]
  exact readL_more _ _ _ _ _ _
 have hruns := readL_runs (D := D) (bestE (entsOn C)) s0 200 0 0 s0 [] rfl
 have hlen := readL_len (D := D) (bestE (entsOn C)) 200 0 0 s0 []
 generalize readL D (bestE (entsOn C)) 200 0 0 s0 [] = r at *
 obtain ⟨t, J'⟩ := r
 simp only at *
 rw [putAll_eq _ _ _ _ (fun c hc ha => by
  unfold onAll at hc
  obtain ⟨c0, h0, rfl⟩ := List.mem_map.1 hc
  by_cases hb : c0.away = true
  · simp [hb] at ha
  · simp [hb, Cp.prom])]
 have hC : onAll (fun c => { c with ent := putsE (M + 1) J' 0 c.ent }) (onAll (fun c => c.prom (M + 1)) C) = C.map fun c => if c.away then c else { c with mark := M + 1, ent := putsE (M + 1) J' 0 c.ent } := by
  unfold onAll
  rw [List.map_map]
  apply List.map_congr_left
  intro c _
  simp only [Function.comp]
  by_cases hb : c.away = true
  · simp [hb]
  · simp [hb, Cp.prom]
 rw [hC]
 have hmem : ∀ c ∈ C.map (fun c => if c.away then c else { c with mark := M + 1, ent := putsE (M + 1) J' 0 c.ent }), ∃ c0 ∈ C, c = c0 ∨ c = { c0 with mark := M + 1, ent := putsE (M + 1) J' 0 c0.ent } := fun c hc => by
  obtain ⟨c0, h0, rfl⟩ := List.mem_map.1 hc
  refine ⟨c0, h0, ?_⟩
  by_cases hb : c0.away = true
  · left; simp [hb]
  · right; simp [hb]
 refine ⟨by have := h.pos; omega, fun c hc => ?_, fun c hc i y hy => ?_, ?_, fun i y hy => ?_, fun c hc i y hy => ?_, h.sure.trans hpre, hruns, by simpa using hlen⟩
 · obtain ⟨c0, h0, rfl | rfl⟩ := hmem c hc
   · have := h.marks _ h0; omega
   · have := h.pos
     exact ⟨by simp only; omega, by simp only; omega⟩
 · obtain ⟨c0, h0, rfl | rfl⟩ := hmem c hc
   · exact h.ents _ h0 i y hy
   · simp only at hy ⊢
     rw [putsE_at] at hy
     split at hy
     · obtain ⟨z, _, rfl⟩ := Option.map_eq_some_iff.1 hy
       exact Int.le_refl _
     · have h1 := h.ents _ h0 i y hy
       have h2 := h.marks _ h0
       omega
 · rw [List.length_map]
   refine Nat.lt_of_lt_of_le hmost (Nat.mul_le_mul_left 2 (countP_map_le fun c hc hm => ?_))
   have ha' : c.away = false := by simpa using hm
   simp [ha']
 · rw [List.length_map]
   have hi := (List.getElem?_eq_some_iff.1 hy).1
   refine Nat.lt_of_lt_of_le hmost (Nat.mul_le_mul_left 2 (countP_map_le fun c hc hm => ?_))
   have ha' : c.away = false := by simpa using hm
   simp only [ha', Bool.false_eq_true, if_false]
   rw [putsE_at, if_pos (by omega)]
   simp [hy]
 · obtain ⟨c0, h0, rfl | rfl⟩ := hmem c hc
   · have h1 := h.ents _ h0 i _ hy
     have h2 := h.marks _ h0
     simp at h1
     omega
   · simp only at hy
     rw [putsE_at] at hy
     split at hy
     · obtain ⟨z, hz, e⟩ := Option.map_eq_some_iff.1 hy
       cases e
       simpa using hz
     · have h1 := h.ents _ h0 i _ hy
       have h2 := h.marks _ h0
       simp at h1
       omega
end
end
/- Copies and mints in memory, each beside what it says. No condition. -/
section
open Go.RowKit Go.Maps
/-- Copies in memory: their structs and maps, and what they say. -/
structure CpsM (W : World) (L : List (Nat × Nat)) (C : List Cp) : Prop where
 len : L.length = C.length
 cp : ∀ (i : Nat) (p : Nat × Nat) (c : Cp), L[i]? = some p → C[i]? = some c → CpM W p.1 p.2 c.mark c.away c.ent
 nod1 : (L.map (·.1)).Nodup
 nod2 : (L.map (·.2)).Nodup
/-- The copies' blocks. -/
def inL (L : List (Nat × Nat)) (i : Nat) : Prop := i ∈ L.map (·.1) ∨ i ∈ L.map (·.2)
theorem inL_1 {L : List (Nat × Nat)} {i : Nat} {p : Nat × Nat} (h : L[i]? = some p) : inL L p.1 := .inl (List.mem_map.2 ⟨p, List.mem_of_getElem? h, rfl⟩)
theorem inL_2 {L : List (Nat × Nat)} {i : Nat} {p : Nat × Nat} (h : L[i]? = some p) : inL L p.2 := .inr (List.mem_map.2 ⟨p, List.mem_of_getElem? h, rfl⟩)
section
variable {W W' : World} {L : List (Nat × Nat)} {C : List Cp}
theorem CpsM.at (h : CpsM W L C) {i : Nat} {p : Nat × Nat} (hp : L[i]? = some p) : ∃ c, C[i]? = some c ∧ CpM W p.1 p.2 c.mark c.away c.ent := by
 have hi : i < C.length := by have := (List.getElem?_eq_some_iff.1 hp).1; have := h.len; omega
 exact ⟨_, List.getElem?_eq_getElem hi, h.cp i p _ hp (List.getElem?_eq_getElem hi)⟩
theorem CpsM.lt (h : CpsM W L C) {i : Nat} (hi : inL L i) : i < W.heap.size := by
 rcases hi with hi | hi <;>
 · obtain ⟨p, hp, rfl⟩ := List.mem_map.1 hi
   obtain ⟨j, hj⟩ := List.getElem?_of_mem hp
   obtain ⟨c, _, hc⟩ := h.at hj
   first | exact hc.lt.1 | exact hc.lt.2
theorem CpsM.chs {S : Nat → Prop} (h : CpsM W L C) (k : Chs S W W') (hs : ∀ i, inL L i → ¬ S i) : CpsM W' L C :=
 ⟨h.len, fun i p c hp hc => k.cpm (h.cp i p c hp hc) (hs _ (inL_1 hp)) (hs _ (inL_2 hp)), h.nod1, h.nod2⟩
theorem CpsM.below (h : CpsM W L C) (hb : Below W.heap.size W W') : CpsM W' L C := h.chs (Chs.of_below (S := fun _ => False) hb) fun _ _ h => h
theorem CpsM.put {i : Nat} {p : Nat × Nat} {c' : Cp} (h : CpsM W L C) (hp : L[i]? = some p) (hc : CpM W' p.1 p.2 c'.mark c'.away c'.ent) (k : Chs (fun b => b = p.1 ∨ b = p.2) W W') : CpsM W' L (C.set i c') := by
 obtain ⟨c0, _, hcp⟩ := h.at hp
 refine ⟨by rw [List.length_set]; exact h.len, fun j q c hq hcj => ?_, h.nod1, h.nod2⟩
 by_cases e : j = i
 · subst e
   rw [hp] at hq
   cases hq
   rw [List.getElem?_set_self (by have := (List.getElem?_eq_some_iff.1 hp).1; have := h.len; omega)] at hcj
   cases hcj
   exact hc
 · rw [List.getElem?_set_ne (fun x => e x.symm)] at hcj
   have hq2 := h.cp j q c hq hcj
   have n1 : q.1 ≠ p.1 := fun e' => by
    have h1 : (L.map (·.1))[j]? = some q.1 := by rw [List.getElem?_map, hq]; rfl
    have h2 : (L.map (·.1))[i]? = some q.1 := by rw [List.getElem?_map, hp, e']; rfl
    exact e ((List.getElem?_inj (List.getElem?_eq_some_iff.1 h1).1 h.nod1).1 (by rw [h1, h2]))
   have n2 : q.2 ≠ p.2 := fun e' => by
    have h1 : (L.map (·.2))[j]? = some q.2 := by rw [List.getElem?_map, hq]; rfl
    have h2 : (L.map (·.2))[i]? = some q.2 := by rw [List.getElem?_map, hp, e']; rfl
    exact e ((List.getElem?_inj (List.getElem?_eq_some_iff.1 h1).1 h.nod2).1 (by rw [h1, h2]))
   have n3 : q.1 ≠ p.2 := hcp.map.ne_blk hq2.blk
   have n4 : q.2 ≠ p.1 := fun e' => hq2.map.ne_blk hcp.blk e'.symm
   exact k.cpm hq2 (fun e => e.elim n1 n3) (fun e => e.elim n4 n2)
end
/-- The copies in reach. -/
def onC (C : List Cp) : List Cp := C.filter fun c => !c.away
def onB (L : List (Nat × Nat)) (C : List Cp) : List Nat := onL ((L.zip C).map fun q => (q.1.1, q.2.away))
/-- Something done on the first of those in reach. -/
def onF (f : Cp → Cp) : Nat → List Cp → List Cp
 | 0, C => C
 | _ + 1, [] => []
 | d + 1, c :: C => if c.away then c :: onF f (d + 1) C else f c :: onF f d C
theorem onF_zero (f : Cp → Cp) (C : List Cp) : onF f 0 C = C := by unfold onF; rfl
theorem onF_cons_away (f : Cp → Cp) (d : Nat) {c : Cp} (h : c.away = true) (C : List Cp) : onF f d (c :: C) = c :: onF f d C := by
 cases d with
 | zero => rw [onF_zero, onF_zero]
 | succ d => rw [onF, if_pos h]
theorem onF_cons (f : Cp → Cp) (d : Nat) {c : Cp} (h : c.away = false) (C : List Cp) : onF f (d + 1) (c :: C) = f c :: onF f d C := by rw [onF, if_neg (by simp [h])]
theorem onB_cons_away {p : Nat × Nat} {c : Cp} (h : c.away = true) (L : List (Nat × Nat)) (C : List Cp) : onB (p :: L) (c :: C) = onB L C := by unfold onB onL; simp [h]
theorem onB_cons {p : Nat × Nat} {c : Cp} (h : c.away = false) (L : List (Nat × Nat)) (C : List Cp) : onB (p :: L) (c :: C) = p.1 :: onB L C := by unfold onB onL; simp [h]
theorem onC_cons_away {c : Cp} (h : c.away = true) (C : List Cp) : onC (c :: C) = onC C := by unfold onC; simp [h]
theorem onC_cons {c : Cp} (h : c.away = false) (C : List Cp) : onC (c :: C) = c :: onC C := by unfold onC; simp [h]
theorem onC_len (C : List Cp) : (onC C).length = reachN C := by unfold onC reachN; rw [List.countP_eq_length_filter]
theorem onB_len {L : List (Nat × Nat)} : ∀ {C : List Cp}, L.length = C.length → (onB L C).length = reachN C := by
 induction L with
 | nil => intro C h; cases C with
  | nil => rfl
  | cons c C => simp at h
 | cons p L ih =>
  intro C h
  cases C with
  | nil => simp at h
  | cons c C =>
   have h' : L.length = C.length := by simpa using h
   unfold reachN
   cases hc : c.away with
   | true => rw [onB_cons_away hc, ih h']; simp [hc, reachN]
   | false => rw [onB_cons hc, List.length_cons, ih h']; simp [hc, reachN]
/-- One of those in reach: where it stands, and what is done on it next. -/
theorem onB_at (f : Cp → Cp) {L : List (Nat × Nat)} : ∀ {C : List Cp} {d b : Nat}, L.length = C.length → (onB L C)[d]? = some b → ∃ i p c, L[i]? = some p ∧ p.1 = b ∧ C[i]? = some c ∧ c.away = false ∧ (onC C)[d]? = some c ∧ (onF f d C)[i]? = some c ∧ onF f (d + 1) C = (onF f d C).set i (f c) := by
 induction L with
 | nil => intro C d b _ h; simp [onB, onL] at h
 | cons p L ih =>
  intro C d b hl h
  cases C with
  | nil => simp at hl
  | cons c C =>
   have hl' : L.length = C.length := by simpa using hl
   cases hc : c.away with
   | true =>
    rw [onB_cons_away hc] at h
    obtain ⟨i, q, c', h1, h2, h3, h4, h5, h6, h7⟩ := ih hl' h
    exact ⟨i + 1, q, c', h1, h2, h3, h4, by rw [onC_cons_away hc]; exact h5, by rw [onF_cons_away f d hc]; exact h6, by rw [onF_cons_away f _ hc, onF_cons_away f d hc, h7]; rfl⟩
   | false =>
    rw [onB_cons hc] at h
    cases d with
    | zero =>
     have h : p.1 = b := by simpa using h
     exact ⟨0, p, c, rfl, h, rfl, hc, by rw [onC_cons hc]; rfl, by rw [onF_zero]; rfl, by rw [onF_cons f 0 hc, onF_zero, onF_zero]; rfl⟩
    | succ d =>
     obtain ⟨i, q, c', h1, h2, h3, h4, h5, h6, h7⟩ := ih (d := d) hl' (by simpa using h)
     refine ⟨i + 1, q, c', h1, h2, h3, h4, by rw [onC_cons hc]; exact h5, by rw [onF_cons f d hc]; exact h6, ?_⟩
     rw [onF_cons f _ hc, h7, onF_cons f d hc]
     rfl
theorem onF_all (f : Cp → Cp) (C : List Cp) : onF f (reachN C) C = onAll f C := by
 induction C with
 | nil => rfl
 | cons c C ih =>
  unfold reachN at *
  unfold onAll at *
  cases hc : c.away with
  | true => rw [List.countP_cons, hc]; simp [onF_cons_away f _ hc, ih, hc]
  | false => rw [List.countP_cons, hc]; simp [onF, hc, ih]
theorem onC_ents (C : List Cp) : (onC C).map (·.ent) = entsOn C := rfl
/-- A mint in memory; R: the blocks that it but reads. -/
structure MinM (W : World) (R : Nat → Prop) (m : Nat) (d : Value) (L : List (Nat × Nat)) (k : Int) (s : Bk) (J : List ByteArray) (out : Bool) : Prop where
 ex : ∃ sb A ca, MintB W m (.slice A L.length ca) k sb d out ∧ Sl W A L.length ca (ptrs (L.map (·.1))) ∧ StR W R sb s ∧ ∀ a, A = some a → R a.block
 own : W.ownsRow 0 9 1 d J.length (strV J)
 ap : ∀ g, d.ownBlock = some g → ¬ R g
 nr : ¬ R m
 lt : ∀ i, R i → i < W.heap.size
/-- The blocks that a mint may write. -/
def footM (m : Nat) (d : Value) (i : Nat) : Prop := i = m ∨ d.ownBlock = some i
theorem own_chsM {S : Nat → Prop} {W W' : World} {base : Nat} {e : TypeId} {size n : Nat} {v : Value} {xs : List Value} (h : W.ownsRow base e size v n xs) (k : Chs S W W') (hs : ∀ g, v.ownBlock = some g → ¬ S g) : W'.ownsRow base e size v n xs := by
 refine ⟨h.1, ?_⟩
 rcases h.2 with h2 | ⟨g, cap, cur, hv, hb, hg, r⟩
 · exact .inl h2
 · exact .inr ⟨g, cap, cur, hv, hb, (k.block g (lt_of_block hg) (hs g (by rw [hv]; rfl))).trans hg, r⟩
section
variable {W W' : World} {R : Nat → Prop} {m : Nat} {d : Value} {L : List (Nat × Nat)} {k : Int} {s : Bk} {J : List ByteArray} {out : Bool}
theorem MinM.chs {S : Nat → Prop} (h : MinM W R m d L k s J out) (c : Chs S W W') (hr : ∀ i, R i → ¬ S i) (hf : ∀ i, footM m d i → ¬ S i) : MinM W' R m d L k s J out := by
 obtain ⟨sb, A, ca, h1, h2, h3, h4⟩ := h.ex
 exact ⟨⟨sb, A, ca, c.blk h1 (hf m (.inl rfl)), h2.chs c (fun a e => hr _ (h4 a e)), h3.chs c hr, h4⟩, own_chsM h.own c (fun g e => hf g (.inr e)), h.ap, h.nr, fun i hi => Nat.lt_of_lt_of_le (h.lt i hi) c.size⟩
theorem MinM.below (h : MinM W R m d L k s J out) (hb : Below W.heap.size W W') : MinM W' R m d L k s J out := h.chs (Chs.of_below (S := fun _ => False) hb) (fun _ _ h => h) fun _ _ h => h
theorem MinM.foot_lt (h : MinM W R m d L k s J out) {i : Nat} (hi : footM m d i) : i < W.heap.size := by
 rcases hi with rfl | hi
 · obtain ⟨sb, A, ca, h1, _⟩ := h.ex
   exact Blk.lt h1
 · exact (h.own.lt i hi).2
end
end
end Go.Proofs.YtnibidmlkbcfkaaGreatDoor
