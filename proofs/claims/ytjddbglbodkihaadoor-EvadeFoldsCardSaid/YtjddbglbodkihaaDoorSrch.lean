/- Plain law: of sets of k elements out of six, each part of which with an element less lies in none or in two of them, some are a chain without a border; by a search that the kernel runs. No condition. -/
import Derived.Test.YtjddbglbodkihaaDoorHom
namespace Go.Proofs.YtjddbglbodkihaaDoor

/-- The number of elements. -/
def sz (u : Nat) : Nat := (List.range 6).countP fun x => u.testBit x
def cofs (r : Nat) : List Nat := (List.range 6).filterMap fun y => if r.testBit y then none else some (ad r y)
def facesOf (k : Nat) : List Nat := (List.range 64).filter fun u => sz u == k
/-- The borders of a chain that is given as a number. -/
def bmOne (t : Nat) : Nat := (List.range 6).foldl (fun a y => if t.testBit y then a ||| (1 <<< (rm t y)) else a) 0
def bm (Z : Nat) : Nat → Nat
  | 0 => 0
  | t+1 => if Z.testBit t then bm Z t ^^^ bmOne t else bm Z t
def isCyc (Z pos : Nat) : Bool := Z != 0 && (Z &&& pos == Z && bm Z 64 == 0)
def red : List (Nat × Nat × Nat) → Nat → Nat → Nat × Nat
  | [], b, Z => (b, Z)
  | (bb, l, zz) :: r, b, Z => if b.testBit l then red r (b ^^^ bb) (Z ^^^ zz) else red r b Z
def optsOf (pos neg r : Nat) : Option (List Nat) :=
  if (((cofs r).filter fun t => pos.testBit t).length == 1) = true then some ((cofs r).filter fun t => !pos.testBit t && !neg.testBit t) else none
def pick (pos neg : Nat) : List Nat → Option (List Nat)
  | [] => none
  | r :: l => match optsOf pos neg r, pick pos neg l with
    | none, o => o
    | some o, none => some o
    | some o, some p => if o.length ≤ p.length then some o else some p
def tryL (sub : Nat → Nat → Bool) : List Nat → Nat → Bool
  | [], _ => true
  | t :: l, neg => sub t neg && tryL sub l (neg ||| (1 <<< t))
def stepC (search : Nat → Nat → List (Nat × Nat × Nat) → Bool) (pos : Nat) (basis : List (Nat × Nat × Nat)) (t neg : Nat) : Bool :=
  match red basis (bmOne t) (1 <<< t) with
  | (b, Z) => if b == 0 then isCyc Z (pos ||| (1 <<< t)) else search (pos ||| (1 <<< t)) neg (basis ++ [(b, b.log2, Z)])
def search (RL : List Nat) : Nat → Nat → Nat → List (Nat × Nat × Nat) → Bool
  | 0, _, _, _ => false
  | f+1, pos, neg, basis => match pick pos neg RL with
    | none => false
    | some o => tryL (stepC (search RL f) pos basis) o neg
def start (k : Nat) : Bool := tryL (stepC (search (facesOf (k - 1)) 40) 0 []) (facesOf k) 0
theorem starts : start 2 = true ∧ start 3 = true ∧ start 4 = true ∧ start 5 = true ∧ start 6 = true := by decide +kernel

theorem or_bit (p t u : Nat) : (p ||| (1 <<< t)).testBit u = (p.testBit u || decide (t = u)) := ad_bit p t u

/-- Each part lies in none or in two. -/
structure NoFree (RL : List Nat) (T : Nat → Bool) : Prop where
  two : ∀ r ∈ RL, ∀ t ∈ cofs r, T t = true → ∃ t' ∈ cofs r, t' ≠ t ∧ T t' = true
def HasCyc (T : Nat → Bool) : Prop := ∃ Z, Z ≠ 0 ∧ (∀ u, Z.testBit u = true → T u = true) ∧ bm Z 64 = 0
structure Between (T : Nat → Bool) (pos neg : Nat) : Prop where
  inn : ∀ u, pos.testBit u = true → T u = true
  out : ∀ u, neg.testBit u = true → T u = false

theorem pick_some {pos neg : Nat} : ∀ {RL o}, pick pos neg RL = some o → ∃ r ∈ RL, optsOf pos neg r = some o := by
  intro RL
  induction RL with
  | nil => intro o h; cases h
  | cons r l ih =>
    intro o h
    unfold pick at h
    cases h1 : optsOf pos neg r with
    | none =>
      rw [h1] at h
      simp only at h
      obtain ⟨r', hr, e⟩ := ih h
      exact ⟨r', by simp [hr], e⟩
    | some p =>
      rw [h1] at h
      cases h2 : pick pos neg l with
      | none => rw [h2] at h; simp only at h; cases h; exact ⟨r, by simp, h1⟩
      | some q =>
        rw [h2] at h
        simp only at h
        split at h
        · cases h; exact ⟨r, by simp, h1⟩
        · cases h
          obtain ⟨r', hr, e⟩ := ih h2
          exact ⟨r', by simp [hr], e⟩
theorem opts_hit {RL : List Nat} {T : Nat → Bool} {pos neg r : Nat} {o : List Nat} (hr : r ∈ RL) (N : NoFree RL T) (B : Between T pos neg) (h : optsOf pos neg r = some o) : ∃ t ∈ o, T t = true := by
  unfold optsOf at h
  split at h
  · rename_i h1
    cases h
    have h1' := beq_iff_eq.1 h1
    obtain ⟨t, ht⟩ := List.length_eq_one_iff.1 h1'
    have hm : t ∈ (cofs r).filter fun t => pos.testBit t := by rw [ht]; simp
    have hm2 := List.mem_filter.1 hm
    obtain ⟨t', ht', hne, hT⟩ := N.two r hr t hm2.1 (B.inn t (by simpa using hm2.2))
    refine ⟨t', List.mem_filter.2 ⟨ht', ?_⟩, hT⟩
    have hp : pos.testBit t' = false := by
      cases e : pos.testBit t'
      · rfl
      · have : t' ∈ (cofs r).filter fun t => pos.testBit t := List.mem_filter.2 ⟨ht', by simpa using e⟩
        rw [ht] at this
        exact absurd (by simpa using this) hne
    have hn : neg.testBit t' = false := by
      cases e : neg.testBit t'
      · rfl
      · rw [B.out t' e] at hT; cases hT
    simp [hp, hn]
  · cases h
theorem try_hit {T : Nat → Bool} {pos : Nat} {sub : Nat → Nat → Bool} (hsub : ∀ t neg, T t = true → Between T pos neg → sub t neg = true → HasCyc T) :
    ∀ (o : List Nat) (neg : Nat), Between T pos neg → (∃ t ∈ o, T t = true) → tryL sub o neg = true → HasCyc T := by
  intro o
  induction o with
  | nil => intro neg _ h; obtain ⟨t, ht, _⟩ := h; cases ht
  | cons t l ih =>
    intro neg B h hs
    simp only [tryL, Bool.and_eq_true] at hs
    by_cases hT : T t = true
    · exact hsub t neg hT B hs.1
    · refine ih _ ⟨B.inn, fun u hu => ?_⟩ ?_ hs.2
      · rw [or_bit] at hu
        cases e : neg.testBit u
        · rw [e] at hu
          have : t = u := by simpa using hu
          subst this; simpa using hT
        · exact B.out u e
      · obtain ⟨t', ht', hT'⟩ := h
        rcases List.mem_cons.1 ht' with rfl | h'
        · exact absurd hT' hT
        · exact ⟨t', h', hT'⟩
theorem isCyc_has {T : Nat → Bool} {Z pos : Nat} (h : isCyc Z pos = true) (B : ∀ u, pos.testBit u = true → T u = true) : HasCyc T := by
  unfold isCyc at h
  simp only [Bool.and_eq_true, bne_iff_ne, ne_eq, beq_iff_eq] at h
  refine ⟨Z, h.1, fun u hu => B u ?_, h.2.2⟩
  have := h.2.1
  rw [← this, Nat.testBit_and] at hu
  simp only [Bool.and_eq_true] at hu
  exact hu.2
theorem search_has {RL : List Nat} {T : Nat → Bool} (N : NoFree RL T) : ∀ (f pos neg : Nat) (basis : List (Nat × Nat × Nat)), Between T pos neg → search RL f pos neg basis = true → HasCyc T := by
  intro f
  induction f with
  | zero => intro pos neg basis _ h; cases h
  | succ f ih =>
    intro pos neg basis B h
    unfold search at h
    split at h
    · cases h
    · rename_i o ho
      obtain ⟨r, hr, e⟩ := pick_some ho
      refine try_hit (pos := pos) ?_ o neg B (opts_hit hr N B e) h
      intro t neg' hT B' hs
      unfold stepC at hs
      split at hs
      rename_i b Z hred
      have hin : ∀ u, (pos ||| (1 <<< t)).testBit u = true → T u = true := by
        intro u hu
        rw [or_bit] at hu
        cases e : pos.testBit u
        · rw [e] at hu
          have : t = u := by simpa using hu
          subst this; exact hT
        · exact B'.inn u e
      split at hs
      · exact isCyc_has hs hin
      · exact ih _ _ _ ⟨hin, B'.out⟩ hs
theorem start_has {k : Nat} (h : start k = true) {T : Nat → Bool} (N : NoFree (facesOf (k - 1)) T) (hex : ∃ t ∈ facesOf k, T t = true) : HasCyc T := by
  unfold start at h
  refine try_hit (pos := 0) ?_ (facesOf k) 0 ⟨fun u hu => by simp at hu, fun u hu => by simp at hu⟩ hex h
  intro t neg' hT B' hs
  unfold stepC at hs
  split at hs
  rename_i b Z hred
  have hin : ∀ u, (0 ||| (1 <<< t)).testBit u = true → T u = true := by
    intro u hu
    rw [or_bit] at hu
    have : t = u := by simpa using hu
    subst this; exact hT
  split at hs
  · exact isCyc_has hs hin
  · exact search_has N _ _ _ _ ⟨hin, B'.out⟩ hs

/-- A chain as a number: its border. -/
theorem bm_bit (Z u : Nat) : ∀ n : Nat, (bm Z n).testBit u = xs n fun t => Z.testBit t && (bmOne t).testBit u
  | 0 => by simp [bm, xs]
  | n+1 => by
    simp only [bm, xs]
    cases h : Z.testBit n
    · simp [bm_bit Z u n]
    · simp [Nat.testBit_xor, bm_bit Z u n]
theorem bmOne_all : ∀ t : Fin 64, ∀ u : Fin 64, (bmOne t).testBit u = bd (one t) u := by decide +kernel
theorem bd_lin (G : Nat → Nat → Bool) (Z : Nat) (u : Nat) : ∀ n : Nat, bd (fun v => xs n fun t => Z.testBit t && G t v) u = xs n fun t => Z.testBit t && bd (G t) u
  | 0 => by simp [xs, bd, ex]
  | n+1 => by
    simp only [xs]
    rw [bd_xor, bd_lin G Z u n]
    congr 1
    unfold bd
    rw [← xs_and]
    apply xs_congr
    intro x _
    simp only [ex]
    cases u.testBit x <;> simp
theorem cyc_of {Z : Nat} (hZ : ∀ u, Z.testBit u = true → u < 64) (h : bm Z 64 = 0) : Cyc fun u => Z.testBit u := by
  intro u
  have hz : (fun v => Z.testBit v) = fun v => xs 64 fun t => Z.testBit t && one t v := by
    funext v
    by_cases hv : v < 64
    · rw [xs_one (k := v) hv]
      · simp [one]
      · intro t _ hne
        have : one t v = false := by simp [one]; exact fun e => hne e.symm
        simp [this]
    · rw [xs_zero]
      · cases e : Z.testBit v
        · rfl
        · exact absurd (hZ v e) hv
      · intro t ht
        have : one t v = false := by simp [one]; omega
        simp [this]
  rw [hz, bd_lin]
  by_cases hu : u < 64
  · have h1 := bm_bit Z u 64
    rw [h, Nat.zero_testBit] at h1
    rw [h1]
    apply xs_congr
    intro t ht
    rw [bmOne_all ⟨t, ht⟩ ⟨u, hu⟩]
  · apply xs_zero
    intro t ht
    have : bd (one t) u = false := by
      cases e : bd (one t) u
      · rfl
      · obtain ⟨x, _, _, e2⟩ := bd_one_sub e
        have : u ≤ ad u x := Nat.left_le_or
        omega
    simp [this]
end Go.Proofs.YtjddbglbodkihaaDoor
