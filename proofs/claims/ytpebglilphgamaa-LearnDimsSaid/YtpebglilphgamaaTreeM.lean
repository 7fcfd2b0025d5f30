/- The plain law of trees: what grow makes fits, both looks at a tree are the same, and a tree tells of the dimension. No condition. -/
import Derived.Test.YtpebglilphgamaaDimM
namespace Go.Proofs.Ytpebglilphgamaa

/-- The least point at which both parts have at least the dimension d. -/
def ptFrom (p : Nat) (xs : List Int) (d : Int) : Nat → Nat → Nat
  | 0, k => k
  | m+1, k => if d ≤ dim2L p xs k then k else ptFrom p xs d m (k + 1)
def ptL (p : Nat) (xs : List Int) (d : Int) : Nat := ptFrom p xs d p 0
theorem ptFrom_eq {p : Nat} {xs : List Int} {d : Int} {r : Nat} (hr : d ≤ dim2L p xs r) : ∀ m k, k ≤ r → r ≤ k + m → (∀ j, k ≤ j → j < r → dim2L p xs j < d) → ptFrom p xs d m k = r := by
  intro m
  induction m with
  | zero => intro k h1 h2 _; simp only [ptFrom]; omega
  | succ m ih =>
    intro k h1 h2 h3
    simp only [ptFrom]
    by_cases e : k = r
    · subst e; rw [if_pos hr]
    · rw [if_neg (by have := h3 k (by omega) (by omega); omega)]
      exact ih (k + 1) (by omega) (by omega) fun j h4 h5 => h3 j (by omega) h5
theorem ptL_eq {p : Nat} {xs : List Int} {d : Int} {r : Nat} (hr : d ≤ dim2L p xs r) (hp : r < p) (h : ∀ j : Nat, j < r → dim2L p xs j < d) : ptL p xs d = r :=
  ptFrom_eq hr p 0 (by omega) (by omega) fun j _ hj => h j hj
theorem least_pt {p : Nat} {xs : List Int} {d : Int} : ∀ m : Nat, (∃ x : Nat, x < m ∧ d ≤ dim2L p xs x) → ∃ r : Nat, r < m ∧ d ≤ dim2L p xs r ∧ ∀ j : Nat, j < r → dim2L p xs j < d := by
  intro m
  induction m with
  | zero => rintro ⟨x, hx, _⟩; omega
  | succ m ih =>
    rintro ⟨x, hx, hd⟩
    by_cases h : ∃ x : Nat, x < m ∧ d ≤ dim2L p xs x
    · obtain ⟨r, a, b, c⟩ := ih h
      exact ⟨r, by omega, b, c⟩
    · have e : x = m := by
        by_cases e : x = m
        · exact e
        · exact absurd ⟨x, by omega, hd⟩ h
      subst e
      refine ⟨x, by omega, hd, fun j hj => ?_⟩
      rcases Int.lt_or_le (dim2L p xs j) d with g | g
      · exact g
      · exact absurd ⟨j, hj, g⟩ h
theorem ptL_spec {p : Nat} {xs : List Int} {d : Nat} (h : (d : Int) + 1 ≤ dimL p xs) : ptL p xs d < p ∧ (d : Int) ≤ dim2L p xs (ptL p xs d) ∧ ∀ j : Nat, j < ptL p xs d → dim2L p xs j < d := by
  obtain ⟨x, hx, hd⟩ := dimL_at (p := p) (xs := xs) (d := (dimL p xs).toNat - 1) (by omega)
  obtain ⟨r, a, b, c⟩ := least_pt (p := p) (xs := xs) (d := d) p ⟨x, hx, by omega⟩
  rw [ptL_eq b a c]
  exact ⟨a, b, c⟩

/-- A node: its point, and where it goes on. -/
structure Nd where
  pt : Int
  zero : Int
  one : Int
def rootI (d : Nat) (r : Int) : Int := if d = 0 then -1 else r
/-- The nodes that grow appends. -/
def growL (p : Nat) : Nat → Int → List Int → List Nd
  | 0, _, _ => []
  | d+1, r, xs => ⟨ptL p xs d, rootI d (r + 1), rootI d (r + 2 ^ d)⟩ :: (growL p d (r + 1) (split xs (ptL p xs d) false) ++ growL p d (r + 2 ^ d) (split xs (ptL p xs d) true))
theorem growL_len (p : Nat) : ∀ d r xs, (growL p d r xs).length + 1 = 2 ^ d := by
  intro d
  induction d with
  | zero => intro _ _; rfl
  | succ d ih =>
    intro r xs
    simp only [growL, List.length_cons, List.length_append]
    have h1 := ih (r + 1) (split xs (ptL p xs d) false)
    have h2 := ih (r + 2 ^ d) (split xs (ptL p xs d) true)
    rw [Nat.pow_succ]; omega

def updB (f : Nat → Bool) (i : Nat) : Nat → Bool := fun j => if j = i then true else f j
/-- Where a tree may not go on from a node. -/
def badNext (ts : List Nd) (d : Nat) (r next : Int) : Bool := if d = 0 then next != -1 else decide (next ≤ r) || decide ((ts.length : Int) ≤ next)
def nd (ts : List Nd) (r : Int) : Nd := ts.getD r.toNat ⟨0, 0, 0⟩
/-- The reference's look at a tree, with the nodes that were met. -/
def fitsL (p : Nat) (ts : List Nd) : Nat → Int → List Int → (Nat → Bool) → Option (Nat → Bool)
  | 0, _, xs, met => if xs = [] then none else some met
  | d+1, r, xs, met =>
    if met r.toNat = true ∨ (nd ts r).pt < 0 ∨ (p : Int) ≤ (nd ts r).pt then none
    else if badNext ts d r (nd ts r).zero = true then none
    else (fitsL p ts d (nd ts r).zero (split xs (nd ts r).pt false) (updB met r.toNat)).bind fun m =>
      if badNext ts d r (nd ts r).one = true then none else fitsL p ts d (nd ts r).one (split xs (nd ts r).pt true) m
/-- The program's. -/
def treeL (p : Nat) (ts : List Nd) : Nat → Int → List Int → (Nat → Bool) → Option (Nat → Bool)
  | 0, r, xs, told => if r = -1 ∧ xs ≠ [] then some told else none
  | d+1, r, xs, told =>
    if r < 0 ∨ (ts.length : Int) ≤ r ∨ told r.toNat = true then none
    else if (nd ts r).pt < 0 ∨ (p : Int) ≤ (nd ts r).pt ∨ (0 < d ∧ min (nd ts r).zero (nd ts r).one ≤ r) then none
    else (treeL p ts d (nd ts r).zero (split xs (nd ts r).pt false) (updB told r.toNat)).bind fun m =>
      treeL p ts d (nd ts r).one (split xs (nd ts r).pt true) m
theorem treeL_zero_bad {p : Nat} {ts : List Nd} {r : Int} {xs : List Int} {m : Nat → Bool} (h : r ≠ -1) : treeL p ts 0 r xs m = none := by
  simp [treeL, h]
theorem treeL_out {p : Nat} {ts : List Nd} {d : Nat} {r : Int} {xs : List Int} {m : Nat → Bool} (h : (ts.length : Int) ≤ r) : treeL p ts (d + 1) r xs m = none := by
  simp only [treeL]
  rw [if_pos (.inr (.inl h))]
theorem bind_none {α β : Type} (o : Option α) : (o.bind fun _ => (none : Option β)) = none := by cases o <;> rfl
theorem tree_fits (p : Nat) (ts : List Nd) : ∀ (d : Nat) (r : Int) (xs : List Int) (met : Nat → Bool), (if d = 0 then r = -1 else 0 ≤ r ∧ r < ts.length) → treeL p ts d r xs met = fitsL p ts d r xs met := by
  intro d
  induction d with
  | zero =>
    intro r xs met h
    rw [if_pos rfl] at h
    subst h
    simp only [treeL, fitsL]
    by_cases e : xs = [] <;> simp [e]
  | succ d ih =>
    intro r xs met h
    rw [if_neg (by omega)] at h
    simp only [treeL, fitsL]
    by_cases h1 : met r.toNat = true
    · rw [if_pos (.inr (.inr h1)), if_pos (.inl h1)]
    · rw [if_neg (by rintro (a | a | a) <;> first | omega | exact h1 a)]
      by_cases h2 : (nd ts r).pt < 0 ∨ (p : Int) ≤ (nd ts r).pt
      · rw [if_pos (by rcases h2 with a | a; exact .inl a; exact .inr (.inl a)), if_pos (.inr h2)]
      · rw [if_neg (show ¬ (met r.toNat = true ∨ (nd ts r).pt < 0 ∨ (p : Int) ≤ (nd ts r).pt) from fun a => a.elim h1 h2)]
        have hn : ∀ next xs m, (if badNext ts d r next = true then none else fitsL p ts d next xs m) = (if 0 < d ∧ next ≤ r then none else treeL p ts d next xs m) := by
          intro next xs m
          unfold badNext
          cases d with
          | zero =>
            simp only [if_pos, Nat.lt_irrefl, false_and, if_false]
            by_cases e : next = -1
            · subst e
              rw [if_neg (by simp)]
              exact (ih (-1) xs m (by simp)).symm
            · rw [if_pos (by simpa using e), treeL_zero_bad e]
          | succ d =>
            simp only [Nat.add_eq_zero_iff, Nat.one_ne_zero, and_false, if_false, Nat.zero_lt_succ, true_and]
            by_cases a : next ≤ r
            · rw [if_pos (by simp [a]), if_pos a]
            · rw [if_neg a]
              by_cases b : (ts.length : Int) ≤ next
              · rw [if_pos (by simp [b]), treeL_out b]
              · rw [if_neg (by simp [a, b])]
                exact (ih next xs m (by rw [if_neg (by omega)]; omega)).symm
        have e1 : (if badNext ts d r (nd ts r).zero = true then none
            else (fitsL p ts d (nd ts r).zero (split xs (nd ts r).pt false) (updB met r.toNat)).bind fun m => if badNext ts d r (nd ts r).one = true then none else fitsL p ts d (nd ts r).one (split xs (nd ts r).pt true) m)
          = (if badNext ts d r (nd ts r).zero = true then none else fitsL p ts d (nd ts r).zero (split xs (nd ts r).pt false) (updB met r.toNat)).bind fun m => if badNext ts d r (nd ts r).one = true then none else fitsL p ts d (nd ts r).one (split xs (nd ts r).pt true) m := by
          split <;> rfl
        rw [e1, hn]
        have e2 : (fun m => if badNext ts d r (nd ts r).one = true then none else fitsL p ts d (nd ts r).one (split xs (nd ts r).pt true) m) = fun m => if 0 < d ∧ (nd ts r).one ≤ r then none else treeL p ts d (nd ts r).one (split xs (nd ts r).pt true) m := by
          funext m; exact hn _ _ m
        rw [e2]
        by_cases h3 : 0 < d ∧ min (nd ts r).zero (nd ts r).one ≤ r
        · rw [if_pos (.inr (.inr h3))]
          by_cases h4 : (nd ts r).zero ≤ r
          · rw [if_pos ⟨h3.1, h4⟩]; rfl
          · have h5 : (nd ts r).one ≤ r := by omega
            have e3 : (fun m => if 0 < d ∧ (nd ts r).one ≤ r then none else treeL p ts d (nd ts r).one (split xs (nd ts r).pt true) m) = fun _ => none := by
              funext m; rw [if_pos ⟨h3.1, h5⟩]
            rw [e3, bind_none]
        · rw [if_neg (by rintro (a | a | a); exact h2 (.inl a); exact h2 (.inr a); exact h3 a)]
          rw [if_neg (by rintro ⟨a, b⟩; exact h3 ⟨a, by omega⟩)]
          have e3 : (fun m => if 0 < d ∧ (nd ts r).one ≤ r then none else treeL p ts d (nd ts r).one (split xs (nd ts r).pt true) m) = fun m => treeL p ts d (nd ts r).one (split xs (nd ts r).pt true) m := by
            funext m; rw [if_neg (by rintro ⟨a, b⟩; exact h3 ⟨a, by omega⟩)]
          rw [e3]
/-- A tree tells of the dimension. -/
theorem fits_dim {p : Nat} {ts : List Nd} : ∀ (d : Nat) (r : Int) (xs : List Int) (met m : Nat → Bool), fitsL p ts d r xs met = some m → (d : Int) ≤ dimL p xs := by
  intro d
  induction d with
  | zero =>
    intro r xs met m h
    simp only [fitsL] at h
    split at h
    · cases h
    · rename_i hx
      exact dimL_nonneg hx
  | succ d ih =>
    intro r xs met m h
    simp only [fitsL] at h
    split at h
    · cases h
    rename_i h1
    split at h
    · cases h
    obtain ⟨m1, a, b⟩ := Option.bind_eq_some_iff.1 h
    split at b
    · cases b
    have i0 := ih _ _ _ _ a
    have i1 := ih _ _ _ _ b
    have hpt : 0 ≤ (nd ts r).pt ∧ (nd ts r).pt < p := by omega
    obtain ⟨x, hx⟩ := Int.eq_ofNat_of_zero_le hpt.1
    rw [hx] at i0 i1 hpt
    have n0 : split xs x false ≠ [] := by intro e; rw [e, dimL_nil] at i0; omega
    have n1 : split xs x true ≠ [] := by intro e; rw [e, dimL_nil] at i1; omega
    have := dimL_up (p := p) (x := x) (by omega) n0 n1
    omega
/-- What grow makes lies in a list of nodes from a place on. -/
def Lies (ts : List Nd) (r : Nat) (l : List Nd) : Prop := ∀ j u, l[j]? = some u → ts[r + j]? = some u
theorem Lies.head {ts l : List Nd} {r : Nat} {u : Nd} (h : Lies ts r (u :: l)) : ts[r]? = some u := h 0 u rfl
theorem Lies.tail {ts l : List Nd} {r : Nat} {u : Nd} (h : Lies ts r (u :: l)) : Lies ts (r + 1) l := fun j v hv => by
  have := h (j + 1) v (by simpa using hv)
  have e : r + (j + 1) = r + 1 + j := by omega
  rwa [e] at this
theorem Lies.left {ts l m : List Nd} {r : Nat} (h : Lies ts r (l ++ m)) : Lies ts r l := fun j v hv => h j v (by
  have := (List.getElem?_eq_some_iff.1 hv).1
  rw [List.getElem?_append_left this]; exact hv)
theorem Lies.right {ts l m : List Nd} {r : Nat} (h : Lies ts r (l ++ m)) : Lies ts (r + l.length) m := fun j v hv => by
  have := h (l.length + j) v (by rw [List.getElem?_append_right (by omega)]; simpa using hv)
  have e : r + (l.length + j) = r + l.length + j := by omega
  rwa [e] at this
theorem nd_of {ts : List Nd} {r : Nat} {u : Nd} (h : ts[r]? = some u) : nd ts (r : Int) = u := by simp [nd, h]
/-- What is met behind a tree: all of its nodes. -/
def metR (met : Nat → Bool) (r n : Nat) : Nat → Bool := fun j => met j || (decide (r ≤ j) && decide (j < r + n))
theorem grow_fits (p : Nat) (ts : List Nd) : ∀ (d r : Nat) (xs : List Int) (met : Nat → Bool), (d : Int) ≤ dimL p xs → Lies ts r (growL p d r xs) → (∀ j, r ≤ j → j < r + (2 ^ d - 1) → met j = false) →
    fitsL p ts d (rootI d r) xs met = some (metR met r (2 ^ d - 1)) := by
  intro d
  induction d with
  | zero =>
    intro r xs met hd _ _
    have hx : xs ≠ [] := by rintro rfl; rw [dimL_nil] at hd; omega
    simp only [fitsL, if_neg hx]
    congr 1
    funext j
    unfold metR
    simp only [Nat.pow_zero, Nat.sub_self, Nat.add_zero]
    by_cases h : r ≤ j
    · have h2 : ¬ j < r := by omega
      simp [h2]
    · simp [h]
  | succ d ih =>
    intro r xs met hd hl hm
    obtain ⟨x1, x2, -⟩ := ptL_spec (p := p) (xs := xs) (d := d) (by omega)
    obtain ⟨x, hx⟩ : ∃ x, ptL p xs d = x := ⟨_, rfl⟩
    simp only [growL] at hl
    rw [hx] at x1 x2 hl
    have hnd := nd_of hl.head
    have hL := hl.tail.left
    have hR := hl.tail.right
    have hlen := growL_len p d ((r : Int) + 1) (split xs x false)
    have hpos := Nat.two_pow_pos d
    have eR : r + 1 + (growL p d ((r : Int) + 1) (split xs x false)).length = r + 2 ^ d := by omega
    rw [eR] at hR
    have c1 : ((r : Int) + 1) = ((r + 1 : Nat) : Int) := by omega
    have c2 : ((r : Int) + 2 ^ d) = ((r + 2 ^ d : Nat) : Int) := by simp
    rw [c1] at hL
    rw [c2] at hR
    have hdd : dim2L p xs x ≠ -1 := by omega
    rcases dim2L_or p xs x with e | ⟨n0, n1, e⟩
    · exact absurd e hdd
    have hge : ∀ (k : Nat), r < k ∨ d = 0 → badNext ts d r (rootI d k) = false ∨ (ts.length : Int) ≤ k := by
      intro k hk
      unfold badNext rootI
      by_cases h0 : d = 0
      · simp [h0]
      · rw [if_neg h0, if_neg h0]
        by_cases hb : (ts.length : Int) ≤ k
        · exact .inr hb
        · left
          have : ¬ ((k : Int) ≤ r) := by omega
          simp [this, hb]
    have hin : ∀ (k : Nat) (l : List Nd), Lies ts k l → l ≠ [] → ¬ (ts.length : Int) ≤ k := by
      intro k l hll hne
      cases l with
      | nil => exact absurd rfl hne
      | cons u l =>
        have := (List.getElem?_eq_some_iff.1 hll.head).1
        omega
    have hbad : ∀ (k : Nat) ys, r < k → Lies ts k (growL p d k ys) → badNext ts d r (rootI d k) = false := by
      intro k ys hk hll
      by_cases h0 : d = 0
      · unfold badNext rootI; simp [h0]
      · rcases hge k (.inl hk) with a | a
        · exact a
        · exfalso
          refine hin k _ hll ?_ a
          intro e2
          have hgl := growL_len p d k ys
          rw [e2] at hgl
          have h2 := Nat.pow_le_pow_right (show 0 < 2 by decide) (show 1 ≤ d by omega)
          simp at hgl
          omega
    have hr0 : rootI (d + 1) (r : Int) = r := by simp [rootI]
    have hm0 : met r = false := hm r (Nat.le_refl _) (by rw [Nat.pow_succ]; omega)
    simp only [fitsL]
    rw [hr0, hnd]
    simp only [Int.toNat_natCast]
    rw [if_neg (by rw [hm0]; simp; omega)]
    rw [c1, c2]
    have hb0 := hbad (r + 1) _ (by omega) hL
    have hb1 := hbad (r + 2 ^ d) _ (by omega) hR
    rw [hb0, hb1, if_neg (by decide)]
    have f0 := ih (r + 1) (split xs x false) (updB met r) (by omega) hL (fun j a b => by
      unfold updB
      rw [if_neg (by omega)]
      exact hm j (by omega) (by rw [Nat.pow_succ]; omega))
    rw [f0, Option.bind_some, if_neg (by decide)]
    have f1 := ih (r + 2 ^ d) (split xs x true) (metR (updB met r) (r + 1) (2 ^ d - 1)) (by omega) hR (fun j a b => by
      unfold metR updB
      rw [if_neg (by omega), hm j (by omega) (by rw [Nat.pow_succ]; omega)]
      have : ¬ j < r + 1 + (2 ^ d - 1) := by omega
      simp [this])
    rw [f1]
    congr 1
    funext j
    unfold metR updB
    rw [Bool.eq_iff_iff]
    simp only [Bool.or_eq_true, Bool.and_eq_true, decide_eq_true_eq]
    rw [Nat.pow_succ]
    by_cases e : j = r
    · subst e
      simp
      omega
    · rw [if_neg e]
      constructor
      · rintro ((a | ⟨a, b⟩) | ⟨a, b⟩)
        · exact .inl a
        · right; omega
        · right; omega
      · rintro (a | ⟨a, b⟩)
        · exact .inl (.inl a)
        · by_cases g : j < r + 2 ^ d
          · left; right; omega
          · right; omega
/-- Along a tree that fits: from each node, whatever is said, there is a next one, and in the end a concept. -/
theorem fits_node {p : Nat} {ts : List Nd} {d : Nat} {r : Int} {xs : List Int} {met m : Nat → Bool} (h : fitsL p ts (d + 1) r xs met = some m) :
    0 ≤ (nd ts r).pt ∧ (nd ts r).pt < p ∧ ∀ y : Bool, (if d = 0 then True else r < (if y then (nd ts r).one else (nd ts r).zero) ∧ (if y then (nd ts r).one else (nd ts r).zero) < ts.length) ∧
      ∃ met' m', fitsL p ts d (if y then (nd ts r).one else (nd ts r).zero) (split xs (nd ts r).pt y) met' = some m' := by
  simp only [fitsL] at h
  split at h
  · cases h
  rename_i h1
  split at h
  · cases h
  rename_i h2
  obtain ⟨m1, a, b⟩ := Option.bind_eq_some_iff.1 h
  split at b
  · cases b
  rename_i h3
  have hb : ∀ next : Int, ¬ badNext ts d r next = true → if d = 0 then True else r < next ∧ next < ts.length := by
    intro next hn
    unfold badNext at hn
    by_cases h0 : d = 0
    · rw [if_pos h0]; trivial
    · rw [if_neg h0] at hn ⊢
      simp at hn
      omega
  refine ⟨by omega, by omega, fun y => ?_⟩
  cases y with
  | false => exact ⟨by simpa using hb _ h2, _, _, by simpa using a⟩
  | true => exact ⟨by simpa using hb _ h3, _, _, by simpa using b⟩
end Go.Proofs.Ytpebglilphgamaa
