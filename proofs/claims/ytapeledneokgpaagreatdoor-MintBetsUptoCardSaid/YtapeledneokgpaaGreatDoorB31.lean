/- Texts of this proof, one behind the other; each says its condition at its head. -/
import Derived.Test.YtapeledneokgpaaGreatDoorB21
import Derived.Test.YtapeledneokgpaaGreatDoorB23
/- Plain law of bets' equations: what is solved solves them all. No program in sight. -/
namespace Go.Proofs.YtapeledneokgpaaGreatDoor
open Go.RowKit
/-- The sum of a row with unknowns put in, less its right side; all in twelfths of twelfths. -/
def linS (r : Nat → Int) (x : Nat → Int) : Nat → Int
 | 0 => 0
 | k+1 => linS r x k + r k * x k
def linF (D : Int) (k : Nat) (f : Mx) (x : Nat → Int) (i : Nat) : Int := linS (f i) x k - D * (12 * f i k)
theorem linS_congr {r s x : Nat → Int} : ∀ {k : Nat}, (∀ c, c < k → r c = s c) → linS r x k = linS s x k
 | 0, _ => rfl
 | k+1, h => by
  unfold linS
  rw [linS_congr fun c hc => h c (by omega), h k (by omega)]
theorem linS_neg {r x : Nat → Int} : ∀ {k : Nat}, linS (fun c => - r c) x k = - linS r x k
 | 0 => rfl
 | k+1 => by
  show linS (fun c => - r c) x k + - r k * x k = -(linS r x k + r k * x k)
  rw [linS_neg, Int.neg_mul]
  omega
theorem linS_sub {r s x : Nat → Int} : ∀ {k : Nat}, linS (fun c => r c - s c) x k = linS r x k - linS s x k
 | 0 => rfl
 | k+1 => by
  show linS (fun c => r c - s c) x k + (r k - s k) * x k = (linS r x k + r k * x k) - (linS s x k + s k * x k)
  rw [linS_sub, Int.sub_mul]
  omega
theorem linS_sg {r x : Nat → Int} {b : Int} {k : Nat} : linS (fun c => sg b (r c)) x k = sg b (linS r x k) := by
 unfold sg
 by_cases h : b < 0
 · simp only [if_pos h]; exact linS_neg
 · simp only [if_neg h]
theorem linF_sg {D : Int} {k : Nat} {f g : Mx} {x : Nat → Int} {i j : Nat} {b : Int} (h : ∀ c, g i c = sg b (f j c)) : linF D k g x i = sg b (linF D k f x j) := by
 unfold linF
 rw [linS_congr (s := fun c => sg b (f j c)) fun c _ => h c, linS_sg, h k]
 unfold sg
 split
 · rw [show 12 * -f j k = -(12 * f j k) by omega, Int.mul_neg]; omega
 · rfl
theorem linF_sub {D : Int} {k : Nat} {f g : Mx} {x : Nat → Int} {i j : Nat} {b : Int} (h : ∀ c, g i c = f i c - sg b (f j c)) : linF D k g x i = linF D k f x i - sg b (linF D k f x j) := by
 unfold linF
 rw [linS_congr (s := fun c => f i c - sg b (f j c)) fun c _ => h c, linS_sub, linS_sg, h k]
 unfold sg
 split
 · rw [show 12 * (f i k - -f j k) = 12 * f i k + 12 * f j k by omega, Int.mul_add]; omega
 · rw [show 12 * (f i k - f j k) = 12 * f i k - 12 * f j k by omega, Int.mul_sub]; omega
theorem linF_same {D : Int} {k : Nat} {f g : Mx} {x : Nat → Int} {i j : Nat} (h : ∀ c, g i c = f j c) : linF D k g x i = linF D k f x j := by
 unfold linF
 rw [linS_congr (s := f j) fun c _ => h c, h k]
theorem sg_zero {b y : Int} : sg b y = 0 ↔ y = 0 := by
 unfold sg
 split <;> omega
/-- What solves the settled rows solves the rows. -/
theorem elim_sol {D : Int} {m k j p : Nat} {f : Mx} {x : Nat → Int} (hj : j < m) (hp : p < m) : (∀ i, i < m → linF D k (elimF f j p) x i = 0) ↔ ∀ i, i < m → linF D k f x i = 0 := by
 have hs : ∀ i, linF D k (swapF f j p) x i = if i = j then linF D k f x p else if i = p then linF D k f x j else linF D k f x i := fun i => by
  by_cases e1 : i = j
  · rw [if_pos e1]; exact linF_same fun c => by unfold swapF; rw [if_pos e1]
  · rw [if_neg e1]
    by_cases e2 : i = p
    · rw [if_pos e2]; exact linF_same fun c => by unfold swapF; rw [if_neg e1, if_pos e2]
    · rw [if_neg e2]; exact linF_same fun c => by unfold swapF; rw [if_neg e1, if_neg e2]
 have hd : ∀ i, linF D k (divF (swapF f j p) j) x i = if i = j then sg (swapF f j p j j) (linF D k (swapF f j p) x j) else linF D k (swapF f j p) x i := fun i => by
  by_cases e1 : i = j
  · rw [if_pos e1]; exact linF_sg fun c => by unfold divF; rw [if_pos e1]
  · rw [if_neg e1]; exact linF_same fun c => by unfold divF; rw [if_neg e1]
 have he : ∀ i, linF D k (elimF f j p) x i = if i = j then linF D k (divF (swapF f j p) j) x i else if divF (swapF f j p) j i j = 0 then linF D k (divF (swapF f j p) j) x i else linF D k (divF (swapF f j p) j) x i - sg (divF (swapF f j p) j i j) (linF D k (divF (swapF f j p) j) x j) := fun i => by
  unfold elimF
  by_cases e1 : i = j
  · rw [if_pos e1]; exact linF_same fun c => by unfold subF; rw [if_pos e1]
  · rw [if_neg e1]
    by_cases e2 : divF (swapF f j p) j i j = 0
    · rw [if_pos e2]; exact linF_same fun c => by unfold subF; rw [if_neg e1, if_pos e2]
    · rw [if_neg e2]; exact linF_sub fun c => by unfold subF; rw [if_neg e1, if_neg e2]
 have key : (∀ i, i < m → linF D k (elimF f j p) x i = 0) ↔ ∀ i, i < m → linF D k (divF (swapF f j p) j) x i = 0 := by
  constructor
  · intro h
    have hjj : linF D k (divF (swapF f j p) j) x j = 0 := by have := h j hj; rw [he, if_pos rfl] at this; exact this
    intro i hi
    have := h i hi
    rw [he] at this
    by_cases e1 : i = j
    · rw [if_pos e1] at this; exact this
    · rw [if_neg e1] at this
      by_cases e2 : divF (swapF f j p) j i j = 0
      · rw [if_pos e2] at this; exact this
      · rw [if_neg e2, hjj, sg_zero.2 rfl] at this
        omega
  · intro h i hi
    rw [he, h i hi, h j hj, sg_zero.2 rfl]
    split
    · rfl
    · split <;> rfl
 rw [key]
 have key2 : (∀ i, i < m → linF D k (divF (swapF f j p) j) x i = 0) ↔ ∀ i, i < m → linF D k (swapF f j p) x i = 0 := by
  constructor
  · intro h i hi
    have := h i hi
    rw [hd] at this
    by_cases e1 : i = j
    · rw [if_pos e1] at this
      rw [e1]
      exact sg_zero.1 this
    · rw [if_neg e1] at this; exact this
  · intro h i hi
    rw [hd, h j hj, sg_zero.2 rfl, h i hi]
    split <;> rfl
 rw [key2]
 constructor
 · intro h i hi
   by_cases e1 : i = j
   · have := h p hp
     rw [hs] at this
     by_cases e2 : p = j
     · rw [if_pos e2, e2] at this; rw [e1]; exact this
     · rw [if_neg e2, if_pos rfl] at this; rw [e1]; exact this
   · by_cases e2 : i = p
     · have := h j hj
       rw [hs, if_pos rfl] at this
       rw [e2]; exact this
     · have := h i hi
       rw [hs, if_neg e1, if_neg e2] at this
       exact this
 · intro h i hi
   rw [hs]
   split
   · exact h p hp
   · split
     · exact h j hj
     · exact h i hi
/-- Columns settled. -/
def SetC (m j : Nat) (f : Mx) : Prop := ∀ c, c < j → ∀ i, i < m → f i c = if i = c then 12 else 0
theorem elim_set {m k j p : Nat} {f : Mx} (h : SetC m j f) (hI : EqI m k j f) (hj : j < k) (hk : k ≤ 3) (hp : pivF f m j = some p) : SetC m (j + 1) (elimF f j p) := by
 obtain ⟨hp1, hp2, hp3, _⟩ := pivF_some hp
 have hpv := (hI.step hj hk hp).1
 have hjm : j < m := by omega
 intro c hc i hi
 have hcoef : ∀ i, i < m → f i j = 0 ∨ f i j = 12 ∨ f i j = -12 := fun i hi => hI.c i j hi hj
 have hsw : ∀ i, i < m → swapF f j p i j = 0 ∨ swapF f j p i j = 12 ∨ swapF f j p i j = -12 := fun i hi => by
  unfold swapF
  split
  · exact hcoef p hp2
  · split
    · exact hcoef j hjm
    · exact hcoef i hi
 have hpp : swapF f j p j j = f p j := by unfold swapF; rw [if_pos rfl]
 have hdj : divF (swapF f j p) j j j = 12 := by
  unfold divF
  rw [if_pos rfl, hpp]
  unfold sg
  rcases hpv with e | e <;> rw [e] <;> decide
 by_cases ec : c = j
 · subst ec
   unfold elimF subF
   by_cases e1 : i = c
   · rw [if_pos e1, if_pos e1, e1]; exact hdj
   · rw [if_neg e1, if_neg e1]
     have hdi : divF (swapF f c p) c i c = swapF f c p i c := by unfold divF; rw [if_neg e1]
     rw [hdi, hdj]
     split
     · assumption
     · rename_i hne
       unfold sg
       rcases hsw i hi with e | e | e
       · exact absurd e hne
       · rw [e]; decide
       · rw [e]; decide
 · have hcj : c < j := by omega
   have hsc : ∀ i, i < m → swapF f j p i c = if i = c then 12 else 0 := fun i hi => by
    unfold swapF
    split
    · rename_i e
      rw [h c hcj p hp2, if_neg (by omega), if_neg (by omega)]
    · split
      · rename_i e
        rw [h c hcj j hjm, if_neg (by omega), if_neg (by omega)]
      · exact h c hcj i hi
   have hdc : ∀ i, i < m → divF (swapF f j p) j i c = if i = c then 12 else 0 := fun i hi => by
    unfold divF
    split
    · rename_i e
      rw [hsc j hjm, if_neg (by omega), if_neg (by omega)]
      exact sg_zero.2 rfl
    · exact hsc i hi
   unfold elimF subF
   split
   · exact hdc i hi
   · split
     · exact hdc i hi
     · rw [hdc i hi, hdc j hjm, if_neg (c := j = c) (by omega), sg_zero.2 rfl]
       omega
theorem go_sol {m k : Nat} (hk : k ≤ 3) : ∀ (n j : Nat) (f g : Mx), j + n = k → EqI m k j f → SetC m j f → solveGo m k n j f = some g → SetC m k g ∧ ∀ D x, (∀ i, i < m → linF D k g x i = 0) ↔ ∀ i, i < m → linF D k f x i = 0
 | 0, j, f, g, hjn, _, hs, h => by
  have h : some f = some g := h
  cases h
  obtain rfl : j = k := by omega
  exact ⟨hs, fun D x => Iff.rfl⟩
 | n + 1, j, f, g, hjn, hI, hs, h => by
  unfold solveGo at h
  cases hp : pivF f m j with
  | none => rw [hp] at h; cases h
  | some p =>
   rw [hp] at h
   simp only at h
   split at h
   · cases h
   · have hps := pivF_some hp
     obtain ⟨h1, h2⟩ := go_sol hk n (j + 1) _ g (by omega) (hI.step (by omega) hk hp).2 (elim_set hs hI (by omega) hk hp) h
     exact ⟨h1, fun D x => (h2 D x).trans (elim_sol (by omega) hps.2.1)⟩
/-- A column without a pivot: the rows do not settle it. -/
theorem hom_of {m k j : Nat} {f : Mx} (hs : SetC m j f) (hj : j < k) (hz : ∀ i, j ≤ i → i < m → f i j = 0) : ∃ y : Nat → Int, (∃ c, c < k ∧ y c ≠ 0) ∧ ∀ i, i < m → linF 0 k f y i = 0 := by
 obtain ⟨y, hy⟩ : ∃ y : Nat → Int, y = fun c => if c = j then 12 else if c < j then - f c j else 0 := ⟨_, rfl⟩
 have yj : y j = 12 := by rw [hy]; simp
 have yl : ∀ c, c < j → y c = - f c j := fun c hc => by rw [hy]; simp only; rw [if_neg (by omega), if_pos hc]
 have yg : ∀ c, j < c → y c = 0 := fun c hc => by rw [hy]; simp only; rw [if_neg (by omega), if_neg (by omega)]
 refine ⟨y, ⟨j, hj, by rw [yj]; decide⟩, fun i hi => ?_⟩
 have h1 : ∀ n, n ≤ j → linS (f i) y n = if i < n then 12 * (- f i j) else 0 := fun n => by
  induction n with
  | zero => intro _; rw [if_neg (by omega)]; rfl
  | succ n ih =>
   intro hn
   unfold linS
   rw [ih (by omega), hs n (by omega) i hi, yl n (by omega)]
   by_cases e : i = n
   · subst e; rw [if_neg (by omega), if_pos rfl, if_pos (by omega)]; omega
   · rw [if_neg e, Int.zero_mul]
     by_cases e2 : i < n
     · rw [if_pos e2, if_pos (by omega)]; omega
     · rw [if_neg e2, if_neg (by omega)]; rfl
 have h2 : ∀ n, j < n → linS (f i) y n = 0 := fun n => by
  induction n with
  | zero => intro h; omega
  | succ n ih =>
   intro hn
   unfold linS
   by_cases e : n = j
   · subst e
     rw [h1 n (Nat.le_refl _), yj]
     by_cases e2 : i < n
     · rw [if_pos e2]; omega
     · rw [if_neg e2, hz i (by omega) hi]; rfl
   · rw [ih (by omega), yg n (by omega)]; omega
 unfold linF
 rw [h2 k hj]
 omega
theorem go_none {m k : Nat} (hk : k ≤ 3) : ∀ (n j : Nat) (f : Mx), j + n = k → EqI m k j f → SetC m j f → solveGo m k n j f = none → ∃ y : Nat → Int, (∃ c, c < k ∧ y c ≠ 0) ∧ ∀ i, i < m → linF 0 k f y i = 0
 | 0, j, f, _, _, _, h => by
  have h : some f = none := h
  cases h
 | n + 1, j, f, hjn, hI, hs, h => by
  unfold solveGo at h
  cases hp : pivF f m j with
  | none => exact hom_of hs (by omega) (pivF_none hp)
  | some p =>
   rw [hp] at h
   simp only at h
   have hps := pivF_some hp
   have hset := elim_set hs hI (by omega) hk hp
   have hm : ∀ y, (∀ i, i < m → linF 0 k (elimF f j p) y i = 0) → ∀ i, i < m → linF 0 k f y i = 0 := fun y => (elim_sol (m := m) (j := j) (p := p) (by omega) hps.2.1).1
   split at h
   · rename_i hc
     obtain ⟨y, h1, h2⟩ := hom_of (k := k) hset (by omega) (fun i h1 h2 => absurd h1 (by omega))
     exact ⟨y, h1, hm y h2⟩
   · obtain ⟨y, h1, h2⟩ := go_none hk n (j + 1) _ (by omega) (hI.step (by omega) hk hp).2 hset h
     exact ⟨y, h1, hm y h2⟩
theorem linS_unit {m k : Nat} {g : Mx} (h : SetC m k g) {x : Nat → Int} {i : Nat} (hi : i < m) : ∀ n, n ≤ k → linS (g i) x n = if i < n then 12 * x i else 0
 | 0, _ => by simp [linS]
 | n + 1, hn => by
  unfold linS
  rw [linS_unit h hi n (by omega), h n (by omega) i hi]
  by_cases e : i = n
  · subst e; simp
  · rw [if_neg e, Int.zero_mul]
    by_cases e2 : i < n
    · rw [if_pos e2, if_pos (by omega)]; omega
    · rw [if_neg e2, if_neg (by omega)]; rfl
/-- The solution is the one that solves every row. -/
theorem solve_sol {m k : Nat} {f : Mx} {xs : List Int} (hk : k ≤ 3) (hm : 1 ≤ m) (hI : EqI m k 0 f) (h : solveF m k f = some xs) : xs.length = k ∧ (∀ i, i < m → linF 1 k f (fun c => xs.getD c 0) i = 0) ∧ ∀ (D : Int) (x : Nat → Int), (∀ i, i < m → linF D k f x i = 0) → ∀ c, c < k → x c = D * xs.getD c 0 := by
 have hkm := solveF_le hm h
 unfold solveF at h
 cases hg : solveGo m k k 0 f with
 | none => rw [hg] at h; cases h
 | some g =>
  rw [hg] at h
  simp only at h
  split at h
  · rename_i hz
    cases h
    obtain ⟨hs, hsol⟩ := go_sol hk k 0 f g (by omega) hI (fun c hc => by omega) hg
    have hget : ∀ i, i < k → ((List.range k).map fun i => g i k).getD i 0 = g i k := fun i e => by
     rw [List.getD_eq_getElem?_getD, List.getElem?_map, List.getElem?_range e]
     rfl
    refine ⟨by simp, (hsol 1 _).1 fun i hi => ?_, fun D x hx c hc => ?_⟩
    · unfold linF
      rw [linS_unit hs hi k (Nat.le_refl _)]
      rw [List.all_eq_true] at hz
      have := hz i (List.mem_range.2 hi)
      simp only [Bool.or_eq_true, decide_eq_true_eq] at this
      by_cases e : i < k
      · rw [if_pos e, hget i e]; omega
      · rw [if_neg e]
        rcases this with h1 | h1
        · omega
        · rw [h1]; rfl
    · have := (hsol D x).2 hx c (by omega)
      unfold linF at this
      rw [linS_unit hs (by omega) k (Nat.le_refl _), if_pos hc, Int.mul_left_comm] at this
      rw [hget c hc]
      omega
  · cases h
/-- Where there is no one solution, there is none, or what no row sees. -/
theorem solve_none {m k : Nat} {f : Mx} (hk : k ≤ 3) (hI : EqI m k 0 f) (h : solveF m k f = none) : (∃ y : Nat → Int, (∃ c, c < k ∧ y c ≠ 0) ∧ ∀ i, i < m → linF 0 k f y i = 0) ∨ ∀ (D : Int) (x : Nat → Int), 0 < D → ¬ ∀ i, i < m → linF D k f x i = 0 := by
 unfold solveF at h
 cases hg : solveGo m k k 0 f with
 | none => exact .inl (go_none hk k 0 f (by omega) hI (fun c hc => by omega) hg)
 | some g =>
  rw [hg] at h
  simp only at h
  split at h
  · cases h
  · rename_i hz
    right
    intro D x hD hx
    obtain ⟨hs, hsol⟩ := go_sol hk k 0 f g (by omega) hI (fun c hc => by omega) hg
    have hx2 := (hsol D x).2 hx
    apply hz
    rw [List.all_eq_true]
    intro i hi
    have hi := List.mem_range.1 hi
    by_cases e : i < k
    · simp [e]
    · have := hx2 i hi
      unfold linF at this
      rw [linS_unit hs hi k (Nat.le_refl _), if_neg e] at this
      have h0 : D * (12 * g i k) = 0 := by omega
      rcases Int.mul_eq_zero.1 h0 with h1 | h1
      · omega
      · simp; right; omega
end Go.Proofs.YtapeledneokgpaaGreatDoor
/- Plain law of the corners of bets: each is a belief that agrees with all of them. No program in sight. -/
namespace Go.Proofs.YtapeledneokgpaaGreatDoor
open Go.RowKit
def evE (l : List (Int × Int)) (i : Nat) : Int := if i = 0 then 7 else (l.getD (i - 1) (0, 0)).1
def rtE (l : List (Int × Int)) (i : Nat) : Int := if i = 0 then 12 else (l.getD (i - 1) (0, 0)).2
/-- The chance of an event, in twelfths. -/
def evB (e b0 b1 b2 : Int) : Int := bitV e (0 : Nat) * b0 + bitV e (1 : Nat) * b1 + bitV e (2 : Nat) * b2
theorem row_lin {D : Int} {l : List (Int × Int)} {ws : List Nat} {x : Nat → Int} {i : Nat} : linF D ws.length (eqF l ws) x i = linS (fun c => 12 * bitV (evE l i) (ws.getD c 0 : Nat)) x ws.length - D * (12 * rtE l i) := by
 unfold linF
 rw [linS_congr (s := fun c => 12 * bitV (evE l i) (ws.getD c 0 : Nat)) fun c hc => by unfold eqF evE; rw [if_pos hc]]
 unfold eqF rtE
 rw [if_neg (by omega)]
theorem m12 (a x : Int) : 12 * a * x = 12 * (a * x) := Int.mul_assoc ..
theorem corner_row {l : List (Int × Int)} {s : Nat} {xs : List Int} (h1 : 1 ≤ s) (h8 : s < 8) (hlen : xs.length = (wsOf s).length) (hn : ∀ x ∈ xs, 0 ≤ x) (hr : ∀ i, i < l.length + 1 → linF 1 (wsOf s).length (eqF l (wsOf s)) (fun c => xs.getD c 0) i = 0) :
 ∃ b0 b1 b2, beliefOf (wsOf s) xs = [b0, b1, b2] ∧ 0 ≤ b0 ∧ 0 ≤ b1 ∧ 0 ≤ b2 ∧ ∀ i, i < l.length + 1 → evB (evE l i) b0 b1 b2 = rtE l i := by
 have one : ∀ (v : Nat) (x : Int) (i : Nat), linF 1 [v].length (eqF l [v]) (fun c => [x].getD c 0) i = 12 * bitV (evE l i) (v : Nat) * x - 12 * rtE l i := fun v x i => by
  rw [row_lin]; simp [linS]
 have two : ∀ (v u : Nat) (x y : Int) (i : Nat), linF 1 [v, u].length (eqF l [v, u]) (fun c => [x, y].getD c 0) i = 12 * bitV (evE l i) (v : Nat) * x + 12 * bitV (evE l i) (u : Nat) * y - 12 * rtE l i := fun v u x y i => by
  rw [row_lin]; simp [linS]
 have three : ∀ (v u t : Nat) (x y z : Int) (i : Nat), linF 1 [v, u, t].length (eqF l [v, u, t]) (fun c => [x, y, z].getD c 0) i = 12 * bitV (evE l i) (v : Nat) * x + 12 * bitV (evE l i) (u : Nat) * y + 12 * bitV (evE l i) (t : Nat) * z - 12 * rtE l i := fun v u t x y z i => by
  rw [row_lin]; simp [linS]
 rcases (show s = 1 ∨ s = 2 ∨ s = 3 ∨ s = 4 ∨ s = 5 ∨ s = 6 ∨ s = 7 by omega) with rfl | rfl | rfl | rfl | rfl | rfl | rfl
 · rw [show wsOf 1 = [0] from rfl] at *
   match xs, hlen with
   | [x], _ =>
    refine ⟨x, 0, 0, rfl, hn x (by simp), Int.le_refl _, Int.le_refl _, fun i hi => ?_⟩
    have := hr i hi
    rw [one, m12] at this
    unfold evB
    omega
 · rw [show wsOf 2 = [1] from rfl] at *
   match xs, hlen with
   | [x], _ =>
    refine ⟨0, x, 0, rfl, Int.le_refl _, hn x (by simp), Int.le_refl _, fun i hi => ?_⟩
    have := hr i hi
    rw [one, m12] at this
    unfold evB
    omega
 · rw [show wsOf 3 = [0, 1] from rfl] at *
   match xs, hlen with
   | [x, y], _ =>
    refine ⟨x, y, 0, rfl, hn x (by simp), hn y (by simp), Int.le_refl _, fun i hi => ?_⟩
    have := hr i hi
    rw [two, m12, m12] at this
    unfold evB
    omega
 · rw [show wsOf 4 = [2] from rfl] at *
   match xs, hlen with
   | [x], _ =>
    refine ⟨0, 0, x, rfl, Int.le_refl _, Int.le_refl _, hn x (by simp), fun i hi => ?_⟩
    have := hr i hi
    rw [one, m12] at this
    unfold evB
    omega
 · rw [show wsOf 5 = [0, 2] from rfl] at *
   match xs, hlen with
   | [x, y], _ =>
    refine ⟨x, 0, y, rfl, hn x (by simp), Int.le_refl _, hn y (by simp), fun i hi => ?_⟩
    have := hr i hi
    rw [two, m12, m12] at this
    unfold evB
    omega
 · rw [show wsOf 6 = [1, 2] from rfl] at *
   match xs, hlen with
   | [x, y], _ =>
    refine ⟨0, x, y, rfl, Int.le_refl _, hn x (by simp), hn y (by simp), fun i hi => ?_⟩
    have := hr i hi
    rw [two, m12, m12] at this
    unfold evB
    omega
 · rw [show wsOf 7 = [0, 1, 2] from rfl] at *
   match xs, hlen with
   | [x, y, z], _ =>
    refine ⟨x, y, z, rfl, hn x (by simp), hn y (by simp), hn z (by simp), fun i hi => ?_⟩
    have := hr i hi
    rw [three, m12, m12, m12] at this
    unfold evB
    omega
/-- A belief that agrees with bets, in twelfths. -/
def Agr (l : List (Int × Int)) (b : List Int) : Prop := ∃ b0 b1 b2, b = [b0, b1, b2] ∧ 0 ≤ b0 ∧ 0 ≤ b1 ∧ 0 ≤ b2 ∧ b0 + b1 + b2 = 12 ∧ ∀ u ∈ l, evB u.1 b0 b1 b2 = u.2
theorem evB_seven (b0 b1 b2 : Int) : evB 7 b0 b1 b2 = b0 + b1 + b2 := by
 unfold evB
 rw [bit_seven (by omega), bit_seven (by omega), bit_seven (by omega)]
 omega
theorem corner_agr {l : List (Int × Int)} {s : Nat} {b : List Int} (hl : BetOk l) (h1 : 1 ≤ s) (h8 : s < 8) (h : cornerOf l s = some b) : Agr l b := by
 unfold cornerOf at h
 cases hx : solveF (l.length + 1) (wsOf s).length (eqF l (wsOf s)) with
 | none => rw [hx] at h; cases h
 | some xs =>
  rw [hx] at h
  simp only at h
  split at h
  · cases h
  · rename_i hneg
    cases h
    have hk := wsOf_len ⟨s, h8⟩ h1
    obtain ⟨hlen, hrow, _⟩ := solve_sol hk.2 (by omega) (eqF_inv hl (wsOf_lt s)) hx
    obtain ⟨b0, b1, b2, e, n0, n1, n2, hr⟩ := corner_row (l := l) h1 h8 hlen (fun x hx => by
     rw [Bool.not_eq_true, List.any_eq_false] at hneg
     have := hneg x hx
     simp only [decide_eq_true_eq] at this
     omega) hrow
    refine ⟨b0, b1, b2, e, n0, n1, n2, ?_, fun u hu => ?_⟩
    · have := hr 0 (by omega)
      unfold evE rtE at this
      rw [if_pos rfl, if_pos rfl, evB_seven] at this
      exact this
    · obtain ⟨j, hj⟩ := List.getElem?_of_mem hu
      have hjl := (List.getElem?_eq_some_iff.1 hj).1
      have := hr (j + 1) (by omega)
      unfold evE rtE at this
      rw [if_neg (by omega), if_neg (by omega), Nat.add_sub_cancel, List.getD_eq_getElem?_getD, hj] at this
      exact this
theorem corners_agr {l : List (Int × Int)} (hl : BetOk l) {b : List Int} (h : b ∈ cornersL l) : Agr l b := by
 unfold cornersL cornersTo at h
 rw [List.mem_filterMap] at h
 obtain ⟨s, hs, hb⟩ := h
 rw [List.mem_map] at hs
 obtain ⟨d, hd, rfl⟩ := hs
 have := List.mem_range.1 hd
 exact corner_agr hl (by omega) (by omega) hb
end Go.Proofs.YtapeledneokgpaaGreatDoor
/- Plain law of the prices of an event: they lie between the bounds, and a bet at one of them, and at no other, stays sound. No program in sight. -/
namespace Go.Proofs.YtapeledneokgpaaGreatDoor
open Go.RowKit
def evOf (e : Int) (b : List Int) : Int := evB e (b.getD 0 0) (b.getD 1 0) (b.getD 2 0)
/-- One round of Bounds. -/
def stepB (e : Int) (p : Int × Int) (b : List Int) : Int × Int := if evOf e b < p.1 then (evOf e b, p.2) else if p.2 < evOf e b then (p.1, evOf e b) else p
def bndFrom (e : Int) (p : Int × Int) (cs : List (List Int)) : Int × Int := cs.foldl (stepB e) p
def bndL (e : Int) (cs : List (List Int)) : Int × Int := bndFrom e (evOf e (cs.headD []), evOf e (cs.headD [])) cs
/-- The prices of an event. -/
def priceL (l : List (Int × Int)) (e : Int) : List Nat := (List.range 13).filter fun c => !decide ((c : Int) < (bndL e (cornersL l)).1) && !decide ((bndL e (cornersL l)).2 < (c : Int))
/-- The bets that price looks at: if there is none, one that says nothing. -/
def allB (l : List (Int × Int)) : List (Int × Int) := if l.length = 0 then [(0, 0)] else l
theorem stepB_le {e : Int} {p : Int × Int} {b : List Int} (h : p.1 ≤ p.2) : (stepB e p b).1 ≤ p.1 ∧ p.2 ≤ (stepB e p b).2 ∧ (stepB e p b).1 ≤ evOf e b ∧ evOf e b ≤ (stepB e p b).2 ∧ (stepB e p b).1 ≤ (stepB e p b).2 := by
 unfold stepB
 split
 · simp only; omega
 · split <;> (try simp only) <;> omega
theorem bndFrom_le {e : Int} : ∀ {cs : List (List Int)} {p : Int × Int}, p.1 ≤ p.2 → (bndFrom e p cs).1 ≤ p.1 ∧ p.2 ≤ (bndFrom e p cs).2 ∧ ∀ b ∈ cs, (bndFrom e p cs).1 ≤ evOf e b ∧ evOf e b ≤ (bndFrom e p cs).2
 | [], p, h => ⟨Int.le_refl _, Int.le_refl _, fun b hb => by simp at hb⟩
 | b :: cs, p, h => by
  obtain ⟨s1, s2, s3, s4, s5⟩ := stepB_le (e := e) (b := b) h
  obtain ⟨h1, h2, h3⟩ := bndFrom_le (e := e) (cs := cs) (p := stepB e p b) s5
  have hu : bndFrom e p (b :: cs) = bndFrom e (stepB e p b) cs := rfl
  rw [hu]
  refine ⟨by omega, by omega, fun c hc => ?_⟩
  rcases List.mem_cons.1 hc with rfl | hc
  · exact ⟨by omega, by omega⟩
  · exact h3 c hc
theorem bndFrom_at {e : Int} : ∀ {cs all : List (List Int)} {p : Int × Int}, (∀ b ∈ cs, b ∈ all) → (∃ b ∈ all, p.1 = evOf e b) → (∃ b ∈ all, p.2 = evOf e b) → (∃ b ∈ all, (bndFrom e p cs).1 = evOf e b) ∧ ∃ b ∈ all, (bndFrom e p cs).2 = evOf e b
 | [], all, p, _, h1, h2 => ⟨h1, h2⟩
 | b :: cs, all, p, ha, h1, h2 => by
  have hb := ha b (by simp)
  have hu : bndFrom e p (b :: cs) = bndFrom e (stepB e p b) cs := rfl
  rw [hu]
  refine bndFrom_at (fun c hc => ha c (by simp [hc])) ?_ ?_
  · unfold stepB
    split
    · exact ⟨b, hb, rfl⟩
    · split <;> exact h1
  · unfold stepB
    split
    · exact h2
    · split
      · exact ⟨b, hb, rfl⟩
      · exact h2
theorem bndL_le {e : Int} {cs : List (List Int)} : ∀ b ∈ cs, (bndL e cs).1 ≤ evOf e b ∧ evOf e b ≤ (bndL e cs).2 := (bndFrom_le (Int.le_refl _)).2.2
theorem bndL_at {e : Int} {cs : List (List Int)} (h : cs ≠ []) : (∃ b ∈ cs, (bndL e cs).1 = evOf e b) ∧ ∃ b ∈ cs, (bndL e cs).2 = evOf e b := by
 match cs, h with
 | b :: cs, _ => exact bndFrom_at (fun _ h => h) ⟨b, by simp, rfl⟩ ⟨b, by simp, rfl⟩
theorem evB_bd {e b0 b1 b2 : Int} (h0 : 0 ≤ b0) (h1 : 0 ≤ b1) (h2 : 0 ≤ b2) : 0 ≤ evB e b0 b1 b2 ∧ evB e b0 b1 b2 ≤ b0 + b1 + b2 := by
 unfold evB
 have k : ∀ (v : Nat) (x : Int), 0 ≤ x → 0 ≤ bitV e (v : Nat) * x ∧ bitV e (v : Nat) * x ≤ x := fun v x hx => by
  rcases (show bitV e (v : Nat) = 0 ∨ bitV e (v : Nat) = 1 by have := bitV_bd e (v : Nat); omega) with h | h <;> rw [h] <;> omega
 have k0 := k 0 b0 h0
 have k1 := k 1 b1 h1
 have k2 := k 2 b2 h2
 omega
theorem agr_ev {l : List (Int × Int)} {b : List Int} (h : Agr l b) (e : Int) : 0 ≤ evOf e b ∧ evOf e b ≤ 12 := by
 obtain ⟨b0, b1, b2, rfl, n0, n1, n2, hs, _⟩ := h
 have := evB_bd (e := e) n0 n1 n2
 unfold evOf
 simp only [List.getD_cons_zero, List.getD_cons_succ]
 omega
theorem bnd_ok {l : List (Int × Int)} (hl : BetOk l) (h : cornersL l ≠ []) (e : Int) : 0 ≤ (bndL e (cornersL l)).1 ∧ (bndL e (cornersL l)).1 ≤ (bndL e (cornersL l)).2 ∧ (bndL e (cornersL l)).2 ≤ 12 := by
 obtain ⟨⟨b, hb, e1⟩, ⟨c, hc, e2⟩⟩ := bndL_at (e := e) h
 have h1 := agr_ev (corners_agr hl hb) e
 have h2 := agr_ev (corners_agr hl hc) e
 have h3 := bndL_le (e := e) b hb
 omega
theorem price_mem {l : List (Int × Int)} {e : Int} {c : Nat} : c ∈ priceL l e ↔ c < 13 ∧ (bndL e (cornersL l)).1 ≤ c ∧ (c : Int) ≤ (bndL e (cornersL l)).2 := by
 unfold priceL
 rw [List.mem_filter, List.mem_range]
 simp only [Bool.and_eq_true, Bool.not_eq_true', decide_eq_false_iff_not]
 omega
theorem price_some {l : List (Int × Int)} (hl : BetOk l) (h : cornersL l ≠ []) (e : Int) : priceL l e ≠ [] := by
 have := bnd_ok hl h e
 intro h0
 have h1 : (bndL e (cornersL l)).1.toNat ∈ priceL l e := price_mem.2 (by omega)
 rw [h0] at h1
 simp at h1
theorem allB_ok {l : List (Int × Int)} (h : BetI l) : BetOk (allB l) := by
 unfold allB
 split
 · exact ⟨by decide, by decide, fun u hu => by simp at hu; subst hu; decide, by simp⟩
 · exact h.ok (by omega)
theorem corner_zero : cornersL [(0, 0)] ≠ [] := by decide
end Go.Proofs.YtapeledneokgpaaGreatDoor
/- Walks of belief.of and of less. Condition: chances that are twelfths. -/
namespace Go.Proofs.YtapeledneokgpaaGreatDoor
open Go.RowKit Go.Maps
attribute [local go_sem ↓] shr_v and_shr
def evP (e : Int) (b : List Int) : Nat → Int
 | 0 => 0
 | k + 1 => evP e b k + bitV e (k : Nat) * b.getD k 0
theorem evP_three (e : Int) (b : List Int) : evP e b 3 = evOf e b := by
 show 0 + bitV e (0 : Nat) * b.getD 0 0 + bitV e (1 : Nat) * b.getD 1 0 + bitV e (2 : Nat) * b.getD 2 0 = evOf e b
 rw [Int.zero_add]
 rfl
theorem evP_bd {e : Int} {b : List Int} (hb : ∀ x ∈ b, 0 ≤ x ∧ x ≤ 12) : ∀ k : Nat, 0 ≤ evP e b k ∧ evP e b k ≤ 12 * k
 | 0 => ⟨Int.le_refl _, Int.le_refl _⟩
 | k + 1 => by
  have h1 := evP_bd (e := e) hb k
  have h2 : 0 ≤ b.getD k 0 ∧ b.getD k 0 ≤ 12 := by
   rw [List.getD_eq_getElem?_getD]
   cases h : b[k]? with
   | none => simp
   | some x => exact hb x (List.mem_of_getElem? h)
  show 0 ≤ evP e b k + bitV e (k : Nat) * b.getD k 0 ∧ evP e b k + bitV e (k : Nat) * b.getD k 0 ≤ 12 * ((k + 1 : Nat) : Int)
  rcases (show bitV e (k : Nat) = 0 ∨ bitV e (k : Nat) = 1 by have := bitV_bd e (k : Nat); omega) with h | h <;> rw [h] <;> omega
set_option maxRecDepth 100000 in
set_option maxHeartbeats 4000000 in
theorem ofB (e : Int) (b : List Int) (A : Option Addr) (c : Nat) (w : World) (hs : Sl2 w A 3 c (b.map tw)) (hb : ∀ x ∈ b, 0 ≤ x ∧ x ≤ 12) :
 Calls Tryz.prog 104 #[.slice A 3 c, .int .i64 e] w fun r w' => r = .returned (frV (tw (evOf e b))) ∧ Below w.heap.size w w' := by
 have HS := hid hs
 have HBB := hid hb
 have HBD := hid fun k => evP_bd (e := e) hb k
 have HWH := hid fun W => whole_tw 0 W
 rw [show (12 * 0 : Int) = evP e b 0 from rfl] at HWH
 have H4 := hid (Blk.new w 48 #[.int .i64 0, .int .i64 0])
 have HB4 := hid ((Below.refl w.heap.size w).alloc (Nat.le_refl _) (.cells #[.int .i64 0, .int .i64 0] 48))
 clear hs hb
 rw [← evP_three e b]
 unfold frV at HWH ⊢
 go_enter Tryz.func104, Tryz.ntmps104
 go_wp2_with fail
 refine (HWH.out _).mono ?_; rintro r w1 ⟨rfl, b1⟩
 have H4L := hid (H4.out.keep b1).lt
 have H4 := hid (H4.out.keep b1)
 have HB4 := hid (below_call HB4.out b1 HB4.out.size)
 clear b1 HWH
 have H5 := hid (Blk.new w1 48 #[.int .i64 (tw (evP e b 0)).1, .int .i64 (tw (evP e b 0)).2])
 have H4 := hid (H4.out.alloc (.cells #[.int .i64 (tw (evP e b 0)).1, .int .i64 (tw (evP e b 0)).2] 48))
 have HB5 := hid (HB4.out.alloc HB4.out.size (.cells #[.int .i64 (tw (evP e b 0)).1, .int .i64 (tw (evP e b 0)).2] 48))
 have H45 := hid (show w.heap.size ≠ w1.heap.size from by have := H4L.out; omega)
 have H45L := hid (show w.heap.size ≤ w1.heap.size from HB4.out.size)
 clear HB4
 go_wp2_with fail
 generalize w1.alloc (.cells #[.int .i64 (tw (evP e b 0)).1, .int .i64 (tw (evP e b 0)).2] 48) = W0 at *
 generalize w1.heap.size = b5 at *
 go_loopg [11] 3 (fun gk i wr => ∃ k : Nat, gk + k = 3 ∧ i = .int .i64 k ∧ Hid (Blk wr b5 48 #[.int .i64 (tw (evP e b k)).1, .int .i64 (tw (evP e b k)).2]) ∧ Hid (Blk wr w.heap.size 48 #[.int .i64 0, .int .i64 0]) ∧ Hid (Below w.heap.size w wr))
 case atStart => exact ⟨0, rfl, rfl, H5, H4, HB5⟩
 case round =>
  clear H4 H5 HB5
  obtain ⟨k, hk, rfl, H5, H4, HB⟩ := hrel
  have HK := hid hk
  by_cases hlt : k < 3
  · have HLT := hid hlt
    obtain ⟨g, o, u, rfl, lb, e1, c0, c1⟩ := (HS.out.below HB.out).at hlt
    rw [List.getElem?_map] at e1
    obtain ⟨x, hx, rfl⟩ := Option.map_eq_some_iff.1 e1
    have e2 : o + k * 2 + 1 = o + (k * 2 + 1) := by omega
    rw [← e2] at c1
    have hxb := HBB.out x (List.mem_of_getElem? hx)
    have hev : evP e b (k + 1) = evP e b k + bitV e (k : Nat) * x := by
     show evP e b k + bitV e (k : Nat) * b.getD k 0 = _
     rw [List.getD_eq_getElem?_getD, hx]; rfl
    have hbd := HBD.out k
    have HPL := hid fun W => plus_tw (evP e b k) x 1 (by unfold rg; omega) (by unfold rg; omega) (.inl rfl) W
    unfold frV at HPL
    have fk : Fits (k : Int) := ⟨by omega, by omega⟩
    have hk3 : (k : Int) < 3 := by omega
    have HA5 := hid (H5.out.alloc (.cells #[.int .i64 (tw x).1, .int .i64 (tw x).2] 48))
    have HA4 := hid (H4.out.alloc (.cells #[.int .i64 (tw x).1, .int .i64 (tw x).2] 48))
    have HAB := hid (HB.out.alloc HB.out.size (.cells #[.int .i64 (tw x).1, .int .i64 (tw x).2] 48))
    have HA7 := hid (Blk.new wr 48 #[.int .i64 (tw x).1, .int .i64 (tw x).2])
    have p0 := HA5.out.cell 0
    have p1 := HA5.out.cell 1
    have q0 := HA7.out.cell 0
    have q1 := HA7.out.cell 1
    simp only [List.getElem?_toArray, List.getElem?_cons_zero, List.getElem?_cons_succ] at p0 p1 q0 q1
    clear H4 H5 HB hk e1 hx hxb hbd lb e2
    rcases (show bitV e (k : Nat) = 0 ∨ bitV e (k : Nat) = 1 by have := bitV_bd e (k : Nat); omega) with h | h
    · have hb1 : (bitV e (k : Nat) == 1) = false := by rw [h]; rfl
      have HEV := hid (show evP e b (k + 1) = evP e b k by rw [hev, h]; omega)
      clear h hev HPL
      go_wp2
      go_roundg (gk - 1)
      case measure => have := HK.out; have := HLT.out; omega
      case rel => exact ⟨k + 1, by have := HK.out; have := HLT.out; omega, by go_num, by rw [HEV.out]; exact HA5, HA4, HAB⟩
    · have hb1 : (bitV e (k : Nat) == 1) = true := by rw [h]; rfl
      have HEV := hid (show evP e b (k + 1) = evP e b k + 1 * x by rw [hev, h])
      clear h hev
      generalize evP e b k + 1 * x = z at *
      generalize tw (evP e b k) = P at *
      generalize tw x = X at *
      go_wp2_with fail
      refine (HPL.out _).mono ?_; rintro r w2 ⟨rfl, b2⟩
      have HA5 := hid (HA5.out.keep b2); have HA4 := hid (HA4.out.keep b2); have HAB := hid (below_call HAB.out b2 HAB.out.size)
      have f0 := HA5.out.free 0
      have f1 := HA5.out.free 1
      have r0 := HA5.out.cell 0
      have r1 := HA5.out.cell 1
      simp only [List.getElem?_toArray, List.getElem?_cons_zero, List.getElem?_cons_succ] at r0 r1
      clear HPL b2 p0 p1 q0 q1 HA7
      go_wp2
      go_roundg (gk - 1)
      case measure => have := HK.out; have := HLT.out; omega
      case rel =>
       have hne := H45.out
       have hle := H45L.out
       exact ⟨k + 1, by have := HK.out; have := HLT.out; omega, by go_num, by rw [HEV.out]; exact hid ((HA5.out.set 0 _).set 1 _), hid ((HA4.out.far (p := ⟨b5, 0, none⟩) hne _).far (p := ⟨b5, 1, none⟩) hne _), hid ((HAB.out.setCell (p := ⟨b5, 0, none⟩) hle _).setCell (p := ⟨b5, 1, none⟩) hle _)⟩
  · obtain rfl : k = 3 := by have := HK.out; omega
    have r0 := H5.out.cell 0
    have r1 := H5.out.cell 1
    have f0 := H4.out.free 0
    have f1 := H4.out.free 1
    have s0 := H4.out.cell 0
    have s1 := H4.out.cell 1
    simp only [List.getElem?_toArray, List.getElem?_cons_zero, List.getElem?_cons_succ] at r0 r1 s0 s1
    go_wp2
    exact bodyPost_ret (results_row1 rfl _ _ w.heap.size 48 #[.int .i64 (tw (evP e b 3)).1, .int .i64 (tw (evP e b 3)).2] (0, 0) _ rfl ((H4.out.set 0 _).set 1 _) Tryz.underlying48 rfl (by kernel_rfl)) rfl ⟨rfl, (HB.out.setCell (p := ⟨w.heap.size, 0, none⟩) (Nat.le_refl _) _).setCell (p := ⟨w.heap.size, 1, none⟩) (Nat.le_refl _) _⟩
set_option maxRecDepth 100000 in
set_option maxHeartbeats 2000000 in
theorem lessT (x y : Int) (hx : rg x) (hy : rg y) (hxy : rg (x - y)) (w : World) :
 Calls Tryz.prog 67 #[frV (tw x), frV (tw y)] w fun r w' => r = .returned (.bool (decide (x < y))) ∧ Below w.heap.size w w' := by
 have HP := hid fun W => plus_tw x y (-1) hx hy (.inr rfl) W
 have hd : decide (x < y) = decide ((tw (x + -1 * y)).1 < 0) := by
  rw [show x + -1 * y = x - y by omega, decide_eq_decide, tw_neg hxy]
  omega
 rw [hd]
 unfold frV at HP ⊢
 generalize tw (x + -1 * y) = z at *
 generalize tw x = X at *
 generalize tw y = Y at *
 clear hd hx hy hxy
 have HW := hid (((Below.refl w.heap.size w).alloc (Nat.le_refl _) (.cells #[.int .i64 X.1, .int .i64 X.2] 48)).alloc (by simp) (.cells #[.int .i64 Y.1, .int .i64 Y.2] 48))
 go_enter Tryz.func67, Tryz.ntmps67
 go_wp2_with fail
 refine (HP.out _).mono ?_; rintro r w1 ⟨rfl, b1⟩
 have HB1 := hid (below_call HW.out b1 HW.out.size)
 clear b1 HP HW
 have hfl : ∀ W : World, (Instr.field 48 (.agg #[.int .i64 z.1, .int .i64 z.2]) 0).run Tryz.prog W = .ok (.int .i64 z.1) W := fun W => by kernel_rfl
 go_wp2
 go_ret
 exact ⟨rfl, HB1.out⟩
end Go.Proofs.YtapeledneokgpaaGreatDoor
