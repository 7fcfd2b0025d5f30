/- The plain law of going through the questions in order. Condition: a question for a state. -/
import Derived.Test.YtdclmhmdkhpekaaRefG
namespace Go.Proofs.Ytdclmhmdkhpekaa

def fl (n : Nat) (f : Nat → Int) : List Int := (List.range n).map f
theorem fl_len (n : Nat) (f : Nat → Int) : (fl n f).length = n := by simp [fl]
theorem fl_at {n : Nat} {f : Nat → Int} {j : Nat} (h : j < n) : at0 (fl n f) j = f j := by simp [fl, at0, List.getD, h]
theorem fl_arr (n : Nat) (f : Nat → Int) : (arr n f).toList = (fl n f).map (Value.int .i64) := by simp [arr, fl, List.map_map, Function.comp_def]
/-- A question for xs, as numbers by their places. -/
def Ok (n : Nat) (xs : List Int) (f : Nat → Int) : Prop := ∀ j, j < n → 0 ≤ f j ∧ f j ≤ at0 xs j
theorem Ok.ask {n : Nat} {xs : List Int} {f : Nat → Int} (h : Ok n xs f) (hl : xs.length = n) : askOk xs (fl n f) = true := askOk_iff.2 ⟨by rw [fl_len, hl], fun j hj => by
  rw [fl_len] at hj
  rw [fl_at hj]
  exact h j hj⟩
def Lx (n : Nat) (s : List Int) (f : Nat → Int) : Prop := ∃ d, d < n ∧ (∀ j, j < d → at0 s j = f j) ∧ at0 s d < f d
/-- None that is before f is good. -/
def Before (n : Nat) (xs : List Int) (good : List Int → Bool) (f : Nat → Int) : Prop := ∀ s, askOk xs s = true → Lx n s f → good s = false
theorem first_diff (s : List Int) (f : Nat → Int) : ∀ n, (∀ j, j < n → at0 s j = f j) ∨ ∃ d, d < n ∧ (∀ j, j < d → at0 s j = f j) ∧ at0 s d ≠ f d := by
  intro n
  induction n with
  | zero => exact .inl fun j hj => absurd hj (by omega)
  | succ n ih =>
    rcases ih with h | ⟨d, hd, h1, h2⟩
    · by_cases e : at0 s n = f n
      · exact .inl fun j hj => by
          by_cases ej : j = n
          · subst ej; exact e
          · exact h j (by omega)
      · exact .inr ⟨n, by omega, h, e⟩
    · exact .inr ⟨d, by omega, h1, h2⟩
theorem eq_fl {n : Nat} {s : List Int} {f : Nat → Int} (hl : s.length = n) (h : ∀ j, j < n → at0 s j = f j) : s = fl n f := by
  apply List.ext_getElem (by rw [hl, fl_len])
  intro j hj hj'
  have h1 := h j (by omega)
  have h2 := fl_at (f := f) (show j < n by omega)
  rw [← h2] at h1
  simpa [at0, hj, hj'] using h1
section
variable {n : Nat} {xs : List Int} {good : List Int → Bool} {f f' : Nat → Int}
theorem before_zero : Before n xs good (fun _ => 0) := fun s hs ⟨d, hd, _, h⟩ => by
  replace h : at0 s d < 0 := h
  have hi := askOk_iff.1 hs
  by_cases hl : d < s.length
  · have := (hi.2 d hl).1; omega
  · have : at0 s d = 0 := by simp [at0, List.getD, show s.length ≤ d by omega]
    omega
theorem before_step (hl : xs.length = n) (hb : Before n xs good f) (hg : good (fl n f) = false) (h : NextR n xs f f' true) : Before n xs good f' := by
  cases h with
  | some i hi h1 h2 =>
    rintro s hs ⟨d, hd, hj, hlt⟩
    have ha := askOk_iff.1 hs
    replace hlt : at0 s d < if d < i then f d else if d = i then f i + 1 else 0 := hlt
    replace hj : ∀ j, j < d → at0 s j = if j < i then f j else if j = i then f i + 1 else 0 := hj
    rcases Nat.lt_trichotomy d i with e | e | e
    · refine hb s hs ⟨d, hd, fun j hjd => ?_, ?_⟩
      · have := hj j hjd
        rwa [if_pos (by omega)] at this
      · rwa [if_pos e] at hlt
    · subst e
      rw [if_neg (by omega), if_pos rfl] at hlt
      have hpre : ∀ j, j < d → at0 s j = f j := fun j hjd => by
        have := hj j hjd
        rwa [if_pos hjd] at this
      rcases first_diff s f n with he | ⟨u, hu, hu1, hu2⟩
      · rw [eq_fl (by omega) he]; exact hg
      · by_cases hud : u < d
        · exact absurd (hpre u hud) hu2
        · refine hb s hs ⟨u, hu, hu1, ?_⟩
          by_cases e : u = d
          · subst e; omega
          · have := (ha.2 u (by omega)).2
            have := h2 u (by omega) hu
            omega
    · rw [if_neg (by omega), if_neg (by omega)] at hlt
      have := (ha.2 d (by omega)).1
      omega
theorem before_end (hl : xs.length = n) (hb : Before n xs good f) (hg : good (fl n f) = false) (h : NextR n xs f f' false) : ∀ s, askOk xs s = true → good s = false := by
  cases h with
  | none _ h =>
    intro s hs
    have ha := askOk_iff.1 hs
    rcases first_diff s f n with he | ⟨u, hu, hu1, hu2⟩
    · rw [eq_fl (by omega) he]; exact hg
    · refine hb s hs ⟨u, hu, hu1, ?_⟩
      have := (ha.2 u (by omega)).2
      have := h u hu
      omega
theorem next_ok (hok : Ok n xs f) (h : NextR n xs f f' true) : Ok n xs f' := by
  cases h with
  | some i hi h1 h2 =>
    intro j hj
    show 0 ≤ (if j < i then f j else if j = i then f i + 1 else 0) ∧ (if j < i then f j else if j = i then f i + 1 else 0) ≤ at0 xs j
    have h3 := hok j hj
    by_cases e : j < i
    · simp only [if_pos e]; exact h3
    · by_cases e2 : j = i
      · subst e2; simp only [Nat.lt_irrefl, if_false, if_true]; omega
      · simp only [if_neg e, if_neg e2]; omega
end
/-- A row as one number of base 61. -/
def kf (f : Nat → Int) : Nat → Int
  | 0 => 0
  | k+1 => 61 * kf f k + f k
theorem kf_bd {f : Nat → Int} {n : Nat} (hn : n ≤ 4) (h : ∀ j, j < n → 0 ≤ f j ∧ f j ≤ 60) : 0 ≤ kf f n ∧ kf f n ≤ 13845840 := by
  obtain rfl | rfl | rfl | rfl | rfl : n = 0 ∨ n = 1 ∨ n = 2 ∨ n = 3 ∨ n = 4 := by omega
  · simp [kf]
  · have a := h 0 (by omega); simp only [kf]; omega
  · have a := h 0 (by omega); have b := h 1 (by omega); simp only [kf]; omega
  · have a := h 0 (by omega); have b := h 1 (by omega); have c := h 2 (by omega); simp only [kf]; omega
  · have a := h 0 (by omega); have b := h 1 (by omega); have c := h 2 (by omega); have d := h 3 (by omega); simp only [kf]; omega
theorem kf_next {f f' : Nat → Int} {n : Nat} {xs : List Int} (hn : n ≤ 4) (h : ∀ j, j < n → 0 ≤ f j ∧ f j ≤ 60) (hr : NextR n xs f f' true) : kf f n < kf f' n := by
  cases hr with
  | some i hi _ _ =>
    obtain rfl | rfl | rfl | rfl | rfl : n = 0 ∨ n = 1 ∨ n = 2 ∨ n = 3 ∨ n = 4 := by omega
    · omega
    · have a := h 0 (by omega)
      obtain rfl : i = 0 := by omega
      simp [kf]
      omega
    · have a := h 0 (by omega); have b := h 1 (by omega)
      obtain rfl | rfl : i = 0 ∨ i = 1 := by omega
      all_goals simp [kf]
      all_goals omega
    · have a := h 0 (by omega); have b := h 1 (by omega); have c := h 2 (by omega)
      obtain rfl | rfl | rfl : i = 0 ∨ i = 1 ∨ i = 2 := by omega
      all_goals simp [kf]
      all_goals omega
    · have a := h 0 (by omega); have b := h 1 (by omega); have c := h 2 (by omega); have d := h 3 (by omega)
      obtain rfl | rfl | rfl | rfl : i = 0 ∨ i = 1 ∨ i = 2 ∨ i = 3 := by omega
      all_goals simp [kf]
      all_goals omega
/-- The one that is found first. -/
theorem first_is {q n : Nat} {xs : List Int} {f : Nat → Int} (hl : xs.length = n) (hok : Ok n xs f) (hg : goodQ (winS q) q xs (fl n f) = true) (hb : Before n xs (goodQ (winS q) q xs) f) {r : List Int} (hr : findQ q xs = some r) (hra : askOk xs r = true) (hrg : goodQ (winS q) q xs r = true) : r = fl n f := by
  have hrl : r.length = n := by rw [(askOk_iff.1 hra).1, hl]
  rcases first_diff r f n with he | ⟨u, hu, hu1, hu2⟩
  · exact eq_fl hrl he
  · exfalso
    rcases Int.lt_or_gt_of_ne hu2 with e | e
    · rw [hb r hra ⟨u, hu, hu1, e⟩] at hrg
      cases hrg
    · have hc : cmpL (fl n f) r = -1 := cmpL_lt u _ _ (by rw [fl_len]; exact hu) (by omega) (fun j hj => by rw [fl_at (by omega)]; exact (hu1 j hj).symm) (by rw [fl_at hu]; exact e)
      have := firstQ_before _ _ _ hr (fl n f) r (by simp) (by omega) (by rw [fl_len, hl]) (fun j hj => by rw [fl_at (by omega)]; exact hok j (by omega)) (by rw [hc]; omega)
      rw [List.nil_append, hg] at this
      cases this
end Go.Proofs.Ytdclmhmdkhpekaa
