/- Slices of nodes; walks of the law's plan and own, which copy nodes. Condition: the slices read as nodes. -/
import Derived.Test.YtjddbglbodkihaaDoorProg
import Derived.Test.YtjddbglbodkihaaDoorMem2
import Derived.Deep.Fields
namespace Go.Proofs.YtjddbglbodkihaaDoor
open Go.RowKit Go.Maps Go.ChangeShapes Go.WideShapes Go.Deep

/-- A node: its question, and where it goes on. -/
structure Nd where
  pt : Int
  zero : Int
  one : Int
def nd (ts : List Nd) (r : Int) : Nd := ts.getD r.toNat ⟨0, 0, 0⟩
theorem nd_of {ts : List Nd} {r : Nat} {u : Nd} (h : ts[r]? = some u) : nd ts (r : Int) = u := by simp [nd, h]
theorem TN : TS Tryd.prog 44 94 3 24 (.agg #[.int .i64 0, .int .i64 0, .int .i64 0]) := ⟨Tryd.underlying44, by kernel_rfl, rfl, by decide⟩
def ndV (u : Nd) : List Value := [.int .i64 u.pt, .int .i64 u.zero, .int .i64 u.one]
def flatN (ts : List Nd) : List Value := ts.flatMap ndV
theorem flatN_len (ts : List Nd) : (flatN ts).length = ts.length * 3 := by
  induction ts with
  | nil => rfl
  | cons u ts ih =>
    have : flatN (u :: ts) = ndV u ++ flatN ts := rfl
    rw [this, List.length_append, ih, List.length_cons]
    simp [ndV]; omega
theorem flatN_app (a b : List Nd) : flatN (a ++ b) = flatN a ++ flatN b := by unfold flatN; rw [List.flatMap_append]
theorem flatN_set (a b : List Nd) (u v : Nd) : (((flatN (a ++ u :: b)).set (a.length * 3) (.int .i64 v.pt)).set (a.length * 3 + 1) (.int .i64 v.zero)).set (a.length * 3 + 2) (.int .i64 v.one) = flatN (a ++ v :: b) := by
  have h := flatN_len a
  have e : ∀ w : Nd, flatN (a ++ w :: b) = flatN a ++ (.int .i64 w.pt :: .int .i64 w.zero :: .int .i64 w.one :: flatN b) := fun w => by rw [flatN_app]; rfl
  rw [e, e, List.set_append_right _ _ (by omega), List.set_append_right _ _ (by omega), List.set_append_right _ _ (by omega)]
  congr 1
  have e1 : a.length * 3 - (flatN a).length = 0 := by omega
  have e2 : a.length * 3 + 1 - (flatN a).length = 1 := by omega
  have e3 : a.length * 3 + 2 - (flatN a).length = 2 := by omega
  rw [e1, e2, e3]
  rfl
/-- A slice of nodes that reads as ts. -/
structure Sl3 (w : World) (A : Option Addr) (n c : Nat) (ts : List Nd) : Prop where
  len : ts.length = n
  cap : n ≤ c
  capm : c ≤ maxLen
  pos : 0 < n → ∃ b o, A = some ⟨b, o, none⟩ ∧ b < w.heap.size ∧ ∀ (j : Nat) (u : Nd), ts[j]? = some u → w.cell? ⟨b, o + j * 3, none⟩ = some (.int .i64 u.pt) ∧ w.cell? ⟨b, o + (j * 3 + 1), none⟩ = some (.int .i64 u.zero) ∧ w.cell? ⟨b, o + (j * 3 + 2), none⟩ = some (.int .i64 u.one)
theorem flatN_get : ∀ (ts : List Nd) (j : Nat) (u : Nd), ts[j]? = some u → (flatN ts)[j * 3]? = some (.int .i64 u.pt) ∧ (flatN ts)[j * 3 + 1]? = some (.int .i64 u.zero) ∧ (flatN ts)[j * 3 + 2]? = some (.int .i64 u.one) := by
  intro ts
  induction ts with
  | nil => intro j u h; simp at h
  | cons v ts ih =>
    intro j u h
    have e : flatN (v :: ts) = .int .i64 v.pt :: .int .i64 v.zero :: .int .i64 v.one :: flatN ts := rfl
    rw [e]
    cases j with
    | zero => simp at h; subst h; exact ⟨rfl, rfl, rfl⟩
    | succ j =>
      have := ih j u (by simpa using h)
      have e2 : (j + 1) * 3 = j * 3 + 3 := by omega
      rw [e2]
      exact ⟨by simpa using this.1, by simpa using this.2.1, by simpa using this.2.2⟩
theorem flatN_one (ts : List Nd) : ∀ u ∈ flatN ts, u.oneCell' = true := by
  intro u hu
  unfold flatN at hu
  rw [List.mem_flatMap] at hu
  obtain ⟨v, _, h⟩ := hu
  simp [ndV] at h
  rcases h with h | h | h <;> subst h <;> rfl
section
variable {w w' : World} {A : Option Addr} {n c : Nat} {ts : List Nd}
theorem Sl3.below (h : Sl3 w A n c ts) (hb : Below w.heap.size w w') : Sl3 w' A n c ts :=
  ⟨h.len, h.cap, h.capm, fun hn => by
    obtain ⟨b, o, e, hl, hc⟩ := h.pos hn
    refine ⟨b, o, e, by have := hb.size; omega, fun j u hu => ?_⟩
    exact ⟨(hb.cell (p := ⟨b, o + j * 3, none⟩) hl).trans (hc j u hu).1, (hb.cell (p := ⟨b, o + (j * 3 + 1), none⟩) hl).trans (hc j u hu).2.1, (hb.cell (p := ⟨b, o + (j * 3 + 2), none⟩) hl).trans (hc j u hu).2.2⟩⟩
theorem Sl3.alloc (h : Sl3 w A n c ts) (o : Obj) : Sl3 (w.alloc o) A n c ts := h.below ((Below.refl _ _).alloc (Nat.le_refl _) _)
theorem Sl3.drewN (h : Sl3 w A n c ts) (k : Nat) : Sl3 (w.drewN k) A n c ts := ⟨h.len, h.cap, h.capm, h.pos⟩
theorem Sl3.at (h : Sl3 w A n c ts) {k : Nat} (hk : k < n) : ∃ b o, A = some ⟨b, o, none⟩ ∧ b < w.heap.size ∧ ts[k]? = some (nd ts k) ∧ w.cell? ⟨b, o + k * 3, none⟩ = some (.int .i64 (nd ts k).pt) ∧ w.cell? ⟨b, o + (k * 3 + 1), none⟩ = some (.int .i64 (nd ts k).zero) ∧ w.cell? ⟨b, o + (k * 3 + 2), none⟩ = some (.int .i64 (nd ts k).one) := by
  obtain ⟨b, o, e, hb, hc⟩ := h.pos (by omega)
  have hl : k < ts.length := by have := h.len; omega
  have e2 : nd ts k = ts[k] := nd_of (List.getElem?_eq_getElem hl)
  have hx : ts[k]? = some (nd ts k) := by rw [e2]; exact List.getElem?_eq_getElem hl
  exact ⟨b, o, e, hb, hx, hc k _ hx⟩
theorem Sl3.len_le (h : Sl3 w A n c ts) : n ≤ 9223372036854775807 := by have := h.cap; have := h.capm; unfold maxLen at this; omega
theorem Sl3.nil (w : World) : Sl3 w none 0 0 [] := ⟨rfl, Nat.le_refl _, Nat.zero_le _, fun h => absurd h (by omega)⟩
theorem Sl3.of_own {base : Nat} {e : TypeId} (h : w.ownsRow base e 3 (.slice A n c) n (flatN ts)) : Sl3 w A n c ts := by
  have hlen : ts.length = n := by
    have h1 := h.1
    have h2 := flatN_len ts
    omega
  rcases h.2 with ⟨hv, hn⟩ | ⟨g, cap, cur, hv, hb, hg, hc, hm, hs, ht⟩
  · simp at hv
    obtain ⟨rfl, -, rfl⟩ := hv
    subst hn
    exact ⟨hlen, Nat.le_refl _, Nat.zero_le _, fun h => absurd h (by omega)⟩
  · simp at hv
    obtain ⟨rfl, rfl⟩ := hv
    have hadd : ∀ j, (⟨g, 0, none⟩ : Addr).add j = ⟨g, j, none⟩ := fun j => by unfold Addr.add; split <;> simp_all
    refine ⟨hlen, hc, hm, fun _ => ⟨g, 0, rfl, lt_of_block hg, fun j u hu => ?_⟩⟩
    have hf := flatN_get ts j u hu
    have c0 := h.cells (g := g) rfl _ _ hf.1
    have c1 := h.cells (g := g) rfl _ _ hf.2.1
    have c2 := h.cells (g := g) rfl _ _ hf.2.2
    rw [hadd] at c0 c1 c2
    simpa using ⟨c0, c1, c2⟩
end
section
variable {H : Type} {enc : TypeId × Value → H} {P : Program} {w : World} {base : Nat} {spare : Nat → Bool} {held : Bool}
theorem open_nodes {t e i : TypeId} {fs : Array Field} {fuel : Nat} {cs : List Value} {x : DataW H × List MemPlace} (ht : P.underlying t = some (.slice e)) (he : P.underlying e = some (.struct fs)) (hi : P.underlying i = some (.int .i64))
    (hf : ∀ j, j < 3 → ∃ f, fs[j]? = some f ∧ f.type = i ∧ f.offset = j ∧ P.cellsOf f.type = 1) (hc2 : P.cellsOf e = 3) (hsp : ∀ k, spare k = true)
    (h : DataW.trod enc P w base spare held fuel t cs = some x) :
    ∃ (A : Option Addr) (len cap : Nat) (xs : List Nd) (D : Nat → DataW H) (sp : List (DataW H)), cs = [.slice A len cap] ∧ Sl3 w A len cap xs ∧ (A.isSome = true → x.1 = .slice ((List.range len).map D) sp) ∧ (A = none → len = 0) := by
  rcases open_slice ht h with ⟨rfl, _⟩ | ⟨a, len, cap, m, n, D, Pl, rfl, hb, hl, hm, hmm, hx, hi'⟩
  · exact ⟨none, 0, 0, [], fun _ => .nil, [], rfl, ⟨rfl, Nat.le_refl _, Nat.zero_le _, fun h => absurd h (by omega)⟩, (fun h => by cases h), fun _ => rfl⟩
  · rw [hsp, if_pos rfl] at hmm
    subst hmm
    have each : ∀ k, k < len → ∃ u : Nd, w.cell? (a.add (k * 3)) = some (.int .i64 u.pt) ∧ w.cell? (a.add (k * 3 + 1)) = some (.int .i64 u.zero) ∧ w.cell? (a.add (k * 3 + 2)) = some (.int .i64 u.one) := by
      intro k hk
      obtain ⟨cs', hcs, ht'⟩ := hi' k (by omega)
      rw [hc2] at hcs
      obtain ⟨_, hcl, hat⟩ := World.cells?_some hcs
      obtain ⟨ys, n', hn', hy, hlen, hyl, hfd⟩ := DataW.trod_struct he ht'
      have e0 := hat 0 (by omega)
      have e1 := hat 1 (by omega)
      have e2 := hat 2 (by omega)
      obtain ⟨c0, c1, c2, rfl⟩ : ∃ c0 c1 c2, cs' = [c0, c1, c2] := by
        match cs', hcl with
        | [c0, c1, c2], _ => exact ⟨c0, c1, c2, rfl⟩
      have key : ∀ (j : Nat) (v : Value), j < 3 → [c0, c1, c2][j]? = some v → ∃ z : Int, v = .int .i64 z := by
        intro j v hj hv
        obtain ⟨f, hf1, hf2, hf3, hf4⟩ := hf j hj
        have h1 := hfd j f hf1
        rw [hf3, hf4] at h1
        obtain ⟨y, hy1, hy2⟩ : ∃ y, ys[j]? = some y ∧ DataW.trod enc P w base spare held n' f.type [v] = some y := by
          have hd : ([c0, c1, c2].drop j).take 1 = [v] := by
            match j, hj, hv with
            | 0, _, hv => simpa using hv
            | 1, _, hv => simpa using hv
            | 2, _, hv => simpa using hv
          rw [hd] at h1
          have hjl : j < ys.length := by rw [hyl]; exact (Array.getElem?_eq_some_iff.1 hf1).1
          exact ⟨ys[j], List.getElem?_eq_getElem hjl, by rw [← List.getElem?_eq_getElem hjl]; exact h1⟩
        rw [hf2] at hy2
        obtain ⟨n0, h0, _, _⟩ := DataW.trod_int hi hy2
        simp at h0
        exact ⟨n0, h0⟩
      obtain ⟨z0, rfl⟩ := key 0 c0 (by omega) rfl
      obtain ⟨z1, rfl⟩ := key 1 c1 (by omega) rfl
      obtain ⟨z2, rfl⟩ := key 2 c2 (by omega) rfl
      refine ⟨⟨z0, z1, z2⟩, ?_, ?_, ?_⟩
      · rw [Go.Deep.add_add] at e0; simpa using e0
      · rw [Go.Deep.add_add] at e1; simpa using e1
      · rw [Go.Deep.add_add] at e2; simpa using e2
    by_cases h0 : len = 0
    · subst h0
      exact ⟨some a, 0, m, [], D, _, rfl, ⟨rfl, Nat.zero_le _, hm, fun h => absurd h (by omega)⟩, fun _ => by rw [hx], fun h => by cases h⟩
    · have hs : a.spot = none := by
        obtain ⟨u, hu, _⟩ := each 0 (by omega)
        unfold World.cell? Addr.add at hu
        simp at hu
        split at hu
        · rename_i hs
          by_cases e : a.spot.isSome
          · simp [e] at hu
          · cases hsp' : a.spot
            · rfl
            · simp [hsp'] at e
        · cases hu
      obtain ⟨b, o, sp⟩ := a
      simp at hs
      subst hs
      have hadd : ∀ j, (⟨b, o, none⟩ : Addr).add j = ⟨b, o + j, none⟩ := fun j => by unfold Addr.add; split <;> simp_all
      have each2 : ∀ k : Nat, ∃ u : Nd, k < len → w.cell? ⟨b, o + k * 3, none⟩ = some (.int .i64 u.pt) ∧ w.cell? ⟨b, o + (k * 3 + 1), none⟩ = some (.int .i64 u.zero) ∧ w.cell? ⟨b, o + (k * 3 + 2), none⟩ = some (.int .i64 u.one) := by
        intro k
        by_cases hk : k < len
        · obtain ⟨u, h1, h2, h3⟩ := each k hk
          rw [hadd] at h1 h2 h3
          exact ⟨u, fun _ => ⟨h1, h2, h3⟩⟩
        · exact ⟨⟨0, 0, 0⟩, fun h => absurd h hk⟩
      obtain ⟨U, hU⟩ := Classical.axiomOfChoice each2
      refine ⟨some ⟨b, o, none⟩, len, m, (List.range len).map U, D, _, rfl, ⟨by simp, hl, hm, fun _ => ⟨b, o, rfl, World.block_lt_of_cell? w _ (hU 0 (by omega)).1, fun j u hu => ?_⟩⟩, fun _ => by rw [hx], fun h => by cases h⟩
      have hj : j < len := by
        have := (List.getElem?_eq_some_iff.1 hu).1
        simpa using this
      have hu2 : U j = u := by simpa [hj] using hu
      subst hu2
      exact hU j hj
end

theorem push1H {P : Program} {ops : Array Oper} {rest : List Oper} {o : Oper} {a : Act} {Q : Exit → Act → World → Prop} {t e : TypeId} {size bytes : Nat} {z : Value}
    (T : TS P t e size bytes z) (w : World) (cs : Array Value) (base n : Nat) (v : Value) (xs : List Value) (hown : w.ownsRow base e size v n xs)
    (s x : Operand) (K : Nat) (hK : w.heap.size = K) (hgd : o.guard = none) (ho : o.op = .call { callee := .builtin .append, args := #[s, x], argTypes := #[t, t] })
    (hs : a.eval s = v) (hx : a.eval x = .slice (some ⟨K, 0, none⟩) 1 1) (hcs : cs.size = size) (h1 : ∀ u ∈ cs.toList, u.oneCell' = true)
    (hn : (n + 1) * bytes ≤ 140737488355328) (hn2 : n < 1000000000000) (hb : base ≤ w.heap.size)
    (h : ∀ v' w', w'.ownsRow base e size v' (n + 1) (xs ++ cs.toList) → (w.alloc (.cells cs e)).grownBy w' v.ownBlock → wpList P ops Q rest (a.put o.dst v') w') :
    wpList P ops Q (o :: rest) a (w.alloc (.cells cs e)) := by
  subst hK
  exact push1 T w cs base n v xs hown s x hgd ho hs hx hcs h1 hn hn2 hb h
theorem TN2 : TS Tryd.prog 41 93 3 24 (.agg #[.int .i64 0, .int .i64 0, .int .i64 0]) := ⟨Tryd.underlying41, by kernel_rfl, rfl, by decide⟩
theorem flatN_snoc (l : List Nd) (u : Nd) : flatN (l ++ [u]) = flatN l ++ [.int .i64 u.pt, .int .i64 u.zero, .int .i64 u.one] := by
  unfold flatN; rw [List.flatMap_append]; rfl
theorem take_nd {ts : List Nd} {k : Nat} {u : Nd} (h : ts[k]? = some u) : ts.take (k + 1) = ts.take k ++ [u] := by
  rw [List.take_add_one, h]; rfl

set_option maxRecDepth 100000 in
set_option maxHeartbeats 2000000 in
theorem lawPlan (T : Option Addr) (L k : Nat) (ts : List Nd) (w : World) (h3 : Sl3 w T L k ts) :
    Calls Tryd.prog 38 #[.slice T L k] w fun e w' => ∃ A' c', e = .returned (.slice A' (min L 80) c') ∧ w'.ownsRow w.heap.size 94 3 (.slice A' (min L 80) c') (min L 80) (flatN (ts.take (min L 80))) ∧ Below w.heap.size w w' := by
  have hl := h3.len
  have hLL := h3.len_le
  have HS := hid h3
  clear hl h3
  go_enter Tryd.func38, Tryd.ntmps38
  go_wp2
  go_loopg [3, 8] L (fun gk v j wr => ∃ q : Nat, gk + q = L ∧ j = .int .i64 q ∧ (∃ A' c', v = .slice A' (min q 80) c' ∧ wr.ownsRow w.heap.size 94 3 (.slice A' (min q 80) c') (min q 80) (flatN (ts.take (min q 80)))) ∧ Below w.heap.size w wr)
  case atStart => exact ⟨0, by omega, rfl, ⟨none, 0, rfl, by simpa [flatN] using World.ownsRow_nil _ _ _ _⟩, Below.refl _ _⟩
  case round =>
    obtain ⟨q, hq, rfl, ⟨A', c', rfl, ho⟩, hb⟩ := hrel
    have HQ := hid hq
    have hz := hid hb.size
    have HO := hid ho
    have HB := hid hb
    clear hq ho
    by_cases hlt : q < L
    · obtain ⟨b, o, rfl, lb, hx, a0, a1, a2⟩ := HS.out.at hlt
      have h0 : wr.cell? ⟨b, o + q * 3, none⟩ = some (.int .i64 (nd ts q).pt) := (hb.cell (p := ⟨b, o + q * 3, none⟩) lb).trans a0
      have h1 : wr.cell? ⟨b, o + q * 3 + 1, none⟩ = some (.int .i64 (nd ts q).zero) := (hb.cell (p := ⟨b, o + (q * 3 + 1), none⟩) lb).trans a1
      have h2 : wr.cell? ⟨b, o + q * 3 + 2, none⟩ = some (.int .i64 (nd ts q).one) := (hb.cell (p := ⟨b, o + (q * 3 + 2), none⟩) lb).trans a2
      have HX := hid (take_nd hx)
      have HSN := hid (flatN_snoc (ts.take q) (nd ts q))
      clear a0 a1 a2 hb lb hx
      generalize hnd : nd ts (q : Int) = u at *
      obtain ⟨pt, ze, on⟩ := u
      simp only at h0 h1 h2
      clear hnd
      by_cases h80 : q < 80
      · have g : decide ((q : Int) < 80) = true := decide_eq_true (by omega)
        have hm : min q 80 = q := Nat.min_eq_left (by omega)
        have hm1 : min (q + 1) 80 = q + 1 := Nat.min_eq_left (by omega)
        rw [hm] at HO ⊢
        have HO2 := hid (HO.out.alloc (.cells #[.int .i64 pt, .int .i64 ze, .int .i64 on] 93))
        have HB2 := hid (HB.out.alloc hz.out (.cells #[.int .i64 pt, .int .i64 ze, .int .i64 on] 93))
        have hz2 := hid HB2.out.size
        clear hm
        have HM := hid hm1
        clear hm1
        go_wp2_with (at_builtin; refine push1H TN (wr.alloc (.cells #[.int .i64 pt, .int .i64 ze, .int .i64 on] 93)) #[.int .i64 pt, .int .i64 ze, .int .i64 on] _ q _ _ HO2.out _ _ (wr.heap.size + 1) (by simp) rfl rfl rfl rfl rfl (by simp [Value.oneCell']) (by omega) (by omega) hz2.out ?_; intro v1 w3 hown1 hgr; have hb1 : Below w.heap.size w w3 := below_push HB2.out HO2.out hgr hz2.out (Nat.le_refl _))
        obtain ⟨A1, c1, rfl⟩ := own_form hown1
        clear hgr
        go_wp2
        go_roundg (gk - 1)
        case measure => have := HQ.out; omega
        case rel => exact ⟨q + 1, by have := HQ.out; omega, by go_num, ⟨A1, c1, by rw [HM.out], by rw [HM.out, HX.out, HSN.out]; simpa using hown1⟩, hb1⟩
      · have g : decide ((q : Int) < 80) = false := decide_eq_false (by omega)
        have hm : min q 80 = 80 := Nat.min_eq_right (by omega)
        have hm1 : min (q + 1) 80 = 80 := Nat.min_eq_right (by omega)
        have HB2 := hid (HB.out.alloc hz.out (.cells #[.int .i64 pt, .int .i64 ze, .int .i64 on] 93))
        have HO2 := hid (HO.out.alloc (.cells #[.int .i64 pt, .int .i64 ze, .int .i64 on] 93))
        have HM := hid hm; have HM1 := hid hm1
        clear hm hm1
        go_wp2
        go_roundg (gk - 1)
        case measure => have := HQ.out; omega
        case rel => exact ⟨q + 1, by have := HQ.out; omega, by go_num, ⟨A', c', by rw [HM.out, HM1.out], by have h := HO2.out; rw [HM.out] at h; rw [HM1.out]; exact h⟩, HB2.out⟩
    · obtain rfl : q = L := by have := HQ.out; omega
      go_wp2
      go_ret
      exact ⟨A', c', rfl, HO.out, HB.out⟩

set_option maxRecDepth 100000 in
set_option maxHeartbeats 2000000 in
theorem lawOwn (T : Option Addr) (L k : Nat) (ts : List Nd) (hL : L ≤ 1000) (w : World) (h3 : Sl3 w T L k ts) :
    Calls Tryd.prog 42 #[.slice T L k] w fun e w' => ∃ A' c', e = .returned (.slice A' L c') ∧ w'.ownsRow w.heap.size 93 3 (.slice A' L c') L (flatN ts) ∧ Below w.heap.size w w' := by
  have hl := hid h3.len
  have HS := hid h3
  clear h3
  go_enter Tryd.func42, Tryd.ntmps42
  go_wp2
  go_loopg [3, 8] L (fun gk v j wr => ∃ q : Nat, gk + q = L ∧ j = .int .i64 q ∧ (∃ A' c', v = .slice A' q c' ∧ wr.ownsRow w.heap.size 93 3 (.slice A' q c') q (flatN (ts.take q))) ∧ Below w.heap.size w wr)
  case atStart => exact ⟨0, by omega, rfl, ⟨none, 0, rfl, by simpa [flatN] using World.ownsRow_nil _ _ _ _⟩, Below.refl _ _⟩
  case round =>
    obtain ⟨q, hq, rfl, ⟨A', c', rfl, ho⟩, hb⟩ := hrel
    have HQ := hid hq
    have hz := hid hb.size
    have HO := hid ho
    have HB := hid hb
    have hq1 : q ≤ 1000 := by omega
    clear hq ho
    by_cases hlt : q < L
    · obtain ⟨b, o, rfl, lb, hx, a0, a1, a2⟩ := HS.out.at hlt
      have h0 : wr.cell? ⟨b, o + q * 3, none⟩ = some (.int .i64 (nd ts q).pt) := (hb.cell (p := ⟨b, o + q * 3, none⟩) lb).trans a0
      have h1 : wr.cell? ⟨b, o + q * 3 + 1, none⟩ = some (.int .i64 (nd ts q).zero) := (hb.cell (p := ⟨b, o + (q * 3 + 1), none⟩) lb).trans a1
      have h2 : wr.cell? ⟨b, o + q * 3 + 2, none⟩ = some (.int .i64 (nd ts q).one) := (hb.cell (p := ⟨b, o + (q * 3 + 2), none⟩) lb).trans a2
      have HX := hid (take_nd hx)
      have HSN := hid (flatN_snoc (ts.take q) (nd ts q))
      clear a0 a1 a2 hb lb hx
      generalize hnd : nd ts (q : Int) = u at *
      obtain ⟨pt, ze, on⟩ := u
      simp only at h0 h1 h2
      clear hnd
      have HO2 := hid (HO.out.alloc (.cells #[.int .i64 pt, .int .i64 ze, .int .i64 on] 94))
      have HB2 := hid (HB.out.alloc hz.out (.cells #[.int .i64 pt, .int .i64 ze, .int .i64 on] 94))
      have hz2 := hid HB2.out.size
      go_wp2_with (at_builtin; refine push1H TN2 (wr.alloc (.cells #[.int .i64 pt, .int .i64 ze, .int .i64 on] 94)) #[.int .i64 pt, .int .i64 ze, .int .i64 on] _ q _ _ HO2.out _ _ (wr.heap.size + 1) (by simp) rfl rfl rfl rfl rfl (by simp [Value.oneCell']) (by omega) (by omega) hz2.out ?_; intro v1 w3 hown1 hgr; have hb1 : Below w.heap.size w w3 := below_push HB2.out HO2.out hgr hz2.out (Nat.le_refl _))
      obtain ⟨A1, c1, rfl⟩ := own_form hown1
      clear hgr
      go_wp2
      go_roundg (gk - 1)
      case measure => have := HQ.out; omega
      case rel => exact ⟨q + 1, by have := HQ.out; omega, by go_num, ⟨A1, c1, rfl, by rw [HX.out, HSN.out]; simpa using hown1⟩, hb1⟩
    · obtain rfl : q = L := by have := HQ.out; omega
      have HT := hid (List.take_of_length_le (l := ts) (i := q) (by have := hl.out; omega))
      go_wp2
      go_ret
      exact ⟨A', c', rfl, by have h := HO.out; rw [HT.out] at h; exact h, HB.out⟩
end Go.Proofs.YtjddbglbodkihaaDoor

