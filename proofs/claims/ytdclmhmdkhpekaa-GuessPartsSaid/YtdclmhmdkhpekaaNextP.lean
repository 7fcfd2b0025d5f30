/- Walks of guess.played, guess.Worst and guess.Next. Conditions: the slice reads as a list of triples. -/
import Derived.Test.YtdclmhmdkhpekaaLeftPub
import Derived.Test.YtdclmhmdkhpekaaWorstP
namespace Go.Proofs.Ytdclmhmdkhpekaa
open Go.RowKit Go.Maps

theorem any_eq_contains (l : List Int) (x : Int) : idxf (fun a => decide (x = a)) l = -1 ∧ l.contains x = false ∨ 0 ≤ idxf (fun a => decide (x = a)) l ∧ l.contains x = true := by
  have h := idxf_any (fun a => decide (x = a)) l
  have hb := idxf_bd (fun a => decide (x = a)) l
  have e : l.any (fun a => decide (x = a)) = l.contains x := by
    rw [Bool.eq_iff_iff]
    simp
  rw [e] at h
  cases hc : l.contains x
  · rw [hc] at h; left; exact ⟨by have := of_decide_eq_false h; omega, rfl⟩
  · rw [hc] at h; right; exact ⟨of_decide_eq_true h, rfl⟩

set_option maxRecDepth 100000 in
set_option maxHeartbeats 1000000 in
theorem indexS (A : Option Addr) (n c : Nat) (xs : List Int) (x : Int) (w : World) (hs : Sl w A n c (xs.map (Value.int .i64))) :
    Calls Try.prog 94 #[.slice A n c, .int .i64 x] w fun e w' => e = .returned (.int .i64 (idxf (fun a => decide (x = a)) xs)) ∧ w = w' := by
  have hm : n ≤ 9223372036854775807 := by have := hs.cap; have := hs.capm; unfold maxLen at this; omega
  have HS := hid hs
  have HL := hid (show xs.length = n by simpa using hs.len)
  clear hs
  go_enter Try.func94, Try.ntmps94
  go_wp2
  go_loopg [8] n (fun gk i wr => ∃ k : Nat, gk + k = n ∧ i = .int .i64 k ∧ Hid (∀ (j : Nat) (y : Int), j < k → xs[j]? = some y → decide (x = y) = false) ∧ w = wr)
  case atStart => exact ⟨0, by omega, rfl, hid (fun j _ h => absurd h (by omega)), rfl⟩
  case round =>
    obtain ⟨k, hk, rfl, hno, rfl⟩ := hrel
    have HK := hid hk
    by_cases hlt : k < n
    · obtain ⟨b, o, u, rfl, lb1, e1, ca⟩ := HS.out.at hlt
      rw [List.getElem?_map] at e1
      obtain ⟨y, hy, rfl⟩ := Option.map_eq_some_iff.1 e1
      have HY := hid hy
      clear hk e1 hy
      by_cases hxy : x = y
      · have g : (x == y) = true := beq_iff_eq.2 hxy
        have HA := hid (idxf_at HY.out (decide_eq_true hxy) hno.out)
        clear hxy
        go_wp2
        go_ret
        exact ⟨by rw [HA.out]; rfl, rfl⟩
      · have g : (x == y) = false := beq_eq_false_iff_ne.2 hxy
        have HX := hid hxy
        clear hxy
        go_wp2
        go_roundg (gk - 1)
        case measure => have := HK.out; omega
        case rel =>
          refine ⟨k + 1, by have := HK.out; omega, by go_num, hid fun j z hj hz => ?_, rfl⟩
          by_cases e : j = k
          · subst e; rw [HY.out] at hz; cases hz; exact decide_eq_false HX.out
          · exact hno.out j z (by omega) hz
    · have HA : Hid (idxf (fun a => decide (x = a)) xs = -1) := hid (idxf_none fun j y hj => hno.out j y (by have := (List.getElem?_eq_some_iff.1 hj).1; have := HL.out; omega) hj)
      clear hk
      go_wp2
      go_ret
      exact ⟨by rw [HA.out]; rfl, rfl⟩

set_option maxRecDepth 100000 in
set_option maxHeartbeats 1000000 in
theorem containsS (A : Option Addr) (n c : Nat) (xs : List Int) (x : Int) (w : World) (hs : Sl w A n c (xs.map (Value.int .i64))) :
    Calls Try.prog 72 #[.slice A n c, .int .i64 x] w fun e w' => e = .returned (.bool (xs.contains x)) ∧ w = w' := by
  have HC := hid (indexS A n c xs x w hs)
  have hk := any_eq_contains xs x
  clear hs
  generalize idxf (fun a => decide (x = a)) xs = k at *
  generalize xs.contains x = r at *
  rcases hk with ⟨rfl, rfl⟩ | ⟨hk, rfl⟩
  · go_enter Try.func72, Try.ntmps72
    go_wp2_with (go_at_call 94; refine HC.out.mono ?_; rintro e w1 ⟨rfl, rfl⟩)
    go_ret
    exact ⟨rfl, rfl⟩
  · have g : decide (0 ≤ k) = true := decide_eq_true hk
    go_enter Try.func72, Try.ntmps72
    go_wp2_with (go_at_call 94; refine HC.out.mono ?_; rintro e w1 ⟨rfl, rfl⟩)
    go_ret
    exact ⟨rfl, rfl⟩

set_option maxRecDepth 100000 in
set_option maxHeartbeats 1000000 in
theorem next1 (A : Option Addr) (n c : Nat) (xs : List Int) (x : Int) (b : Nat) (w : World) (hs : Sl w A n c (xs.map (Value.int .i64))) (hb : Blk w b 34 #[.slice A n c]) :
    Calls Try.prog 71 (#[.int .i64 x] ++ #[.pointer (some ⟨b, 0, none⟩)]) w fun e w' => e = .returned (.bool (xs.contains x)) ∧ w = w' := by
  have HC := hid (containsS A n c xs x w hs)
  generalize xs.contains x = r at *
  have c0 := hb.cell 0
  simp only [List.getElem?_toArray, List.getElem?_cons_zero] at c0
  clear hs hb
  go_enter Try.func71, Try.ntmps71
  go_wp2_with (go_at_call 72; refine HC.out.mono ?_; rintro e w1 ⟨rfl, rfl⟩)
  go_ret
  exact ⟨rfl, rfl⟩

/-- Three results, the first one in a block. -/
theorem results_row_tmp2 {P : Program} {fn : Func} {p u v : Tmp} {ty : TypeId} (h : fn.results = #[.cell p ty, .tmp u, .tmp v]) (tmps : Array Value) (w : World) (g : Nat) (t : TypeId) (cs : Array Value) (fr : Nat × Nat) (d : TypeDesc)
    (hp : tmps.getD p undef = .pointer (some ⟨g, 0, none⟩)) (hg : w.heap[g]? = some (.cells cs t fr))
    (hu : P.underlying ty = some d) (hd : (match d with | .struct _ | .array _ _ => true | _ => false) = true) (hi : (P.info? ty).map (·.size) = some cs.size) :
    (results fn tmps).run P w = .ok (.tuple #[.agg cs, tmps.getD u undef, tmps.getD v undef]) w := by
  have hp' : tmps[p]?.getD undef = .pointer (some ⟨g, 0, none⟩) := by simpa using hp
  have e : (results fn tmps).run P w = ((asAddr (tmps.getD p undef)).run P w).andThen fun a w₁ => ((loadVar ty a).run P w₁).andThen fun x w₂ => .ok (.tuple #[x, tmps.getD u undef, tmps.getD v undef]) w₂ := by
    simp only [results, h]
    simp [Sem.run_bind, Result.andThen]
  rw [e]
  simp [hp', asAddr, run_loadVar_row w g t ty cs fr d hg hu hd hi, Result.andThen]

/-- Neither a game nor a history. -/
def BadGame (p c : Int) (xs : List Int) (hs : List Tri) : Prop := gameOk p c xs = false ∨ (gameOk p c xs = true ∧ histOk p.toNat (codes p c).toNat hs = false)
theorem game_nat {p c : Int} {xs : List Int} (h : gameOk p c xs = true) : ∃ q N : Nat, p = q ∧ codes q c = N ∧ (1 ≤ q ∧ q ≤ 4) ∧ (1 ≤ c ∧ c ≤ 6) ∧ 1 ≤ N ∧ N ≤ 256 ∧ ∀ x ∈ xs, 0 ≤ x ∧ x < N := by
  obtain ⟨h1, h2⟩ := gameOk_iff.1 h
  obtain ⟨q, rfl⟩ := Int.eq_ofNat_of_zero_le (show 0 ≤ p by have := codes_pos h1; omega)
  obtain ⟨N, hN⟩ : ∃ N : Nat, codes q c = N := Int.eq_ofNat_of_zero_le (by omega)
  have h3 := game_facts h1 hN
  rw [hN] at h2
  exact ⟨q, N, rfl, hN, h3.1, h3.2.1, h3.2.2.1, h3.2.2.2, h2⟩

def zeroG : Value := .agg #[.int .i64 0, .int .i64 0, .int .i64 0]
set_option maxRecDepth 100000 in
set_option maxHeartbeats 4000000 in
theorem played_bad (p c : Int) (A B : Option Addr) (n cp m cm : Nat) (hs : List Tri) (xs : List Int) (W : World) (hsl : Slt W A n cp hs) (hx : Sl W B m cm (xs.map (Value.int .i64))) (h : BadGame p c xs hs) :
    Calls Try.prog 68 #[.int .i64 p, .int .i64 c, .slice A n cp, .slice B m cm] W fun e w' => e = .returned (.tuple #[.agg #[.int .i64 0, .int .i64 0, .int .i64 0], .slice none 0 0, .int .i64 2]) ∧ Below W.heap.size W w' := by
  have HB0 := hid ((Below.refl W.heap.size W).alloc (Nat.le_refl _) (.cells #[.int .i64 0, .int .i64 0, .int .i64 0] 68))
  have B0 := hid (Blk.new W 68 #[.int .i64 0, .int .i64 0, .int .i64 0])
  rcases h with hg | ⟨hg, hh⟩
  · have HR := hid fun w1 (hb : Below W.heap.size W w1) => readNo p c B m cm xs w1 (hx.below hb) hg
    clear hsl hx hg
    go_enter Try.func68, Try.ntmps68
    go_wp2_with fail
    refine (HR.out _ HB0.out).mono ?_; rintro e w1 ⟨⟨q, d, N, rfl⟩, hb1⟩
    have HB1 := hid (below_call HB0.out hb1 (by simp))
    have hz1 : W.heap.size < w1.heap.size := by have := hb1.size; simp at this; omega
    have b1 := hid (B0.out.keep hb1)
    have f0 := b1.out.free 0; have f1 := b1.out.free 1; have f2 := b1.out.free 2
    have y0 := b1.out.cell 0; have y1 := b1.out.cell 1; have y2 := b1.out.cell 2
    simp only [List.getElem?_toArray, List.getElem?_cons_zero, List.getElem?_cons_succ] at y0 y1 y2
    clear hb1
    go_wp2
    refine bodyPost_ret (results_row_tmp2 rfl _ _ W.heap.size 68 #[.int .i64 0, .int .i64 0, .int .i64 0] (0, 0) _ rfl ((((b1.out.set 0 _).set 1 _).set 2 _).alloc _) Try.underlying68 rfl (by kernel_rfl)) rfl ⟨rfl, ?_⟩
    exact (((HB1.out.setCell (p := ⟨W.heap.size, 0, none⟩) (by simp) _).setCell (p := ⟨W.heap.size, 1, none⟩) (by simp) _).setCell (p := ⟨W.heap.size, 2, none⟩) (by simp) _).alloc (by simp; omega) _
  · obtain ⟨q, N, rfl, hN, ⟨h1, h2⟩, ⟨h3, h4⟩, h5, h6, _⟩ := game_nat hg
    rw [hN] at hh
    simp only [Int.toNat_natCast] at hh
    have HR := hid fun w1 (hb : Below W.heap.size W w1) => readYes q c B m cm xs w1 (hx.below hb) hg N hN
    have HL := hid fun w1 (hb : Below W.heap.size W w1) => leftBad q c N A n cp hs w1 h2 h3 h4 h6 (hsl.below hb) hh
    clear hsl hx hg hh hN
    go_enter Try.func68, Try.ntmps68
    go_wp2_with fail
    refine (HR.out _ HB0.out).mono ?_; rintro e w1 ⟨rfl, hb1⟩
    have HB1 := hid (below_call HB0.out hb1 (by simp))
    have hz1 : W.heap.size < w1.heap.size := by have := hb1.size; simp at this; omega
    have b1 := hid (B0.out.keep hb1)
    clear hb1
    go_wp2_with fail
    have HB2 := hid (HB1.out.alloc (by omega) (.cells #[.int .i64 q, .int .i64 c, .int .i64 N] 68))
    refine (HL.out _ HB2.out).mono ?_; rintro e w2 ⟨rfl, hb2⟩
    have HB3 := hid (below_call HB2.out hb2 (by simp; omega))
    have hz2 : W.heap.size < w2.heap.size := by have := hb2.size; simp at this; omega
    have b2 := hid ((b1.out.alloc (.cells #[.int .i64 q, .int .i64 c, .int .i64 N] 68)).keep hb2)
    have f0 := b2.out.free 0; have f1 := b2.out.free 1; have f2 := b2.out.free 2
    have y0 := b2.out.cell 0; have y1 := b2.out.cell 1; have y2 := b2.out.cell 2
    simp only [List.getElem?_toArray, List.getElem?_cons_zero, List.getElem?_cons_succ] at y0 y1 y2
    clear hb2
    go_wp2
    refine bodyPost_ret (results_row_tmp2 rfl _ _ W.heap.size 68 #[.int .i64 0, .int .i64 0, .int .i64 0] (0, 0) _ rfl (((b2.out.set 0 _).set 1 _).set 2 _) Try.underlying68 rfl (by kernel_rfl)) rfl ⟨rfl, ?_⟩
    exact ((HB3.out.setCell (p := ⟨W.heap.size, 0, none⟩) (by simp) _).setCell (p := ⟨W.heap.size, 1, none⟩) (by simp) _).setCell (p := ⟨W.heap.size, 2, none⟩) (by simp) _

theorem own_set3 {w2 : World} {B base b : Nat} {n : Nat} {v : Value} {xs : List Value} {x y z : Value} (h : w2.ownsRow base 3 1 v n xs) (hb : b < base) (hB : B ≤ base) : (((w2.setCell ⟨b, 0, none⟩ x).setCell ⟨b, 1, none⟩ y).setCell ⟨b, 2, none⟩ z).ownsRow B 3 1 v n xs :=
  own_more (ownsRow_setCell_below (ownsRow_setCell_below (ownsRow_setCell_below h hb _) hb _) hb _) hB

set_option maxRecDepth 100000 in
set_option maxHeartbeats 4000000 in
theorem played_none (q : Nat) (c : Int) (N : Nat) (A B : Option Addr) (n cp m cm : Nat) (hs : List Tri) (xs : List Int) (W : World) (hsl : Slt W A n cp hs) (hx : Sl W B m cm (xs.map (Value.int .i64))) (hg : gameOk q c xs = true) (hN : codes q c = N) (hh : histOk q N hs = true) (hl : leftL c q N hs = []) :
    Calls Try.prog 68 #[.int .i64 q, .int .i64 c, .slice A n cp, .slice B m cm] W fun e w' => e = .returned (.tuple #[.agg #[.int .i64 0, .int .i64 0, .int .i64 0], .slice none 0 0, .int .i64 5]) ∧ Below W.heap.size W w' := by
  have HB0 := hid ((Below.refl W.heap.size W).alloc (Nat.le_refl _) (.cells #[.int .i64 0, .int .i64 0, .int .i64 0] 68))
  have B0 := hid (Blk.new W 68 #[.int .i64 0, .int .i64 0, .int .i64 0])
  obtain ⟨⟨h1, h2⟩, ⟨h3, h4⟩, h5, h6⟩ := game_facts (gameOk_iff.1 hg).1 hN
  have HR := hid fun w1 (hb : Below W.heap.size W w1) => readYes q c B m cm xs w1 (hx.below hb) hg N hN
  have HL := hid fun w1 (hb : Below W.heap.size W w1) => leftOk q c N A n cp hs w1 h2 h3 h4 h6 (hsl.below hb) hh
  rw [hl] at HL
  have g1 : (((([] : List Int).length : Nat) : Int) == 0) = true := rfl
  clear hsl hx hg hh hN hl
  go_enter Try.func68, Try.ntmps68
  go_wp2_with fail
  refine (HR.out _ HB0.out).mono ?_; rintro e w1 ⟨rfl, hb1⟩
  have HB1 := hid (below_call HB0.out hb1 (by simp))
  have hz1 : W.heap.size < w1.heap.size := by have := hb1.size; simp at this; omega
  have b1 := hid (B0.out.keep hb1)
  clear hb1
  go_wp2_with fail
  have HB2 := hid (HB1.out.alloc (by omega) (.cells #[.int .i64 q, .int .i64 c, .int .i64 N] 68))
  refine (HL.out _ HB2.out).mono ?_; rintro e w2 ⟨A2, c2, rfl, ho2, hb2⟩
  have HO2 := hid ho2
  have HB3 := hid (below_call HB2.out hb2 (by simp; omega))
  have hz2 : w1.heap.size < w2.heap.size := by have := hb2.size; simp at this; omega
  have b2 := hid ((b1.out.alloc (.cells #[.int .i64 q, .int .i64 c, .int .i64 N] 68)).keep hb2)
  have b3 := hid ((Blk.new w1 68 #[.int .i64 q, .int .i64 c, .int .i64 N]).keep hb2)
  have f0 := b2.out.free 0; have f1 := b2.out.free 1; have f2 := b2.out.free 2
  have y0 := b2.out.cell 0; have y1 := b2.out.cell 1; have y2 := b2.out.cell 2
  have z0 := b3.out.cell 0; have z1 := b3.out.cell 1; have z2 := b3.out.cell 2
  simp only [List.getElem?_toArray, List.getElem?_cons_zero, List.getElem?_cons_succ] at y0 y1 y2 z0 z1 z2
  clear hb2 ho2
  go_wp2
  refine bodyPost_ret (results_row_tmp2 rfl _ _ W.heap.size 68 #[.int .i64 0, .int .i64 0, .int .i64 0] (0, 0) _ rfl (((b2.out.set 0 _).set 1 _).set 2 _) Try.underlying68 rfl (by kernel_rfl)) rfl ⟨rfl, ?_⟩
  exact ((HB3.out.setCell (p := ⟨W.heap.size, 0, none⟩) (by simp) _).setCell (p := ⟨W.heap.size, 1, none⟩) (by simp) _).setCell (p := ⟨W.heap.size, 2, none⟩) (by simp) _

set_option maxRecDepth 100000 in
set_option maxHeartbeats 4000000 in
theorem played_ok (q : Nat) (c : Int) (N : Nat) (A B : Option Addr) (n cp m cm : Nat) (hs : List Tri) (xs : List Int) (W : World) (hsl : Slt W A n cp hs) (hx : Sl W B m cm (xs.map (Value.int .i64))) (hg : gameOk q c xs = true) (hN : codes q c = N) (hh : histOk q N hs = true) (hl : leftL c q N hs ≠ []) :
    Calls Try.prog 68 #[.int .i64 q, .int .i64 c, .slice A n cp, .slice B m cm] W fun e w' => (∃ A' c', e = .returned (.tuple #[.agg #[.int .i64 q, .int .i64 c, .int .i64 N], .slice A' (leftL c q N hs).length c', .int .i64 0]) ∧ w'.ownsRow W.heap.size 3 1 (.slice A' (leftL c q N hs).length c') (leftL c q N hs).length ((leftL c q N hs).map (Value.int .i64))) ∧ Below W.heap.size W w' := by
  have HB0 := hid ((Below.refl W.heap.size W).alloc (Nat.le_refl _) (.cells #[.int .i64 0, .int .i64 0, .int .i64 0] 68))
  have B0 := hid (Blk.new W 68 #[.int .i64 0, .int .i64 0, .int .i64 0])
  obtain ⟨⟨h1, h2⟩, ⟨h3, h4⟩, h5, h6⟩ := game_facts (gameOk_iff.1 hg).1 hN
  have HR := hid fun w1 (hb : Below W.heap.size W w1) => readYes q c B m cm xs w1 (hx.below hb) hg N hN
  have HL := hid fun w1 (hb : Below W.heap.size W w1) => leftOk q c N A n cp hs w1 h2 h3 h4 h6 (hsl.below hb) hh
  have g1 : (((leftL c q N hs).length : Int) == 0) = false := by
    rw [beq_eq_false_iff_ne]
    intro h
    exact hl (List.eq_nil_of_length_eq_zero (by omega))
  have g2 : ((leftL c q N hs).length == 0) = false := by
    rw [beq_eq_false_iff_ne]
    intro h
    exact hl (List.eq_nil_of_length_eq_zero h)
  clear hsl hx hg hh hN hl
  generalize leftL c q N hs = l at *
  go_enter Try.func68, Try.ntmps68
  go_wp2_with fail
  refine (HR.out _ HB0.out).mono ?_; rintro e w1 ⟨rfl, hb1⟩
  have HB1 := hid (below_call HB0.out hb1 (by simp))
  have hz1 : W.heap.size < w1.heap.size := by have := hb1.size; simp at this; omega
  have b1 := hid (B0.out.keep hb1)
  clear hb1
  go_wp2_with fail
  have HB2 := hid (HB1.out.alloc (by omega) (.cells #[.int .i64 q, .int .i64 c, .int .i64 N] 68))
  refine (HL.out _ HB2.out).mono ?_; rintro e w2 ⟨A2, c2, rfl, ho2, hb2⟩
  have HO2 := hid ho2
  have HB3 := hid (below_call HB2.out hb2 (by simp; omega))
  have hz2 : w1.heap.size < w2.heap.size := by have := hb2.size; simp at this; omega
  have b2 := hid ((b1.out.alloc (.cells #[.int .i64 q, .int .i64 c, .int .i64 N] 68)).keep hb2)
  have b3 := hid ((Blk.new w1 68 #[.int .i64 q, .int .i64 c, .int .i64 N]).keep hb2)
  have f0 := b2.out.free 0; have f1 := b2.out.free 1; have f2 := b2.out.free 2
  have y0 := b2.out.cell 0; have y1 := b2.out.cell 1; have y2 := b2.out.cell 2
  have z0 := b3.out.cell 0; have z1 := b3.out.cell 1; have z2 := b3.out.cell 2
  simp only [List.getElem?_toArray, List.getElem?_cons_zero, List.getElem?_cons_succ] at y0 y1 y2 z0 z1 z2
  clear hb2 ho2
  go_wp2
  refine bodyPost_ret (results_row_tmp2 rfl _ _ W.heap.size 68 #[.int .i64 q, .int .i64 c, .int .i64 N] (0, 0) _ rfl (((b2.out.set 0 _).set 1 _).set 2 _) Try.underlying68 rfl (by kernel_rfl)) rfl ⟨⟨A2, c2, rfl, ?_⟩, ?_⟩
  · exact own_set3 HO2.out (by simp; omega) (by simp; omega)
  · exact ((HB3.out.setCell (p := ⟨W.heap.size, 0, none⟩) (by simp) _).setCell (p := ⟨W.heap.size, 1, none⟩) (by simp) _).setCell (p := ⟨W.heap.size, 2, none⟩) (by simp) _
end Go.Proofs.Ytdclmhmdkhpekaa
