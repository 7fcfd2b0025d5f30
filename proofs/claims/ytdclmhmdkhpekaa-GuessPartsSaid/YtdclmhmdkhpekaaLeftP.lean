/- Walks of game.left and of its predicate, guess.Left, guess.played. Conditions: the game's numbers are small; the slices read as lists. -/
import Derived.Test.YtdclmhmdkhpekaaDelete
import Derived.Test.YtdclmhmdkhpekaaRefLeft
namespace Go.Proofs.Ytdclmhmdkhpekaa
open Go.RowKit Go.Maps

/-- A history: at most ten triples, codes and numbers of holes. -/
def histOk (p N : Nat) (hs : List Tri) : Bool := decide (hs.length ≤ 10) && hs.all fun x => decide (0 ≤ x.1) && (decide (x.1 < N) && (decide (0 ≤ x.2.1) && (decide (x.2.1 ≤ p) && (decide (0 ≤ x.2.2) && decide (x.2.2 ≤ p)))))
def triOk (p N : Nat) (x : Tri) : Prop := (0 ≤ x.1 ∧ x.1 < N) ∧ (0 ≤ x.2.1 ∧ x.2.1 ≤ p) ∧ 0 ≤ x.2.2 ∧ x.2.2 ≤ p
instance (p N : Nat) (x : Tri) : Decidable (triOk p N x) := by unfold triOk; infer_instance
theorem hist_iff {p N : Nat} {hs : List Tri} : histOk p N hs = true ↔ hs.length ≤ 10 ∧ ∀ x ∈ hs, triOk p N x := by
  simp [histOk, triOk, and_assoc]

set_option maxRecDepth 100000 in
set_option maxHeartbeats 1000000 in
theorem left1 (p : Nat) (c : Int) (N : Nat) (gb hb : Nat) (u : Tri) (b : Int) (hp : p ≤ 4) (hc1 : 1 ≤ c) (hc2 : c ≤ 6) (hu : 0 ≤ u.1 ∧ u.1 ≤ 1000) (hbb : 0 ≤ b ∧ b ≤ 1000) (W : World)
    (b0 : Blk W gb 68 #[.int .i64 p, .int .i64 c, .int .i64 N]) (b1 : Blk W hb 65 #[.int .i64 u.1, .int .i64 u.2.1, .int .i64 u.2.2]) :
    Calls Try.prog 93 (#[.int .i64 b] ++ #[.pointer (some ⟨gb, 0, none⟩), .pointer (some ⟨hb, 0, none⟩)]) W fun e w' => e = .returned (.bool (!(decide (black c u.1 b p = u.2.1) && decide (white c u.1 b p = u.2.2)))) ∧ Below W.heap.size W w' := by
  obtain ⟨u0, u1, u2⟩ := u
  simp only at *
  have c0 := b0.cell 0; have c1 := b0.cell 1; have c2 := b0.cell 2; have d0 := b1.cell 0; have d1 := b1.cell 1; have d2 := b1.cell 2
  simp only [List.getElem?_toArray, List.getElem?_cons_zero, List.getElem?_cons_succ] at c0 c1 c2 d0 d1 d2
  have HM := hid fun W => marks p c N u0 b (by omega) hc1 hc2 hu.1 hu.2 hbb.1 hbb.2 W
  have hcl : ∀ w', Below W.heap.size W w' → (w'.cell? ⟨gb, 0, none⟩ = some (.int .i64 p) ∧ w'.cell? ⟨gb, 1, none⟩ = some (.int .i64 c) ∧ w'.cell? ⟨gb, 2, none⟩ = some (.int .i64 N) ∧ w'.cell? ⟨hb, 0, none⟩ = some (.int .i64 u0) ∧ w'.cell? ⟨hb, 1, none⟩ = some (.int .i64 u1) ∧ w'.cell? ⟨hb, 2, none⟩ = some (.int .i64 u2)) := fun w' h =>
    ⟨cell_keep h c0, cell_keep h c1, cell_keep h c2, cell_keep h d0, cell_keep h d1, cell_keep h d2⟩
  have HCL := hid hcl
  clear b0 b1 hcl
  have e1 : ((black c u0 b p == u1) = true ∧ (white c u0 b p == u2) = true ∧ Hid ((!(decide (black c u0 b p = u1) && decide (white c u0 b p = u2))) = false)) ∨
      ((black c u0 b p == u1) = true ∧ (white c u0 b p == u2) = false ∧ Hid ((!(decide (black c u0 b p = u1) && decide (white c u0 b p = u2))) = true)) ∨ ((black c u0 b p == u1) = false ∧ True ∧ Hid ((!(decide (black c u0 b p = u1) && decide (white c u0 b p = u2))) = true)) := by
    by_cases h1 : black c u0 b p = u1
    · by_cases h2 : white c u0 b p = u2
      · exact .inl ⟨by rw [beq_iff_eq]; exact h1, by rw [beq_iff_eq]; exact h2, hid (by simp [h1, h2])⟩
      · exact .inr (.inl ⟨by rw [beq_iff_eq]; exact h1, by rw [beq_eq_false_iff_ne]; exact h2, hid (by simp [h2])⟩)
    · exact .inr (.inr ⟨by rw [beq_eq_false_iff_ne]; exact h1, trivial, hid (by simp [h1])⟩)
  generalize black c u0 b p = bk at *
  generalize white c u0 b p = wh at *
  rcases e1 with ⟨e1, e2, E⟩ | ⟨e1, e2, E⟩ | ⟨e1, e2, E⟩
  all_goals
    rw [E.out]
    go_enter Try.func93, Try.ntmps93
    go_wp2_with fail
    go_region_held3 (fun w' => w'.cell? ⟨gb, 0, none⟩ = some (.int .i64 p) ∧ w'.cell? ⟨gb, 1, none⟩ = some (.int .i64 c) ∧ w'.cell? ⟨gb, 2, none⟩ = some (.int .i64 N) ∧ w'.cell? ⟨hb, 0, none⟩ = some (.int .i64 u0) ∧ w'.cell? ⟨hb, 1, none⟩ = some (.int .i64 u1) ∧ w'.cell? ⟨hb, 2, none⟩ = some (.int .i64 u2)) (first | assumption | go_keep)
      ((go_at_call 54; refine (HM.out _).mono ?_; rintro e w1 ⟨rfl, hb1⟩; have hk1 := HCL.out w1 ((Below.refl _ _).drew.trans hb1); have HB1 := hid ((Below.refl W.heap.size W).drew.trans hb1); clear hb1))
    go_wp2
    go_ret
    exact ⟨rfl, HB1.out⟩

/-- What the predicate tells: a code that a triple does not leave. -/
def goneBy (c : Int) (p : Nat) (u : Tri) (b : Int) : Bool := !(decide (black c u.1 b p = u.2.1) && decide (white c u.1 b p = u.2.2))
theorem left_take {c : Int} {p N : Nat} {hs : List Tri} {j : Nat} {u : Tri} (h : hs[j]? = some u) : leftL c p N (hs.take (j + 1)) = (leftL c p N (hs.take j)).filter fun b => !goneBy c p u b := by
  unfold leftL
  rw [List.filter_filter]
  apply List.filter_congr
  intro b _
  rw [fits_take h]
  unfold goneBy
  rw [Bool.not_not, Bool.and_comm]
theorem left_len (c : Int) (p N : Nat) (hs : List Tri) : (leftL c p N hs).length ≤ N := by
  have := (left_rise c p N hs).le
  exact this

set_option maxRecDepth 100000 in
set_option maxHeartbeats 4000000 in
theorem leftOk (p : Nat) (c : Int) (N : Nat) (A : Option Addr) (n cp : Nat) (hs : List Tri) (W : World) (hp : p ≤ 4) (hc1 : 1 ≤ c) (hc2 : c ≤ 6) (hN : N ≤ 256) (hsl : Slt W A n cp hs) (hh : histOk p N hs = true) :
    Calls Try.prog 66 #[.agg #[.int .i64 p, .int .i64 c, .int .i64 N], .slice A n cp] W fun e w' => ∃ A' c', e = .returned (.tuple #[.slice A' (leftL c p N hs).length c', .bool true]) ∧ w'.ownsRow W.heap.size 3 1 (.slice A' (leftL c p N hs).length c') (leftL c p N hs).length ((leftL c p N hs).map (Value.int .i64)) ∧ Below W.heap.size W w' := by
  obtain ⟨hl10, htri⟩ := hist_iff.1 hh
  have hln := hsl.len
  have g1 : decide (10 < (n : Int)) = false := decide_eq_false (by omega)
  have g2 : decide (10 < n) = false := decide_eq_false (by omega)
  have hn10 : n ≤ 10 := by omega
  have HLN := hid hln; have HS := hid hsl; have HT := hid htri
  have k0 : (W.alloc (.cells #[.int .i64 p, .int .i64 c, .int .i64 N] 68)).cell? ⟨W.heap.size, 0, none⟩ = some (.int .i64 p) := by simp [go_sem]
  have k1 : (W.alloc (.cells #[.int .i64 p, .int .i64 c, .int .i64 N] 68)).cell? ⟨W.heap.size, 1, none⟩ = some (.int .i64 c) := by simp [go_sem]
  have k2 : (W.alloc (.cells #[.int .i64 p, .int .i64 c, .int .i64 N] 68)).cell? ⟨W.heap.size, 2, none⟩ = some (.int .i64 N) := by simp [go_sem]
  have HB0 := hid (Blk.new W 68 #[.int .i64 p, .int .i64 c, .int .i64 N])
  have HW0 := hid ((Below.refl W.heap.size W).alloc (Nat.le_refl _) (.cells #[.int .i64 p, .int .i64 c, .int .i64 N] 68))
  clear hsl hh hl10 htri hln
  go_enter Try.func66, Try.ntmps66
  go_wp2_with (go_at_call 56; refine (allS p c N (by omega) _).mono ?_; rintro e w1 ⟨A1, c1, rfl, ho1, hb1⟩; have HO1 := hid ho1; have HB1 := hid hb1; clear ho1 hb1)
  go_loopg [6, 16] n (fun g v i wr => ∃ j : Nat, g + j = n ∧ i = .int .i64 j ∧ (∃ A' c', v = .slice A' (leftL c p N (hs.take j)).length c' ∧ Hid (wr.ownsRow (W.heap.size + 1) 3 1 (.slice A' (leftL c p N (hs.take j)).length c') (leftL c p N (hs.take j)).length ((leftL c p N (hs.take j)).map (Value.int .i64)))) ∧ Hid (Blk wr W.heap.size 68 #[.int .i64 p, .int .i64 c, .int .i64 N]) ∧ Hid (Below W.heap.size W wr))
  case atStart =>
    have e0 : leftL c p N (hs.take 0) = upto N := by rw [List.take_zero, left_nil]
    refine ⟨0, by omega, rfl, ⟨A1, c1, by rw [e0, upto_len], ?_⟩, hid (HB0.out.keep HB1.out), hid (below_call HW0.out HB1.out (by simp))⟩
    rw [e0, upto_len]
    exact hid (by simpa using HO1.out)
  case round =>
    obtain ⟨j, hj, rfl, ⟨A', c', rfl, hO⟩, hB, hb⟩ := hrel
    have HJ := hid hj
    have hz := hB.out.lt
    by_cases hlt : j < n
    · obtain ⟨b, o, u, rfl, lb, hx, a0, a1, a2⟩ := (HS.out.below hb.out).at hlt
      have hu := HT.out u (List.mem_of_getElem? hx)
      have HX := hid hx
      obtain ⟨u0, u1, u2⟩ := u
      simp only [triOk] at a0 a1 a2 hu
      have h0 : wr.cell? ⟨b, o + j * 3, none⟩ = some (.int .i64 u0) := a0
      have h1 : wr.cell? ⟨b, o + j * 3 + 1, none⟩ = some (.int .i64 u1) := a1
      have h2 : wr.cell? ⟨b, o + j * 3 + 2, none⟩ = some (.int .i64 u2) := a2
      have d0 := hB.out.cell 0; have d1 := hB.out.cell 1; have d2 := hB.out.cell 2
      simp only [List.getElem?_toArray, List.getElem?_cons_zero, List.getElem?_cons_succ] at d0 d1 d2
      have t0 : decide (u0 < 0) = false := decide_eq_false (by omega)
      have t1 : decide ((N : Int) ≤ u0) = false := decide_eq_false (by omega)
      have t2 : decide (u1 < 0) = false := decide_eq_false (by omega)
      have t3 : decide (u2 < 0) = false := decide_eq_false (by omega)
      have t4 : decide ((p : Int) < u1) = false := decide_eq_false (by omega)
      have t5 : decide ((p : Int) < u2) = false := decide_eq_false (by omega)
      have hu0 : 0 ≤ u0 ∧ u0 ≤ 1000 := by omega
      have hlw := left_len c p N (hs.take j)
      have hD := deleteFunc (W.heap.size + 1) A' (leftL c p N (hs.take j)).length c' (leftL c p N (hs.take j)) 93 #[.pointer (some ⟨W.heap.size, 0, none⟩), .pointer (some ⟨wr.heap.size, 0, none⟩)] (goneBy c p (u0, u1, u2)) (wr.alloc (.cells #[.int .i64 u0, .int .i64 u1, .int .i64 u2] 65)) (hO.out.alloc _) (by omega)
        ⟨enters Try.func93 (by kernel_rfl) rfl, fun x hx Wx hg => by
          have hrow : ∀ k, (Value.slice A' (leftL c p N (hs.take j)).length c').ownBlock = some k → W.heap.size + 1 ≤ k ∧ k < wr.heap.size := hO.out.lt
          have hxm := (left_rise c p N (hs.take j)).mem x hx
          exact left1 p c N W.heap.size wr.heap.size (u0, u1, u2) x hp hc1 hc2 hu0 (by omega) Wx
            ((hB.out.alloc _).grown hg (fun e => by have := (hrow _ e.symm).1; omega)) ((Blk.new wr 65 _).grown hg (fun e => by have := (hrow _ e.symm).2; omega))⟩
      rw [← left_take HX.out] at hD
      have HD := hid hD
      have hrow : ∀ k, (Value.slice A' (leftL c p N (hs.take j)).length c').ownBlock = some k → W.heap.size + 1 ≤ k := fun k h => (hO.out.lt k h).1
      have HROW := hid hrow
      clear hj hx a0 a1 a2 hu hD hrow
      have hord : (u2 < u1 ∧ ¬ u1 < u2) ∨ (¬ u2 < u1 ∧ u1 < u2) ∨ (¬ u2 < u1 ∧ ¬ u1 < u2) := by omega
      rcases hord with ⟨o1, o2⟩ | ⟨o1, o2⟩ | ⟨o1, o2⟩
      all_goals
        go_wp2_with (go_at_call 92; (with_reducible refine HD.out.mono ?_); rintro e w2 ⟨⟨A2, m2, c2, rfl, ho2⟩, hg2⟩; have HO2 := hid ho2; have HG2 := hid hg2; clear ho2 hg2)
        go_roundg (gk - 1)
        case measure => have := HJ.out; omega
        case rel =>
          have hm2 : m2 = (leftL c p N (hs.take (j + 1))).length := by have := HO2.out.1; simpa using this.symm
          subst hm2
          refine ⟨j + 1, by have := HJ.out; omega, by go_num, ⟨A2, c2, rfl, HO2⟩, hid ((hB.out.alloc _).grown HG2.out (fun e => by have := HROW.out _ e.symm; omega)), hid ?_⟩
          exact (hb.out.alloc (by omega) _).grown HG2.out (by simp; omega) (fun k hk => by have := HROW.out k hk; omega)
    · obtain rfl : j = n := by omega
      have et : hs.take j = hs := List.take_of_length_le (by have := HLN.out; omega)
      rw [et] at hO ⊢
      clear hj et
      go_wp2
      go_ret2
      exact ⟨A', c', rfl, own_more hO.out (by omega), hb.out⟩
set_option maxRecDepth 100000 in
set_option maxHeartbeats 4000000 in
theorem leftBad (p : Nat) (c : Int) (N : Nat) (A : Option Addr) (n cp : Nat) (hs : List Tri) (W : World) (hp : p ≤ 4) (hc1 : 1 ≤ c) (hc2 : c ≤ 6) (hN : N ≤ 256) (hsl : Slt W A n cp hs) (hh : histOk p N hs = false) :
    Calls Try.prog 66 #[.agg #[.int .i64 p, .int .i64 c, .int .i64 N], .slice A n cp] W fun e w' => e = .returned (.tuple #[.slice none 0 0, .bool false]) ∧ Below W.heap.size W w' := by
  have hln := hsl.len
  by_cases hn10 : 10 < n
  · have g1 : decide (10 < (n : Int)) = true := decide_eq_true (by omega)
    have g2 : decide (10 < n) = true := decide_eq_true hn10
    have HW0 := hid ((Below.refl W.heap.size W).alloc (Nat.le_refl _) (.cells #[.int .i64 p, .int .i64 c, .int .i64 N] 68))
    clear hsl hh hln hn10
    go_enter Try.func66, Try.ntmps66
    go_wp2
    go_ret2
    exact ⟨rfl, HW0.out⟩
  have hex : ∃ x ∈ hs, ¬ triOk p N x := by
    apply Classical.byContradiction
    intro hne
    have : histOk p N hs = true := hist_iff.2 ⟨by omega, fun x hx => Classical.byContradiction fun h => hne ⟨x, hx, h⟩⟩
    rw [hh] at this; cases this
  have g1 : decide (10 < (n : Int)) = false := decide_eq_false (by omega)
  have g2 : decide (10 < n) = false := decide_eq_false (by omega)
  have hn10' : n ≤ 10 := by omega
  have HLN := hid hln; have HS := hid hsl; have HEX := hid hex
  have k0 : (W.alloc (.cells #[.int .i64 p, .int .i64 c, .int .i64 N] 68)).cell? ⟨W.heap.size, 0, none⟩ = some (.int .i64 p) := by simp [go_sem]
  have k1 : (W.alloc (.cells #[.int .i64 p, .int .i64 c, .int .i64 N] 68)).cell? ⟨W.heap.size, 1, none⟩ = some (.int .i64 c) := by simp [go_sem]
  have k2 : (W.alloc (.cells #[.int .i64 p, .int .i64 c, .int .i64 N] 68)).cell? ⟨W.heap.size, 2, none⟩ = some (.int .i64 N) := by simp [go_sem]
  have HB0 := hid (Blk.new W 68 #[.int .i64 p, .int .i64 c, .int .i64 N])
  have HW0 := hid ((Below.refl W.heap.size W).alloc (Nat.le_refl _) (.cells #[.int .i64 p, .int .i64 c, .int .i64 N] 68))
  clear hsl hh hex hln hn10
  go_enter Try.func66, Try.ntmps66
  go_wp2_with (go_at_call 56; refine (allS p c N (by omega) _).mono ?_; rintro e w1 ⟨A1, c1, rfl, ho1, hb1⟩; have HO1 := hid ho1; have HB1 := hid hb1; clear ho1 hb1)
  go_loopg [6, 16] n (fun g v i wr => ∃ j : Nat, g + j = n ∧ i = .int .i64 j ∧ Hid (∀ x ∈ hs.take j, triOk p N x) ∧ (∃ A' c', v = .slice A' (leftL c p N (hs.take j)).length c' ∧ Hid (wr.ownsRow (W.heap.size + 1) 3 1 (.slice A' (leftL c p N (hs.take j)).length c') (leftL c p N (hs.take j)).length ((leftL c p N (hs.take j)).map (Value.int .i64)))) ∧ Hid (Blk wr W.heap.size 68 #[.int .i64 p, .int .i64 c, .int .i64 N]) ∧ Hid (Below W.heap.size W wr))
  case atStart =>
    have e0 : leftL c p N (hs.take 0) = upto N := by rw [List.take_zero, left_nil]
    refine ⟨0, by omega, rfl, hid (by simp), ⟨A1, c1, by rw [e0, upto_len], ?_⟩, hid (HB0.out.keep HB1.out), hid (below_call HW0.out HB1.out (by simp))⟩
    rw [e0, upto_len]
    exact hid (by simpa using HO1.out)
  case round =>
    obtain ⟨j, hj, rfl, hALL, ⟨A', c', rfl, hO⟩, hB, hb⟩ := hrel
    have HJ := hid hj
    have hz := hB.out.lt
    by_cases hlt : j < n
    · obtain ⟨b, o, u, rfl, lb, hx, a0, a1, a2⟩ := (HS.out.below hb.out).at hlt
      have HX := hid hx
      obtain ⟨u0, u1, u2⟩ := u
      simp only at a0 a1 a2
      have h0 : wr.cell? ⟨b, o + j * 3, none⟩ = some (.int .i64 u0) := a0
      have h1 : wr.cell? ⟨b, o + j * 3 + 1, none⟩ = some (.int .i64 u1) := a1
      have h2 : wr.cell? ⟨b, o + j * 3 + 2, none⟩ = some (.int .i64 u2) := a2
      have d0 := hB.out.cell 0; have d1 := hB.out.cell 1; have d2 := hB.out.cell 2
      simp only [List.getElem?_toArray, List.getElem?_cons_zero, List.getElem?_cons_succ] at d0 d1 d2
      by_cases hu : triOk p N (u0, u1, u2)
      · have hu' := hu
        simp only [triOk] at hu'
        have t0 : decide (u0 < 0) = false := decide_eq_false (by omega)
        have t1 : decide ((N : Int) ≤ u0) = false := decide_eq_false (by omega)
        have t2 : decide (u1 < 0) = false := decide_eq_false (by omega)
        have t3 : decide (u2 < 0) = false := decide_eq_false (by omega)
        have t4 : decide ((p : Int) < u1) = false := decide_eq_false (by omega)
        have t5 : decide ((p : Int) < u2) = false := decide_eq_false (by omega)
        have hu0 : 0 ≤ u0 ∧ u0 ≤ 1000 := by omega
        have hlw := left_len c p N (hs.take j)
        have hD := deleteFunc (W.heap.size + 1) A' (leftL c p N (hs.take j)).length c' (leftL c p N (hs.take j)) 93 #[.pointer (some ⟨W.heap.size, 0, none⟩), .pointer (some ⟨wr.heap.size, 0, none⟩)] (goneBy c p (u0, u1, u2)) (wr.alloc (.cells #[.int .i64 u0, .int .i64 u1, .int .i64 u2] 65)) (hO.out.alloc _) (by omega)
          ⟨enters Try.func93 (by kernel_rfl) rfl, fun x hx Wx hg => by
            have hrow : ∀ k, (Value.slice A' (leftL c p N (hs.take j)).length c').ownBlock = some k → W.heap.size + 1 ≤ k ∧ k < wr.heap.size := hO.out.lt
            have hxm := (left_rise c p N (hs.take j)).mem x hx
            exact left1 p c N W.heap.size wr.heap.size (u0, u1, u2) x hp hc1 hc2 hu0 (by omega) Wx
              ((hB.out.alloc _).grown hg (fun e => by have := (hrow _ e.symm).1; omega)) ((Blk.new wr 65 _).grown hg (fun e => by have := (hrow _ e.symm).2; omega))⟩
        rw [← left_take HX.out] at hD
        have HD := hid hD
        have hrow : ∀ k, (Value.slice A' (leftL c p N (hs.take j)).length c').ownBlock = some k → W.heap.size + 1 ≤ k := fun k h => (hO.out.lt k h).1
        have HROW := hid hrow
        have HU := hid hu
        clear hj hx a0 a1 a2 hu hu' hD hrow
        have hord : (u2 < u1 ∧ ¬ u1 < u2) ∨ (¬ u2 < u1 ∧ u1 < u2) ∨ (¬ u2 < u1 ∧ ¬ u1 < u2) := by omega
        rcases hord with ⟨o1, o2⟩ | ⟨o1, o2⟩ | ⟨o1, o2⟩
        all_goals
          go_wp2_with (go_at_call 92; (with_reducible refine HD.out.mono ?_); rintro e w2 ⟨⟨A2, m2, c2, rfl, ho2⟩, hg2⟩; have HO2 := hid ho2; have HG2 := hid hg2; clear ho2 hg2)
          go_roundg (gk - 1)
          case measure => have := HJ.out; omega
          case rel =>
            have hm2 : m2 = (leftL c p N (hs.take (j + 1))).length := by have := HO2.out.1; simpa using this.symm
            subst hm2
            refine ⟨j + 1, by have := HJ.out; omega, by go_num, hid (by
              rw [List.take_add_one, HX.out]
              intro x hx
              rcases List.mem_append.1 hx with h | h
              · exact hALL.out x h
              · simp at h; subst h; exact HU.out), ⟨A2, c2, rfl, HO2⟩, hid ((hB.out.alloc _).grown HG2.out (fun e => by have := HROW.out _ e.symm; omega)), hid ?_⟩
            exact (hb.out.alloc (by omega) _).grown HG2.out (by simp; omega) (fun k hk => by have := HROW.out k hk; omega)
      · simp only [triOk] at hu
        have hcase : (u0 < 0) ∨ (¬ u0 < 0 ∧ (N : Int) ≤ u0) ∨ ((¬ u0 < 0 ∧ ¬ (N : Int) ≤ u0) ∧ (u2 < u1 ∧ u2 < 0)) ∨ ((¬ u0 < 0 ∧ ¬ (N : Int) ≤ u0) ∧ (¬ u2 < u1 ∧ u1 < 0)) ∨
            ((¬ u0 < 0 ∧ ¬ (N : Int) ≤ u0) ∧ (u2 < u1 ∧ ¬ u2 < 0) ∧ ¬ u1 < u2 ∧ (p : Int) < u1) ∨ ((¬ u0 < 0 ∧ ¬ (N : Int) ≤ u0) ∧ (¬ u2 < u1 ∧ ¬ u1 < 0) ∧ u1 < u2 ∧ (p : Int) < u2) ∨ ((¬ u0 < 0 ∧ ¬ (N : Int) ≤ u0) ∧ (¬ u2 < u1 ∧ ¬ u1 < 0) ∧ ¬ u1 < u2 ∧ (p : Int) < u1) := by omega
        have HBX := hid (hb.out.alloc (show W.heap.size ≤ wr.heap.size by omega) (.cells #[.int .i64 u0, .int .i64 u1, .int .i64 u2] 65))
        clear hj hx a0 a1 a2 hu
        rcases hcase with q | ⟨q1, q2⟩ | ⟨⟨q1, q2⟩, q3, q4⟩ | ⟨⟨q1, q2⟩, q3, q4⟩ | ⟨⟨q1, q2⟩, ⟨q3, q4⟩, q5, q6⟩ | ⟨⟨q1, q2⟩, ⟨q3, q4⟩, q5, q6⟩ | ⟨⟨q1, q2⟩, ⟨q3, q4⟩, q5, q6⟩
        · have t0 : decide (u0 < 0) = true := decide_eq_true q
          go_wp2
          go_ret2
          exact ⟨rfl, HBX.out⟩
        · have t0 : decide (u0 < 0) = false := decide_eq_false q1
          have t1 : decide ((N : Int) ≤ u0) = true := decide_eq_true q2
          go_wp2
          go_ret2
          exact ⟨rfl, HBX.out⟩
        all_goals
          have t0 : decide (u0 < 0) = false := decide_eq_false q1
          have t1 : decide ((N : Int) ≤ u0) = false := decide_eq_false q2
        · have t2 : decide (u2 < 0) = true := decide_eq_true q4
          go_wp2
          go_ret2
          exact ⟨rfl, HBX.out⟩
        · have t2 : decide (u1 < 0) = true := decide_eq_true q4
          go_wp2
          go_ret2
          exact ⟨rfl, HBX.out⟩
        · have t2 : decide (u2 < 0) = false := decide_eq_false q4
          have t3 : decide ((p : Int) < u1) = true := decide_eq_true q6
          go_wp2
          go_ret2
          exact ⟨rfl, HBX.out⟩
        · have t2 : decide (u1 < 0) = false := decide_eq_false q4
          have t3 : decide ((p : Int) < u2) = true := decide_eq_true q6
          go_wp2
          go_ret2
          exact ⟨rfl, HBX.out⟩
        · have t2 : decide (u1 < 0) = false := decide_eq_false q4
          have t3 : decide ((p : Int) < u1) = true := decide_eq_true q6
          go_wp2
          go_ret2
          exact ⟨rfl, HBX.out⟩
    · obtain rfl : j = n := by omega
      have et : hs.take j = hs := List.take_of_length_le (by have := HLN.out; omega)
      rw [et] at hALL
      obtain ⟨x, hx, hne⟩ := HEX.out
      exact absurd (hALL.out x hx) hne
end Go.Proofs.Ytdclmhmdkhpekaa
