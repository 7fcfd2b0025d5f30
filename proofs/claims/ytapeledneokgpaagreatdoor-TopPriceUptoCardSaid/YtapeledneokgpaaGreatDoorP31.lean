/- Texts of this proof, one behind the other; each says its condition at its head. -/
import Derived.Test.YtapeledneokgpaaGreatDoorP30
import Derived.Test.YtapeledneokgpaaGreatDoorP23
/- Plain law of the corners of bets: each is a belief that agrees with all of them. No program in sight. -/
namespace Go.Proofs.YtapeledneokgpaaGreatDoor
open Go.RowKit
def evE (l : List (Int × Int)) (i : Nat) : Int := if i = 0 then 7 else (l.getD (i - 1) (0, 0)).1
def rtE (l : List (Int × Int)) (i : Nat) : Int := if i = 0 then 12 else (l.getD (i - 1) (0, 0)).2
/-- The chance of an event, in twelfths. -/
def evB (e b0 b1 b2 : Int) : Int := bitV e (0 : Nat) * b0 + bitV e (1 : Nat) * b1 + bitV e (2 : Nat) * b2
theorem row_lin {D : Int} {l : List (Int × Int)} {ws : List Nat} {x : Nat → Int} {i : Nat} : linF D ws.length (eqF l ws) x i = linS (fun c => 12 * bitV (evE l i) (ws.getD c 0 : Nat)) x ws.length - D * (12 * rtE l i) := by
 unfold linF
 rw [linS_congr (s := fun c => 12 * bitV (evE l i) (ws.getD c 0 : Nat)) fun c hc => by unfold eqF evE; rw [if_pos hc]]
 unfold eqF rtE
 rw [if_neg (by omega)]
theorem m12 (a x : Int) : 12 * a * x = 12 * (a * x) := Int.mul_assoc ..
theorem corner_row {l : List (Int × Int)} {s : Nat} {xs : List Int} (h1 : 1 ≤ s) (h8 : s < 8) (hlen : xs.length = (wsOf s).length) (hn : ∀ x ∈ xs, 0 ≤ x) (hr : ∀ i, i < l.length + 1 → linF 1 (wsOf s).length (eqF l (wsOf s)) (fun c => xs.getD c 0) i = 0) :
 ∃ b0 b1 b2, beliefOf (wsOf s) xs = [b0, b1, b2] ∧ 0 ≤ b0 ∧ 0 ≤ b1 ∧ 0 ≤ b2 ∧ ∀ i, i < l.length + 1 → evB (evE l i) b0 b1 b2 = rtE l i := by
 have one : ∀ (v : Nat) (x : Int) (i : Nat), linF 1 [v].length (eqF l [v]) (fun c => [x].getD c 0) i = 12 * bitV (evE l i) (v : Nat) * x - 12 * rtE l i := fun v x i => by
  rw [row_lin]; simp [linS]
 have two : ∀ (v u : Nat) (x y : Int) (i : Nat), linF 1 [v, u].length (eqF l [v, u]) (fun c => [x, y].getD c 0) i = 12 * bitV (evE l i) (v : Nat) * x + 12 * bitV (evE l i) (u : Nat) * y - 12 * rtE l i := fun v u x y i => by
  rw [row_lin]; simp [linS]
 have three : ∀ (v u t : Nat) (x y z : Int) (i : Nat), linF 1 [v, u, t].length (eqF l [v, u, t]) (fun c => [x, y, z].getD c 0) i = 12 * bitV (evE l i) (v : Nat) * x + 12 * bitV (evE l i) (u : Nat) * y + 12 * bitV (evE l i) (t : Nat) * z - 12 * rtE l i := fun v u t x y z i => by
  rw [row_lin]; simp [linS]
 rcases (show s = 1 ∨ s = 2 ∨ s = 3 ∨ s = 4 ∨ s = 5 ∨ s = 6 ∨ s = 7 by omega) with rfl | rfl | rfl | rfl | rfl | rfl | rfl
 · rw [show wsOf 1 = [0] from rfl] at *
   match xs, hlen with
   | [x], _ =>
    refine ⟨x, 0, 0, rfl, hn x (by simp), Int.le_refl _, Int.le_refl _, fun i hi => ?_⟩
    have := hr i hi
    rw [one, m12] at this
    unfold evB
    omega
 · rw [show wsOf 2 = [1] from rfl] at *
   match xs, hlen with
   | [x], _ =>
    refine ⟨0, x, 0, rfl, Int.le_refl _, hn x (by simp), Int.le_refl _, fun i hi => ?_⟩
    have := hr i hi
    rw [one, m12] at this
    unfold evB
    omega
 · rw [show wsOf 3 = [0, 1] from rfl] at *
   match xs, hlen with
   | [x, y], _ =>
    refine ⟨x, y, 0, rfl, hn x (by simp), hn y (by simp), Int.le_refl _, fun i hi => ?_⟩
    have := hr i hi
    rw [two, m12, m12] at this
    unfold evB
    omega
 · rw [show wsOf 4 = [2] from rfl] at *
   match xs, hlen with
   | [x], _ =>
    refine ⟨0, 0, x, rfl, Int.le_refl _, Int.le_refl _, hn x (by simp), fun i hi => ?_⟩
    have := hr i hi
    rw [one, m12] at this
    unfold evB
    omega
 · rw [show wsOf 5 = [0, 2] from rfl] at *
   match xs, hlen with
   | [x, y], _ =>
    refine ⟨x, 0, y, rfl, hn x (by simp), Int.le_refl _, hn y (by simp), fun i hi => ?_⟩
    have := hr i hi
    rw [two, m12, m12] at this
    unfold evB
    omega
 · rw [show wsOf 6 = [1, 2] from rfl] at *
   match xs, hlen with
   | [x, y], _ =>
    refine ⟨0, x, y, rfl, Int.le_refl _, hn x (by simp), hn y (by simp), fun i hi => ?_⟩
    have := hr i hi
    rw [two, m12, m12] at this
    unfold evB
    omega
 · rw [show wsOf 7 = [0, 1, 2] from rfl] at *
   match xs, hlen with
   | [x, y, z], _ =>
    refine ⟨x, y, z, rfl, hn x (by simp), hn y (by simp), hn z (by simp), fun i hi => ?_⟩
    have := hr i hi
    rw [three, m12, m12, m12] at this
    unfold evB
    omega
/-- A belief that agrees with bets, in twelfths. -/
def Agr (l : List (Int × Int)) (b : List Int) : Prop := ∃ b0 b1 b2, b = [b0, b1, b2] ∧ 0 ≤ b0 ∧ 0 ≤ b1 ∧ 0 ≤ b2 ∧ b0 + b1 + b2 = 12 ∧ ∀ u ∈ l, evB u.1 b0 b1 b2 = u.2
theorem evB_seven (b0 b1 b2 : Int) : evB 7 b0 b1 b2 = b0 + b1 + b2 := by
 unfold evB
 rw [bit_seven (by omega), bit_seven (by omega), bit_seven (by omega)]
 omega
theorem corner_agr {l : List (Int × Int)} {s : Nat} {b : List Int} (hl : BetOk l) (h1 : 1 ≤ s) (h8 : s < 8) (h : cornerOf l s = some b) : Agr l b := by
 unfold cornerOf at h
 cases hx : solveF (l.length + 1) (wsOf s).length (eqF l (wsOf s)) with
 | none => rw [hx] at h; cases h
 | some xs =>
  rw [hx] at h
  simp only at h
  split at h
  · cases h
  · rename_i hneg
    cases h
    have hk := wsOf_len ⟨s, h8⟩ h1
    obtain ⟨hlen, hrow, _⟩ := solve_sol hk.2 (by omega) (eqF_inv hl (wsOf_lt s)) hx
    obtain ⟨b0, b1, b2, e, n0, n1, n2, hr⟩ := corner_row (l := l) h1 h8 hlen (fun x hx => by
     rw [Bool.not_eq_true, List.any_eq_false] at hneg
     have := hneg x hx
     simp only [decide_eq_true_eq] at this
     omega) hrow
    refine ⟨b0, b1, b2, e, n0, n1, n2, ?_, fun u hu => ?_⟩
    · have := hr 0 (by omega)
      unfold evE rtE at this
      rw [if_pos rfl, if_pos rfl, evB_seven] at this
      exact this
    · obtain ⟨j, hj⟩ := List.getElem?_of_mem hu
      have hjl := (List.getElem?_eq_some_iff.1 hj).1
      have := hr (j + 1) (by omega)
      unfold evE rtE at this
      rw [if_neg (by omega), if_neg (by omega), Nat.add_sub_cancel, List.getD_eq_getElem?_getD, hj] at this
      exact this
theorem corners_agr {l : List (Int × Int)} (hl : BetOk l) {b : List Int} (h : b ∈ cornersL l) : Agr l b := by
 unfold cornersL cornersTo at h
 rw [List.mem_filterMap] at h
 obtain ⟨s, hs, hb⟩ := h
 rw [List.mem_map] at hs
 obtain ⟨d, hd, rfl⟩ := hs
 have := List.mem_range.1 hd
 exact corner_agr hl (by omega) (by omega) hb
end Go.Proofs.YtapeledneokgpaaGreatDoor
/- Plain law of the prices of an event: they lie between the bounds, and a bet at one of them, and at no other, stays sound. No program in sight. -/
namespace Go.Proofs.YtapeledneokgpaaGreatDoor
open Go.RowKit
def evOf (e : Int) (b : List Int) : Int := evB e (b.getD 0 0) (b.getD 1 0) (b.getD 2 0)
/-- One round of Bounds. -/
def stepB (e : Int) (p : Int × Int) (b : List Int) : Int × Int := if evOf e b < p.1 then (evOf e b, p.2) else if p.2 < evOf e b then (p.1, evOf e b) else p
def bndFrom (e : Int) (p : Int × Int) (cs : List (List Int)) : Int × Int := cs.foldl (stepB e) p
def bndL (e : Int) (cs : List (List Int)) : Int × Int := bndFrom e (evOf e (cs.headD []), evOf e (cs.headD [])) cs
/-- The prices of an event. -/
def priceL (l : List (Int × Int)) (e : Int) : List Nat := (List.range 13).filter fun c => !decide ((c : Int) < (bndL e (cornersL l)).1) && !decide ((bndL e (cornersL l)).2 < (c : Int))
/-- The bets that price looks at: if there is none, one that says nothing. -/
def allB (l : List (Int × Int)) : List (Int × Int) := if l.length = 0 then [(0, 0)] else l
theorem stepB_le {e : Int} {p : Int × Int} {b : List Int} (h : p.1 ≤ p.2) : (stepB e p b).1 ≤ p.1 ∧ p.2 ≤ (stepB e p b).2 ∧ (stepB e p b).1 ≤ evOf e b ∧ evOf e b ≤ (stepB e p b).2 ∧ (stepB e p b).1 ≤ (stepB e p b).2 := by
 unfold stepB
 split
 · simp only; omega
 · split <;> (try simp only) <;> omega
theorem bndFrom_le {e : Int} : ∀ {cs : List (List Int)} {p : Int × Int}, p.1 ≤ p.2 → (bndFrom e p cs).1 ≤ p.1 ∧ p.2 ≤ (bndFrom e p cs).2 ∧ ∀ b ∈ cs, (bndFrom e p cs).1 ≤ evOf e b ∧ evOf e b ≤ (bndFrom e p cs).2
 | [], p, h => ⟨Int.le_refl _, Int.le_refl _, fun b hb => by simp at hb⟩
 | b :: cs, p, h => by
  obtain ⟨s1, s2, s3, s4, s5⟩ := stepB_le (e := e) (b := b) h
  obtain ⟨h1, h2, h3⟩ := bndFrom_le (e := e) (cs := cs) (p := stepB e p b) s5
  have hu : bndFrom e p (b :: cs) = bndFrom e (stepB e p b) cs := rfl
  rw [hu]
  refine ⟨by omega, by omega, fun c hc => ?_⟩
  rcases List.mem_cons.1 hc with rfl | hc
  · exact ⟨by omega, by omega⟩
  · exact h3 c hc
theorem bndFrom_at {e : Int} : ∀ {cs all : List (List Int)} {p : Int × Int}, (∀ b ∈ cs, b ∈ all) → (∃ b ∈ all, p.1 = evOf e b) → (∃ b ∈ all, p.2 = evOf e b) → (∃ b ∈ all, (bndFrom e p cs).1 = evOf e b) ∧ ∃ b ∈ all, (bndFrom e p cs).2 = evOf e b
 | [], all, p, _, h1, h2 => ⟨h1, h2⟩
 | b :: cs, all, p, ha, h1, h2 => by
  have hb := ha b (by simp)
  have hu : bndFrom e p (b :: cs) = bndFrom e (stepB e p b) cs := rfl
  rw [hu]
  refine bndFrom_at (fun c hc => ha c (by simp [hc])) ?_ ?_
  · unfold stepB
    split
    · exact ⟨b, hb, rfl⟩
    · split <;> exact h1
  · unfold stepB
    split
    · exact h2
    · split
      · exact ⟨b, hb, rfl⟩
      · exact h2
theorem bndL_le {e : Int} {cs : List (List Int)} : ∀ b ∈ cs, (bndL e cs).1 ≤ evOf e b ∧ evOf e b ≤ (bndL e cs).2 := (bndFrom_le (Int.le_refl _)).2.2
theorem bndL_at {e : Int} {cs : List (List Int)} (h : cs ≠ []) : (∃ b ∈ cs, (bndL e cs).1 = evOf e b) ∧ ∃ b ∈ cs, (bndL e cs).2 = evOf e b := by
 match cs, h with
 | b :: cs, _ => exact bndFrom_at (fun _ h => h) ⟨b, by simp, rfl⟩ ⟨b, by simp, rfl⟩
theorem evB_bd {e b0 b1 b2 : Int} (h0 : 0 ≤ b0) (h1 : 0 ≤ b1) (h2 : 0 ≤ b2) : 0 ≤ evB e b0 b1 b2 ∧ evB e b0 b1 b2 ≤ b0 + b1 + b2 := by
 unfold evB
 have k : ∀ (v : Nat) (x : Int), 0 ≤ x → 0 ≤ bitV e (v : Nat) * x ∧ bitV e (v : Nat) * x ≤ x := fun v x hx => by
  rcases (show bitV e (v : Nat) = 0 ∨ bitV e (v : Nat) = 1 by have := bitV_bd e (v : Nat); omega) with h | h <;> rw [h] <;> omega
 have k0 := k 0 b0 h0
 have k1 := k 1 b1 h1
 have k2 := k 2 b2 h2
 omega
theorem agr_ev {l : List (Int × Int)} {b : List Int} (h : Agr l b) (e : Int) : 0 ≤ evOf e b ∧ evOf e b ≤ 12 := by
 obtain ⟨b0, b1, b2, rfl, n0, n1, n2, hs, _⟩ := h
 have := evB_bd (e := e) n0 n1 n2
 unfold evOf
 simp only [List.getD_cons_zero, List.getD_cons_succ]
 omega
theorem bnd_ok {l : List (Int × Int)} (hl : BetOk l) (h : cornersL l ≠ []) (e : Int) : 0 ≤ (bndL e (cornersL l)).1 ∧ (bndL e (cornersL l)).1 ≤ (bndL e (cornersL l)).2 ∧ (bndL e (cornersL l)).2 ≤ 12 := by
 obtain ⟨⟨b, hb, e1⟩, ⟨c, hc, e2⟩⟩ := bndL_at (e := e) h
 have h1 := agr_ev (corners_agr hl hb) e
 have h2 := agr_ev (corners_agr hl hc) e
 have h3 := bndL_le (e := e) b hb
 omega
theorem price_mem {l : List (Int × Int)} {e : Int} {c : Nat} : c ∈ priceL l e ↔ c < 13 ∧ (bndL e (cornersL l)).1 ≤ c ∧ (c : Int) ≤ (bndL e (cornersL l)).2 := by
 unfold priceL
 rw [List.mem_filter, List.mem_range]
 simp only [Bool.and_eq_true, Bool.not_eq_true', decide_eq_false_iff_not]
 omega
theorem allB_ok {l : List (Int × Int)} (h : BetI l) : BetOk (allB l) := by
 unfold allB
 split
 · exact ⟨by decide, by decide, fun u hu => by simp at hu; subst hu; decide, by simp⟩
 · exact h.ok (by omega)
theorem corner_zero : cornersL [(0, 0)] ≠ [] := by decide
end Go.Proofs.YtapeledneokgpaaGreatDoor
/- Walks of belief.of and of less. Condition: chances that are twelfths. -/
namespace Go.Proofs.YtapeledneokgpaaGreatDoor
open Go.RowKit Go.Maps
attribute [local go_sem ↓] shr_v and_shr
def evP (e : Int) (b : List Int) : Nat → Int
 | 0 => 0
 | k + 1 => evP e b k + bitV e (k : Nat) * b.getD k 0
theorem evP_three (e : Int) (b : List Int) : evP e b 3 = evOf e b := by
 show 0 + bitV e (0 : Nat) * b.getD 0 0 + bitV e (1 : Nat) * b.getD 1 0 + bitV e (2 : Nat) * b.getD 2 0 = evOf e b
 rw [Int.zero_add]
 rfl
theorem evP_bd {e : Int} {b : List Int} (hb : ∀ x ∈ b, 0 ≤ x ∧ x ≤ 12) : ∀ k : Nat, 0 ≤ evP e b k ∧ evP e b k ≤ 12 * k
 | 0 => ⟨Int.le_refl _, Int.le_refl _⟩
 | k + 1 => by
  have h1 := evP_bd (e := e) hb k
  have h2 : 0 ≤ b.getD k 0 ∧ b.getD k 0 ≤ 12 := by
   rw [List.getD_eq_getElem?_getD]
   cases h : b[k]? with
   | none => simp
   | some x => exact hb x (List.mem_of_getElem? h)
  show 0 ≤ evP e b k + bitV e (k : Nat) * b.getD k 0 ∧ evP e b k + bitV e (k : Nat) * b.getD k 0 ≤ 12 * ((k + 1 : Nat) : Int)
  rcases (show bitV e (k : Nat) = 0 ∨ bitV e (k : Nat) = 1 by have := bitV_bd e (k : Nat); omega) with h | h <;> rw [h] <;> omega
set_option maxRecDepth 100000 in
set_option maxHeartbeats 4000000 in
theorem ofB (e : Int) (b : List Int) (A : Option Addr) (c : Nat) (w : World) (hs : Sl2 w A 3 c (b.map tw)) (hb : ∀ x ∈ b, 0 ≤ x ∧ x ≤ 12) :
 Calls Tryz.prog 104 #[.slice A 3 c, .int .i64 e] w fun r w' => r = .returned (frV (tw (evOf e b))) ∧ Below w.heap.size w w' := by
 have HS := hid hs
 have HBB := hid hb
 have HBD := hid fun k => evP_bd (e := e) hb k
 have HWH := hid fun W => whole_tw 0 W
 rw [show (12 * 0 : Int) = evP e b 0 from rfl] at HWH
 have H4 := hid (Blk.new w 48 #[.int .i64 0, .int .i64 0])
 have HB4 := hid ((Below.refl w.heap.size w).alloc (Nat.le_refl _) (.cells #[.int .i64 0, .int .i64 0] 48))
 clear hs hb
 rw [← evP_three e b]
 unfold frV at HWH ⊢
 go_enter Tryz.func104, Tryz.ntmps104
 go_wp2_with fail
 refine (HWH.out _).mono ?_; rintro r w1 ⟨rfl, b1⟩
 have H4L := hid (H4.out.keep b1).lt
 have H4 := hid (H4.out.keep b1)
 have HB4 := hid (below_call HB4.out b1 HB4.out.size)
 clear b1 HWH
 have H5 := hid (Blk.new w1 48 #[.int .i64 (tw (evP e b 0)).1, .int .i64 (tw (evP e b 0)).2])
 have H4 := hid (H4.out.alloc (.cells #[.int .i64 (tw (evP e b 0)).1, .int .i64 (tw (evP e b 0)).2] 48))
 have HB5 := hid (HB4.out.alloc HB4.out.size (.cells #[.int .i64 (tw (evP e b 0)).1, .int .i64 (tw (evP e b 0)).2] 48))
 have H45 := hid (show w.heap.size ≠ w1.heap.size from by have := H4L.out; omega)
 have H45L := hid (show w.heap.size ≤ w1.heap.size from HB4.out.size)
 clear HB4
 go_wp2_with fail
 generalize w1.alloc (.cells #[.int .i64 (tw (evP e b 0)).1, .int .i64 (tw (evP e b 0)).2] 48) = W0 at *
 generalize w1.heap.size = b5 at *
 go_loopg [11] 3 (fun gk i wr => ∃ k : Nat, gk + k = 3 ∧ i = .int .i64 k ∧ Hid (Blk wr b5 48 #[.int .i64 (tw (evP e b k)).1, .int .i64 (tw (evP e b k)).2]) ∧ Hid (Blk wr w.heap.size 48 #[.int .i64 0, .int .i64 0]) ∧ Hid (Below w.heap.size w wr))
 case atStart => exact ⟨0, rfl, rfl, H5, H4, HB5⟩
 case round =>
  clear H4 H5 HB5
  obtain ⟨k, hk, rfl, H5, H4, HB⟩ := hrel
  have HK := hid hk
  by_cases hlt : k < 3
  · have HLT := hid hlt
    obtain ⟨g, o, u, rfl, lb, e1, c0, c1⟩ := (HS.out.below HB.out).at hlt
    rw [List.getElem?_map] at e1
    obtain ⟨x, hx, rfl⟩ := Option.map_eq_some_iff.1 e1
    have e2 : o + k * 2 + 1 = o + (k * 2 + 1) := by omega
    rw [← e2] at c1
    have hxb := HBB.out x (List.mem_of_getElem? hx)
    have hev : evP e b (k + 1) = evP e b k + bitV e (k : Nat) * x := by
     show evP e b k + bitV e (k : Nat) * b.getD k 0 = _
     rw [List.getD_eq_getElem?_getD, hx]; rfl
    have hbd := HBD.out k
    have HPL := hid fun W => plus_tw (evP e b k) x 1 (by unfold rg; omega) (by unfold rg; omega) (.inl rfl) W
    unfold frV at HPL
    have fk : Fits (k : Int) := ⟨by omega, by omega⟩
    have hk3 : (k : Int) < 3 := by omega
    have HA5 := hid (H5.out.alloc (.cells #[.int .i64 (tw x).1, .int .i64 (tw x).2] 48))
    have HA4 := hid (H4.out.alloc (.cells #[.int .i64 (tw x).1, .int .i64 (tw x).2] 48))
    have HAB := hid (HB.out.alloc HB.out.size (.cells #[.int .i64 (tw x).1, .int .i64 (tw x).2] 48))
    have HA7 := hid (Blk.new wr 48 #[.int .i64 (tw x).1, .int .i64 (tw x).2])
    have p0 := HA5.out.cell 0
    have p1 := HA5.out.cell 1
    have q0 := HA7.out.cell 0
    have q1 := HA7.out.cell 1
    simp only [List.getElem?_toArray, List.getElem?_cons_zero, List.getElem?_cons_succ] at p0 p1 q0 q1
    clear H4 H5 HB hk e1 hx hxb hbd lb e2
    rcases (show bitV e (k : Nat) = 0 ∨ bitV e (k : Nat) = 1 by have := bitV_bd e (k : Nat); omega) with h | h
    · have hb1 : (bitV e (k : Nat) == 1) = false := by rw [h]; rfl
      have HEV := hid (show evP e b (k + 1) = evP e b k by rw [hev, h]; omega)
      clear h hev HPL
      go_wp2
      go_roundg (gk - 1)
      case measure => have := HK.out; have := HLT.out; omega
      case rel => exact ⟨k + 1, by have := HK.out; have := HLT.out; omega, by go_num, by rw [HEV.out]; exact HA5, HA4, HAB⟩
    · have hb1 : (bitV e (k : Nat) == 1) = true := by rw [h]; rfl
      have HEV := hid (show evP e b (k + 1) = evP e b k + 1 * x by rw [hev, h])
      clear h hev
      generalize evP e b k + 1 * x = z at *
      generalize tw (evP e b k) = P at *
      generalize tw x = X at *
      go_wp2_with fail
      refine (HPL.out _).mono ?_; rintro r w2 ⟨rfl, b2⟩
      have HA5 := hid (HA5.out.keep b2); have HA4 := hid (HA4.out.keep b2); have HAB := hid (below_call HAB.out b2 HAB.out.size)
      have f0 := HA5.out.free 0
      have f1 := HA5.out.free 1
      have r0 := HA5.out.cell 0
      have r1 := HA5.out.cell 1
      simp only [List.getElem?_toArray, List.getElem?_cons_zero, List.getElem?_cons_succ] at r0 r1
      clear HPL b2 p0 p1 q0 q1 HA7
      go_wp2
      go_roundg (gk - 1)
      case measure => have := HK.out; have := HLT.out; omega
      case rel =>
       have hne := H45.out
       have hle := H45L.out
       exact ⟨k + 1, by have := HK.out; have := HLT.out; omega, by go_num, by rw [HEV.out]; exact hid ((HA5.out.set 0 _).set 1 _), hid ((HA4.out.far (p := ⟨b5, 0, none⟩) hne _).far (p := ⟨b5, 1, none⟩) hne _), hid ((HAB.out.setCell (p := ⟨b5, 0, none⟩) hle _).setCell (p := ⟨b5, 1, none⟩) hle _)⟩
  · obtain rfl : k = 3 := by have := HK.out; omega
    have r0 := H5.out.cell 0
    have r1 := H5.out.cell 1
    have f0 := H4.out.free 0
    have f1 := H4.out.free 1
    have s0 := H4.out.cell 0
    have s1 := H4.out.cell 1
    simp only [List.getElem?_toArray, List.getElem?_cons_zero, List.getElem?_cons_succ] at r0 r1 s0 s1
    go_wp2
    exact bodyPost_ret (results_row1 rfl _ _ w.heap.size 48 #[.int .i64 (tw (evP e b 3)).1, .int .i64 (tw (evP e b 3)).2] (0, 0) _ rfl ((H4.out.set 0 _).set 1 _) Tryz.underlying48 rfl (by kernel_rfl)) rfl ⟨rfl, (HB.out.setCell (p := ⟨w.heap.size, 0, none⟩) (Nat.le_refl _) _).setCell (p := ⟨w.heap.size, 1, none⟩) (Nat.le_refl _) _⟩
set_option maxRecDepth 100000 in
set_option maxHeartbeats 2000000 in
theorem lessT (x y : Int) (hx : rg x) (hy : rg y) (hxy : rg (x - y)) (w : World) :
 Calls Tryz.prog 67 #[frV (tw x), frV (tw y)] w fun r w' => r = .returned (.bool (decide (x < y))) ∧ Below w.heap.size w w' := by
 have HP := hid fun W => plus_tw x y (-1) hx hy (.inr rfl) W
 have hd : decide (x < y) = decide ((tw (x + -1 * y)).1 < 0) := by
  rw [show x + -1 * y = x - y by omega, decide_eq_decide, tw_neg hxy]
  omega
 rw [hd]
 unfold frV at HP ⊢
 generalize tw (x + -1 * y) = z at *
 generalize tw x = X at *
 generalize tw y = Y at *
 clear hd hx hy hxy
 have HW := hid (((Below.refl w.heap.size w).alloc (Nat.le_refl _) (.cells #[.int .i64 X.1, .int .i64 X.2] 48)).alloc (by simp) (.cells #[.int .i64 Y.1, .int .i64 Y.2] 48))
 go_enter Tryz.func67, Tryz.ntmps67
 go_wp2_with fail
 refine (HP.out _).mono ?_; rintro r w1 ⟨rfl, b1⟩
 have HB1 := hid (below_call HW.out b1 HW.out.size)
 clear b1 HP HW
 have hfl : ∀ W : World, (Instr.field 48 (.agg #[.int .i64 z.1, .int .i64 z.2]) 0).run Tryz.prog W = .ok (.int .i64 z.1) W := fun W => by kernel_rfl
 go_wp2
 go_ret
 exact ⟨rfl, HB1.out⟩
end Go.Proofs.YtapeledneokgpaaGreatDoor
