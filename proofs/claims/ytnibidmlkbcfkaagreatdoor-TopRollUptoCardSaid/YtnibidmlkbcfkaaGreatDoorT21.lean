/- Texts of this proof, one behind the other; each says its condition at its head. -/
import Derived.Test.YtnibidmlkbcfkaaGreatDoorT19
import Derived.Test.YtnibidmlkbcfkaaGreatDoorT20
import Derived.Test.YtnibidmlkbcfkaaGreatDoorT5
namespace Go.Proofs.YtnibidmlkbcfkaaGreatDoor
/- Walks of the looks through bets and fractions, and of a table's valid. Conditions: bets whose numbers are moderate. -/
section
open Go.RowKit Go.Maps
/-- A bet as a value. -/
def btV (u : Int × Int) : Value := .agg #[.int .i64 u.1, .int .i64 u.2]
/-- What a closure says of bets (or fractions), in every later world. -/
def TellsB (k : FuncId) (cap : List Value) (w : World) (xs : List (Int × Int)) (f : Int × Int → Bool) : Prop := ∀ u ∈ xs, ∀ W, Below w.heap.size w W →
 Calls Tryz.prog k (btV u :: cap).toArray W fun e W' => e = .returned (.bool (f u)) ∧ Below W.heap.size W W'
set_option maxRecDepth 100000 in
set_option maxHeartbeats 1000000 in
theorem betIdx (k : FuncId) (cap : List Value) (A : Option Addr) (n c : Nat) (xs : List (Int × Int)) (f : Int × Int → Bool) (w : World) (lb : Array Value) (hlb : lb = cap.toArray) (hs : Sl2 w A n c xs) (hf : TellsB k cap w xs f)
 (he : ∀ args W, (callFunc k args).run Tryz.prog W = .ok (.enter k args) W) (hcap : cap.length ≤ 1) :
 Calls Tryz.prog 202 #[.slice A n c, .func (.func k) #[] lb] w fun e w' => (∃ r : Int, e = .returned (.int .i64 r) ∧ (0 ≤ r ↔ xs.any f = true)) ∧ Below w.heap.size w w' := by
 have hm := hs.len_le
 have HL := hid hs.len
 have HF := hid hf
 have HS := hid hs
 clear hs hf
 have hc2 : cap = [] ∨ ∃ v, cap = [v] := by
  match cap, hcap with
  | [], _ => exact .inl rfl
  | [v], _ => exact .inr ⟨v, rfl⟩
 have HN : ∀ (k : Nat) (hk : k ≤ n), Hid (∀ j, j < k → ∀ u, xs[j]? = some u → f u = false) → Hid (∀ j, j < k → ∀ u, xs[j]? = some u → f u = false) := fun _ _ h => h
 clear HN
 rcases hc2 with rfl | ⟨cv, rfl⟩
 all_goals
  subst hlb
  simp only [TellsB, List.toArray] at HF
  go_enter Tryz.func202, Tryz.ntmps202
  go_wp2
  go_loopg [8] n (fun gk i wr => ∃ d : Nat, gk + d = n ∧ i = .int .i64 d ∧ Hid (∀ j, j < d → ∀ u, xs[j]? = some u → f u = false) ∧ Hid (Below w.heap.size w wr))
  case atStart => exact ⟨0, by omega, rfl, hid fun j h => absurd h (by omega), hid (Below.refl _ _)⟩
  case round =>
   obtain ⟨d, hd, rfl, HN, HW⟩ := hrel
   have HD := hid hd
   by_cases hlt : d < n
   · have HLT := hid hlt
     obtain ⟨b, o, u, rfl, lb1, e1, ca, cb⟩ := (HS.out.below HW.out).at hlt
     have HC := hid (HF.out u (List.mem_of_getElem? e1) wr HW.out)
     have HU := hid e1
     unfold btV at HC
     have e2 : o + d * 2 + 1 = o + (d * 2 + 1) := by omega
     rw [← e2] at cb
     clear e1 hd lb1 e2
     cases hfx : f u
     · rw [hfx] at HC
       have HX := hid hfx
       clear hfx
       go_wp2_with (refine (HC.out).mono ?_; rintro e w1 ⟨rfl, b1⟩; have HW1 := hid (below_call HW.out b1 HW.out.size); clear b1)
       go_roundg (gk - 1)
       case measure => have := HD.out; have := HLT.out; omega
       case rel =>
        refine ⟨d + 1, by have := HD.out; have := HLT.out; omega, by go_num, hid fun j hj v hv => ?_, HW1⟩
        by_cases e : j = d
        · subst e; have := HU.out; rw [hv] at this; cases this; exact HX.out
        · exact HN.out j (by omega) v hv
     · rw [hfx] at HC
       have HX := hid hfx
       clear hfx
       go_wp2_with (refine (HC.out).mono ?_; rintro e w1 ⟨rfl, b1⟩; have HW1 := hid (below_call HW.out b1 HW.out.size); clear b1)
       go_ret
       exact ⟨⟨(d : Int), rfl, ⟨fun _ => List.any_eq_true.2 ⟨u, List.mem_of_getElem? HU.out, HX.out⟩, fun _ => by omega⟩⟩, HW1.out⟩
   · obtain rfl : d = n := by have := HD.out; omega
     clear hd
     go_wp2
     go_ret
     refine ⟨⟨-1, rfl, ⟨fun h => absurd h (by decide), fun h => ?_⟩⟩, HW.out⟩
     obtain ⟨u, hu, hfu⟩ := List.any_eq_true.1 h
     obtain ⟨j, hj⟩ := List.getElem?_of_mem hu
     have hlj := (List.getElem?_eq_some_iff.1 hj).1
     rw [HN.out j (by have := HL.out; omega) u hj] at hfu
     cases hfu
set_option maxRecDepth 100000 in
theorem betAny (k : FuncId) (cap : List Value) (A : Option Addr) (n c : Nat) (xs : List (Int × Int)) (f : Int × Int → Bool) (w : World) (lb : Array Value) (hlb : lb = cap.toArray) (hs : Sl2 w A n c xs) (hf : TellsB k cap w xs f)
 (he : ∀ args W, (callFunc k args).run Tryz.prog W = .ok (.enter k args) W) (hcap : cap.length ≤ 1) :
 Calls Tryz.prog 164 #[.slice A n c, .func (.func k) #[] lb] w fun e w' => e = .returned (.bool (xs.any f)) ∧ Below w.heap.size w w' := by
 have HI := hid (betIdx k cap A n c xs f w lb hlb hs hf he hcap)
 clear hs hf he hlb
 go_enter Tryz.func164, Tryz.ntmps164
 go_wp2_with fail
 refine (HI.out).mono ?_; rintro e w1 ⟨⟨r, rfl, hr⟩, b1⟩
 have hd : decide (0 ≤ r) = xs.any f := by rw [Bool.eq_iff_iff, decide_eq_true_iff]; exact hr
 have HB1 := hid b1
 clear hr b1
 go_wp2
 go_ret
 exact ⟨rfl, HB1.out⟩
set_option maxRecDepth 100000 in
set_option maxHeartbeats 1000000 in
theorem sameEv1 (u : Int × Int) (b : Nat) (e : Int) (w : World) (h : w.cell? ⟨b, 0, none⟩ = some (.int .i64 e)) :
 Calls Tryz.prog 236 #[btV u, .pointer (some ⟨b, 0, none⟩)] w fun x w' => x = .returned (.bool (u.1 == e)) ∧ Below w.heap.size w w' := by
 unfold btV
 have hk := cell_keep ((Below.refl w.heap.size w).alloc (Nat.le_refl _) (.cells #[.int .i64 u.1, .int .i64 u.2] 182)) h
 go_enter Tryz.func236, Tryz.ntmps236
 go_wp2
 go_ret
 exact ⟨rfl, (Below.refl _ w).alloc (Nat.le_refl _) _⟩
set_option maxRecDepth 100000 in
set_option maxHeartbeats 1000000 in
theorem sameEv2 (u : Int × Int) (b : Nat) (e : Int) (w : World) (h : w.cell? ⟨b, 0, none⟩ = some (.int .i64 e)) :
 Calls Tryz.prog 165 #[btV u, .pointer (some ⟨b, 0, none⟩)] w fun x w' => x = .returned (.bool (e == u.1)) ∧ Below w.heap.size w w' := by
 unfold btV
 have hk := cell_keep ((Below.refl w.heap.size w).alloc (Nat.le_refl _) (.cells #[.int .i64 u.1, .int .i64 u.2] 182)) h
 go_enter Tryz.func165, Tryz.ntmps165
 go_wp2
 go_ret
 exact ⟨rfl, (Below.refl _ w).alloc (Nat.le_refl _) _⟩
set_option maxRecDepth 100000 in
set_option maxHeartbeats 1000000 in
theorem negF (u : Int × Int) (w : World) :
 Calls Tryz.prog 241 #[frV u] w fun x w' => x = .returned (.bool (decide (u.1 < 0))) ∧ Below w.heap.size w w' := by
 unfold frV
 go_enter Tryz.func241, Tryz.ntmps241
 go_wp2
 go_ret
 exact ⟨rfl, (Below.refl _ w).alloc (Nat.le_refl _) _⟩
end
/- Walks of the look through fractions, of a table's valid, and of a row of coefficients. Conditions: bets whose numbers are moderate. -/
section
open Go.RowKit Go.Maps
attribute [local go_sem ↓] shl_p2 shr_v and_shr
/-- What a closure says of bets (or fractions), in every later world. -/
def TellsX (k : FuncId) (cap : List Value) (w : World) (xs : List (Int × Int)) (f : Int × Int → Bool) : Prop := ∀ u ∈ xs, ∀ W, Below w.heap.size w W →
 Calls Tryz.prog k (frV u :: cap).toArray W fun e W' => e = .returned (.bool (f u)) ∧ Below W.heap.size W W'
set_option maxRecDepth 100000 in
set_option maxHeartbeats 1000000 in
theorem fracIdx (k : FuncId) (cap : List Value) (A : Option Addr) (n c : Nat) (xs : List (Int × Int)) (f : Int × Int → Bool) (w : World) (lb : Array Value) (hlb : lb = cap.toArray) (hs : Sl2 w A n c xs) (hf : TellsX k cap w xs f)
 (he : ∀ args W, (callFunc k args).run Tryz.prog W = .ok (.enter k args) W) (hcap : cap.length ≤ 1) :
 Calls Tryz.prog 258 #[.slice A n c, .func (.func k) #[] lb] w fun e w' => (∃ r : Int, e = .returned (.int .i64 r) ∧ (0 ≤ r ↔ xs.any f = true)) ∧ Below w.heap.size w w' := by
 have hm := hs.len_le
 have HL := hid hs.len
 have HF := hid hf
 have HS := hid hs
 clear hs hf
 have hc2 : cap = [] ∨ ∃ v, cap = [v] := by
  match cap, hcap with
  | [], _ => exact .inl rfl
  | [v], _ => exact .inr ⟨v, rfl⟩
 have HN : ∀ (k : Nat) (hk : k ≤ n), Hid (∀ j, j < k → ∀ u, xs[j]? = some u → f u = false) → Hid (∀ j, j < k → ∀ u, xs[j]? = some u → f u = false) := fun _ _ h => h
 clear HN
 rcases hc2 with rfl | ⟨cv, rfl⟩
 all_goals
  subst hlb
  simp only [TellsX, List.toArray] at HF
  go_enter Tryz.func258, Tryz.ntmps258
  go_wp2
  go_loopg [8] n (fun gk i wr => ∃ d : Nat, gk + d = n ∧ i = .int .i64 d ∧ Hid (∀ j, j < d → ∀ u, xs[j]? = some u → f u = false) ∧ Hid (Below w.heap.size w wr))
  case atStart => exact ⟨0, by omega, rfl, hid fun j h => absurd h (by omega), hid (Below.refl _ _)⟩
  case round =>
   obtain ⟨d, hd, rfl, HN, HW⟩ := hrel
   have HD := hid hd
   by_cases hlt : d < n
   · have HLT := hid hlt
     obtain ⟨b, o, u, rfl, lb1, e1, ca, cb⟩ := (HS.out.below HW.out).at hlt
     have HC := hid (HF.out u (List.mem_of_getElem? e1) wr HW.out)
     have HU := hid e1
     unfold frV at HC
     have e2 : o + d * 2 + 1 = o + (d * 2 + 1) := by omega
     rw [← e2] at cb
     clear e1 hd lb1 e2
     cases hfx : f u
     · rw [hfx] at HC
       have HX := hid hfx
       clear hfx
       go_wp2_with (refine (HC.out).mono ?_; rintro e w1 ⟨rfl, b1⟩; have HW1 := hid (below_call HW.out b1 HW.out.size); clear b1)
       go_roundg (gk - 1)
       case measure => have := HD.out; have := HLT.out; omega
       case rel =>
        refine ⟨d + 1, by have := HD.out; have := HLT.out; omega, by go_num, hid fun j hj v hv => ?_, HW1⟩
        by_cases e : j = d
        · subst e; have := HU.out; rw [hv] at this; cases this; exact HX.out
        · exact HN.out j (by omega) v hv
     · rw [hfx] at HC
       have HX := hid hfx
       clear hfx
       go_wp2_with (refine (HC.out).mono ?_; rintro e w1 ⟨rfl, b1⟩; have HW1 := hid (below_call HW.out b1 HW.out.size); clear b1)
       go_ret
       exact ⟨⟨(d : Int), rfl, ⟨fun _ => List.any_eq_true.2 ⟨u, List.mem_of_getElem? HU.out, HX.out⟩, fun _ => by omega⟩⟩, HW1.out⟩
   · obtain rfl : d = n := by have := HD.out; omega
     clear hd
     go_wp2
     go_ret
     refine ⟨⟨-1, rfl, ⟨fun h => absurd h (by decide), fun h => ?_⟩⟩, HW.out⟩
     obtain ⟨u, hu, hfu⟩ := List.any_eq_true.1 h
     obtain ⟨j, hj⟩ := List.getElem?_of_mem hu
     have hlj := (List.getElem?_eq_some_iff.1 hj).1
     rw [HN.out j (by have := HL.out; omega) u hj] at hfu
     cases hfu
set_option maxRecDepth 100000 in
theorem fracAny (k : FuncId) (cap : List Value) (A : Option Addr) (n c : Nat) (xs : List (Int × Int)) (f : Int × Int → Bool) (w : World) (lb : Array Value) (hlb : lb = cap.toArray) (hs : Sl2 w A n c xs) (hf : TellsX k cap w xs f)
 (he : ∀ args W, (callFunc k args).run Tryz.prog W = .ok (.enter k args) W) (hcap : cap.length ≤ 1) :
 Calls Tryz.prog 240 #[.slice A n c, .func (.func k) #[] lb] w fun e w' => e = .returned (.bool (xs.any f)) ∧ Below w.heap.size w w' := by
 have HI := hid (fracIdx k cap A n c xs f w lb hlb hs hf he hcap)
 clear hs hf he hlb
 go_enter Tryz.func240, Tryz.ntmps240
 go_wp2_with fail
 refine (HI.out).mono ?_; rintro e w1 ⟨⟨r, rfl, hr⟩, b1⟩
 have hd : decide (0 ≤ r) = xs.any f := by rw [Bool.eq_iff_iff, decide_eq_true_iff]; exact hr
 have HB1 := hid b1
 clear hr b1
 go_wp2
 go_ret
 exact ⟨rfl, HB1.out⟩
/-- Bets that a table of three worlds takes. -/
def BetOk (l : List (Int × Int)) : Prop := 1 ≤ l.length ∧ l.length ≤ 6 ∧ (∀ u ∈ l, 0 ≤ u.1 ∧ u.1 < 8 ∧ 0 ≤ u.2 ∧ u.2 ≤ 12) ∧ (l.map (·.1)).Nodup
theorem any_take {l : List (Int × Int)} (h : (l.map (·.1)).Nodup) {d : Nat} {u : Int × Int} (hu : l[d]? = some u) : (l.take d).any (fun v => v.1 == u.1) = false := by
 rw [List.any_eq_false]
 intro v hv
 obtain ⟨i, hi⟩ := List.getElem?_of_mem hv
 have hlt := (List.getElem?_eq_some_iff.1 hi).1
 rw [List.length_take] at hlt
 rw [List.getElem?_take_of_lt (by omega)] at hi
 intro he
 have he := eq_of_beq he
 have h1 : (l.map (·.1))[i]? = some u.1 := by rw [List.getElem?_map, hi]; simp [he]
 have h2 : (l.map (·.1))[d]? = some u.1 := by rw [List.getElem?_map, hu]; rfl
 have := (List.getElem?_inj (List.getElem?_eq_some_iff.1 h1).1 h).1 (h1.trans h2.symm)
 omega
set_option maxRecDepth 100000 in
set_option maxHeartbeats 2000000 in
theorem validT (A : Option Addr) (n c : Nat) (l : List (Int × Int)) (w : World) (hs : Sl2 w A n c l) (hl : BetOk l) :
 Calls Tryz.prog 203 #[.agg #[.int .i64 3, .slice A n c]] w fun e w' => e = .returned (.bool true) ∧ Below w.heap.size w w' := by
 obtain ⟨h1, h6, hnum, hnd⟩ := hl
 have hn := hs.len
 have HN := hid hnum
 have HD := hid hnd
 have he : ∀ args W, (callFunc 236 args).run Tryz.prog W = .ok (.enter 236 args) W := fun args W => enters Tryz.func236 (by kernel_rfl) rfl args W
 have HE := hid he
 have HT := hid (Blk.new w 287 #[.int .i64 3, .slice A n c])
 have HB := hid ((Below.refl w.heap.size w).alloc (Nat.le_refl _) (.cells #[.int .i64 3, .slice A n c] 287))
 have HS := hid (hs.below HB.out)
 have n1 : 1 ≤ n := by omega
 have n6 : n ≤ 6 := by omega
 have g1 : decide ((n : Int) < 1) = false := decide_eq_false (by omega)
 have g2 : decide (6 < (n : Int)) = false := decide_eq_false (by omega)
 have g3 : decide (n < 1) = false := decide_eq_false (by omega)
 have g4 : decide (6 < n) = false := decide_eq_false (by omega)
 have HL := hid hn
 clear hnum hnd he hs h1 h6 hn
 go_enter Tryz.func203, Tryz.ntmps203
 go_wp2_with fail
 generalize w.alloc (.cells #[.int .i64 3, .slice A n c] 287) = W0 at *
 go_loopg [28] n (fun gk i wr => ∃ d : Nat, gk + d = n ∧ i = .int .i64 d ∧ Hid (Below W0.heap.size W0 wr))
 case atStart => exact ⟨0, by omega, rfl, hid (Below.refl _ _)⟩
 case round =>
  obtain ⟨d, hd, rfl, HW⟩ := hrel
  have HDD := hid hd
  by_cases hlt : d < n
  · have HLT := hid hlt
    have HSw := hid (HS.out.below HW.out)
    obtain ⟨b, o, u, hA, lb1, e1, ca, cb⟩ := HSw.out.at hlt
    have e2 : o + d * 2 + 1 = o + (d * 2 + 1) := by omega
    rw [← e2] at cb
    have HU := hid e1
    obtain ⟨u1, u2, u3, u4⟩ := HN.out u (List.mem_of_getElem? e1)
    have HTw := hid (HT.out.keep HW.out)
    have t0 := HTw.out.cell 0
    have t1 := HTw.out.cell 1
    simp only [List.getElem?_toArray, List.getElem?_cons_zero, List.getElem?_cons_succ] at t0 t1
    have HBu := hid (Blk.new wr 182 #[.int .i64 u.1, .int .i64 u.2])
    have bu := (Below.refl wr.heap.size wr).alloc (Nat.le_refl _) (.cells #[.int .i64 u.1, .int .i64 u.2] 182)
    have HBW := hid (below_call HW.out bu HW.out.size)
    have HT2 := hid (HTw.out.keep bu)
    have HS2 := hid ((HSw.out.below bu).take d (by omega))
    have dc : (d : Int) ≤ (c : Int) := by have := HSw.out.cap; omega
    have dn : (d : Int) ≤ (n : Int) := by omega
    clear bu e1 e2 lb1 hd
    subst hA
    go_wp2_with fail
    have a0 := HBu.out.cell 0
    have a1 := HBu.out.cell 1
    have s0 := HT2.out.cell 0
    have s1 := HT2.out.cell 1
    simp only [List.getElem?_toArray, List.getElem?_cons_zero, List.getElem?_cons_succ] at a0 a1 s0 s1
    clear t0 t1 ca cb
    generalize wr.alloc (.cells #[.int .i64 u.1, .int .i64 u.2] 182) = X at *
    generalize wr.heap.size = b4 at *
    have q1 : decide (u.1 < 0) = false := decide_eq_false (by omega)
    have q2 : decide (8 ≤ u.1) = false := decide_eq_false (by omega)
    have q3 : decide (u.2 < 0) = false := decide_eq_false (by omega)
    have q4 : decide (12 < u.2) = false := decide_eq_false (by omega)
    go_quiet (fail)
    have HCA := hid (betAny 236 [.pointer (some ⟨b4, 0, none⟩)] (some ⟨b, o, none⟩) d c (l.take d) (fun v => v.1 == u.1) (X.drewN nq) _ rfl (HS2.out.drewN nq) (fun v _ W hW => sameEv1 v b4 u.1 W (cell_keep (below_call (Below.refl _ _) hW (Nat.le_refl _)) (show (X.drewN nq).cell? ⟨b4, 0, none⟩ = some (.int .i64 u.1) from a0))) HE.out (Nat.le_refl 1))
    rw [any_take HD.out HU.out] at HCA
    have HBN := hid (below_drewN HBW.out nq)
    clear a0 a1 q1 q2 q3 q4 u1 u2 u3 u4 HBW
    go_wp2_with fail
    refine (HCA.out).mono ?_; rintro e X2 ⟨rfl, b2⟩
    have HB2 := hid (below_call HBN.out b2 HBN.out.size)
    clear b2 s0 s1
    go_wp2
    go_roundg (gk - 1)
    case measure => have := HDD.out; have := HLT.out; omega
    case rel => exact ⟨d + 1, by have := HDD.out; have := HLT.out; omega, by go_num, HB2⟩
  · obtain rfl : d = n := by have := HDD.out; omega
    clear hd hlt
    go_wp2
    go_ret
    exact ⟨rfl, below_call HB.out HW.out HB.out.size⟩
/-- The coefficients of an event. -/
def coefL (event : Int) (ws : List Nat) : List Int := ws.map fun v : Nat => 12 * bitV event v
theorem coef_take {event : Int} {ws : List Nat} {d v : Nat} (h : ws[d]? = some v) : flat (((coefL event ws).take (d + 1)).map tw) = flat (((coefL event ws).take d).map tw) ++ [.int .i64 (tw (12 * bitV event v)).1, .int .i64 (tw (12 * bitV event v)).2] := by
 unfold coefL flat
 rw [List.take_add_one, List.getElem?_map, h, List.map_append, List.flatMap_append]
 rfl
theorem coef_all (event right : Int) (ws : List Nat) {n : Nat} (h : ws.length = n) : flat ((coefL event ws ++ [right]).map tw) = flat (((coefL event ws).take n).map tw) ++ [.int .i64 (tw right).1, .int .i64 (tw right).2] := by
 rw [List.take_of_length_le (by unfold coefL; simp; omega)]
 unfold flat
 rw [List.map_append, List.flatMap_append]
 rfl
theorem own_some {w : World} {B n c size : Nat} {e : TypeId} {A : Option Addr} {xs : List Value} (h : w.ownsRow B e size (.slice A n c) n xs) (hn : 0 < n) : ∃ g, A = some ⟨g, 0, none⟩ := by
 rcases h.2 with ⟨hv, h0⟩ | ⟨g, cap, cur, hv, _⟩
 · omega
 · simp at hv
   exact ⟨g, hv.1⟩
set_option maxRecDepth 100000 in
set_option maxHeartbeats 2000000 in
theorem rowF (event right : Int) (b5 : Nat) (A : Option Addr) (n c : Nat) (ws : List Nat) (w : World) (hb : Blk w b5 36 #[.slice A n c]) (hs : Sl w A n c (ws.map fun v : Nat => Value.int .i64 v)) (hw : ∀ v ∈ ws, v < 3) (hn : n ≤ 3) :
 Calls Tryz.prog 237 #[.int .i64 event, frV (tw right), .pointer (some ⟨b5, 0, none⟩)] w fun e w' => ∃ g cc, e = .returned (.slice (some ⟨g, 0, none⟩) (n + 1) cc) ∧ w'.ownsRow w.heap.size 48 2 (.slice (some ⟨g, 0, none⟩) (n + 1) cc) (n + 1) (flat ((coefL event ws ++ [right]).map tw)) ∧ Below w.heap.size w w' := by
 have HL := hid (show ws.length = n by have := hs.len; simpa using this)
 have HWS := hid hw
 have HB := hid ((Below.refl w.heap.size w).alloc (Nat.le_refl _) (.cells #[.int .i64 (tw right).1, .int .i64 (tw right).2] 48))
 have HR := hid (Blk.new w 48 #[.int .i64 (tw right).1, .int .i64 (tw right).2])
 have HB5 := hid (hb.keep HB.out)
 have HS := hid (hs.below HB.out)
 have c0 := (hb.keep HB.out).cell 0
 simp only [List.getElem?_toArray, List.getElem?_cons_zero] at c0
 have HWH := hid fun (k : Int) W => whole_tw k W
 unfold frV at HWH ⊢
 clear hb hs hw
 go_enter Tryz.func237, Tryz.ntmps237
 go_wp2_with fail
 generalize w.alloc (.cells #[.int .i64 (tw right).1, .int .i64 (tw right).2] 48) = W0 at *
 go_loopg [6, 11] n (fun gk v i wr => ∃ (d : Nat) (R : Option Addr) (rc : Nat), gk + d = n ∧ i = .int .i64 d ∧ v = .slice R d rc ∧ Hid (wr.ownsRow W0.heap.size 48 2 (.slice R d rc) d (flat (((coefL event ws).take d).map tw))) ∧ Hid (Below W0.heap.size W0 wr))
 case atStart => exact ⟨0, none, 0, by omega, rfl, rfl, hid (World.ownsRow_nil _ _ _ _), hid (Below.refl _ _)⟩
 case round =>
  clear c0
  obtain ⟨d, R, rc, hd, rfl, rfl, HO, HW⟩ := hrel
  have HD := hid hd
  by_cases hlt : d < n
  · have HLT := hid hlt
    have HSw := hid (HS.out.below HW.out)
    obtain ⟨b, o, u, hA, lb1, e1, ca⟩ := HSw.out.at hlt
    rw [List.getElem?_map] at e1
    obtain ⟨v, hv, rfl⟩ := Option.map_eq_some_iff.1 e1
    have HV := hid hv
    have hv3 := HWS.out v (List.mem_of_getElem? hv)
    have hfit : Fits (v : Int) := ⟨by omega, by omega⟩
    have HWH1 := hid (HWH.out (bitV event v))
    clear hd e1 hv lb1
    subst hA
    go_wp2_with fail
    refine (HWH1.out _).mono ?_; rintro e w5 ⟨rfl, b5'⟩
    have HO5 := hid (own_below HO.out b5')
    have HW5 := hid (below_call HW.out b5' HW.out.size)
    clear b5' ca
    go_wp2_with (at_builtin; refine push1P TF w5 #[.int .i64 (tw (12 * bitV event v)).1, .int .i64 (tw (12 * bitV event v)).2] W0.heap.size _ _ _ HO5.out _ _ w5.heap.size rfl rfl rfl rfl rfl rfl (by simp [Value.oneCell']) (by omega) (by omega) HW5.out.size ?_; intro v1 w8 hown1 hgr; obtain ⟨A8, c8, rfl⟩ := own_form hown1; have HB8 := hid (below_push HW5.out HO5.out hgr HW5.out.size (Nat.le_refl _)); have HO8 := hid (show w8.ownsRow W0.heap.size 48 2 (.slice A8 (d + 1) c8) (d + 1) (flat (((coefL event ws).take (d + 1)).map tw)) from by rw [coef_take HV.out]; exact hown1); clear hown1 hgr)
    go_roundg (gk - 1)
    case measure => have := HD.out; have := HLT.out; omega
    case rel => exact ⟨d + 1, A8, c8, by have := HD.out; have := HLT.out; omega, by go_num, rfl, HO8, HB8⟩
  · obtain rfl : d = n := by have := HD.out; omega
    have HRw := hid (HR.out.keep HW.out)
    have r0 := HRw.out.cell 0
    have r1 := HRw.out.cell 1
    simp only [List.getElem?_toArray, List.getElem?_cons_zero, List.getElem?_cons_succ] at r0 r1
    clear hd hlt
    go_wp2_with (at_builtin; refine push1P TF wr #[.int .i64 (tw right).1, .int .i64 (tw right).2] W0.heap.size _ _ _ HO.out _ _ wr.heap.size rfl rfl rfl rfl rfl rfl (by simp [Value.oneCell']) (by omega) (by omega) HW.out.size ?_; intro v1 w8 hown1 hgr; obtain ⟨A8, c8, rfl⟩ := own_form hown1; have HB8 := hid (below_push HW.out HO.out hgr HW.out.size (Nat.le_refl _)); have HO8 := hid (show w8.ownsRow W0.heap.size 48 2 (.slice A8 (d + 1) c8) (d + 1) (flat ((coefL event ws ++ [right]).map tw)) from by rw [coef_all event right ws HL.out]; exact hown1); clear hown1 hgr)
    go_ret
    obtain ⟨g, rfl⟩ := own_some HO8.out (by omega)
    exact ⟨g, c8, rfl, own_more HO8.out HB.out.size, below_call HB.out HB8.out HB.out.size⟩
end
/- The plain law of bets' corners: their equations, and the beliefs that they give. No program in sight. -/
section
/-- The worlds of a set. -/
def wsOf (s : Nat) : List Nat := (List.range 3).filter fun v => s.testBit v
theorem wsOf_lt (s : Nat) : ∀ v ∈ wsOf s, v < 3 := fun v hv => by
 have := (List.mem_filter.1 hv).1
 simpa using this
theorem wsOf_len : ∀ s : Fin 8, 1 ≤ s.val → 1 ≤ (wsOf s.val).length ∧ (wsOf s.val).length ≤ 3 := by decide
/-- The equations of bets, for some worlds. -/
def eqF (l : List (Int × Int)) (ws : List Nat) : Mx := fun i c => if c < ws.length then 12 * bitV (if i = 0 then 7 else (l.getD (i - 1) (0, 0)).1) (ws.getD c 0 : Nat) else if i = 0 then 12 else (l.getD (i - 1) (0, 0)).2
def beliefOf (ws : List Nat) (xs : List Int) : List Int := (ws.zip xs).foldl (fun b p => b.set p.1 p.2) [0, 0, 0]
def cornerOf (l : List (Int × Int)) (s : Nat) : Option (List Int) := match solveF (l.length + 1) (wsOf s).length (eqF l (wsOf s)) with
 | none => none
 | some xs => if xs.any (fun x => decide (x < 0)) then none else some (beliefOf (wsOf s) xs)
def cornersTo (l : List (Int × Int)) (d : Nat) : List (List Int) := ((List.range d).map (· + 1)).filterMap (cornerOf l)
/-- The corners of bets. -/
def cornersL (l : List (Int × Int)) : List (List Int) := cornersTo l 7
theorem cornersTo_succ (l : List (Int × Int)) (d : Nat) : cornersTo l (d + 1) = cornersTo l d ++ (match cornerOf l (d + 1) with | none => [] | some b => [b]) := by
 unfold cornersTo
 rw [List.range_succ, List.map_append, List.filterMap_append]
 congr 1
 simp only [List.map_cons, List.map_nil, List.filterMap_cons, List.filterMap_nil]
 cases cornerOf l (d + 1) <;> rfl
theorem bit_seven {v : Nat} (h : v < 3) : bitV 7 (v : Nat) = 1 := by
 rcases (show v = 0 ∨ v = 1 ∨ v = 2 by omega) with rfl | rfl | rfl <;> rfl
theorem eqF_inv {l : List (Int × Int)} (hl : BetOk l) {ws : List Nat} (hw : ∀ v ∈ ws, v < 3) : EqI (l.length + 1) ws.length 0 (eqF l ws) := by
 have hget : ∀ c, c < ws.length → ws.getD c 0 < 3 := fun c hc => by
  rw [List.getD_eq_getElem?_getD, List.getElem?_eq_getElem hc]
  exact hw _ (List.getElem_mem hc)
 have hmem : ∀ i, i < l.length → 0 ≤ (l.getD i (0, 0)).2 ∧ (l.getD i (0, 0)).2 ≤ 12 := fun i hi => by
  rw [List.getD_eq_getElem?_getD, List.getElem?_eq_getElem hi]
  have := hl.2.2.1 _ (List.getElem_mem hi)
  exact ⟨this.2.2.1, this.2.2.2⟩
 refine ⟨fun i hi => ?_, fun i c hi hc => ?_, fun _ c hc => ?_, fun _ i c hi hc => ?_, by omega, by omega, by omega, by omega⟩
 · unfold eqF
   rw [if_neg (by omega)]
   split
   · decide
   · have := hmem (i - 1) (by omega)
     simp only [Int.pow_zero]
     omega
 · unfold eqF
   rw [if_pos hc]
   have := bitV_bd (if i = 0 then 7 else (l.getD (i - 1) (0, 0)).1) (ws.getD c 0 : Nat)
   omega
 · unfold eqF
   rw [if_pos hc, if_pos rfl, bit_seven (hget c hc)]
   rfl
 · unfold eqF
   rw [if_pos hc]
   have := bitV_bd (if i = 0 then 7 else (l.getD (i - 1) (0, 0)).1) (ws.getD c 0 : Nat)
   omega
/-- A row as it is made is a row of the equations. -/
theorem row_eq (l : List (Int × Int)) (ws : List Nat) (i : Nat) (event right : Int) (he : event = if i = 0 then 7 else (l.getD (i - 1) (0, 0)).1) (hr : right = if i = 0 then 12 else (l.getD (i - 1) (0, 0)).2) :
 flat ((coefL event ws ++ [right]).map tw) = rowC ws.length (eqF l ws i) := by
 unfold rowC
 congr 1
 apply List.ext_getElem?
 intro c
 rw [List.getElem?_map, List.getElem?_map]
 by_cases hc : c < ws.length
 · rw [List.getElem?_range (by omega), List.getElem?_append_left (by unfold coefL; simpa using hc)]
   unfold coefL eqF
   rw [List.getElem?_map, List.getElem?_eq_getElem hc]
   simp only [Option.map_some, if_pos hc, he, List.getD_eq_getElem?_getD, List.getElem?_eq_getElem hc, Option.getD_some]
 · by_cases hc2 : c = ws.length
   · subst hc2
     rw [List.getElem?_range (by omega), List.getElem?_append_right (by unfold coefL; simp)]
     unfold eqF
     rw [show (coefL event ws).length = ws.length by unfold coefL; simp]
     simp only [Nat.sub_self, List.getElem?_cons_zero, Option.map_some, Nat.lt_irrefl, if_false, hr]
   · rw [List.getElem?_eq_none (by unfold coefL; simp; omega), List.getElem?_eq_none (by simp; omega)]
     rfl
theorem belief_len (ws : List Nat) (xs : List Int) : (beliefOf ws xs).length = 3 := by
 unfold beliefOf
 have : ∀ (l : List (Nat × Int)) (b : List Int), (l.foldl (fun b p => b.set p.1 p.2) b).length = b.length := by
  intro l
  induction l with
  | nil => intro b; rfl
  | cons p l ih => intro b; rw [List.foldl_cons, ih, List.length_set]
 rw [this]
 rfl
def beliefTo (ws : List Nat) (xs : List Int) (d : Nat) : List Int := ((ws.zip xs).take d).foldl (fun b p => b.set p.1 p.2) [0, 0, 0]
theorem beliefTo_len (ws : List Nat) (xs : List Int) (d : Nat) : (beliefTo ws xs d).length = 3 := by
 unfold beliefTo
 have : ∀ (l : List (Nat × Int)) (b : List Int), (l.foldl (fun b p => b.set p.1 p.2) b).length = b.length := by
  intro l
  induction l with
  | nil => intro b; rfl
  | cons p l ih => intro b; rw [List.foldl_cons, ih, List.length_set]
 rw [this]
 rfl
theorem beliefTo_succ {ws : List Nat} {xs : List Int} {d v : Nat} {x : Int} (hv : ws[d]? = some v) (hx : xs[d]? = some x) : beliefTo ws xs (d + 1) = (beliefTo ws xs d).set v x := by
 unfold beliefTo
 have hz : (ws.zip xs)[d]? = some (v, x) := by
  rw [List.getElem?_zip_eq_some]
  exact ⟨hv, hx⟩
 rw [List.take_add_one, hz, List.foldl_append]
 rfl
theorem beliefTo_all {ws : List Nat} {xs : List Int} {d : Nat} (h : ws.length = d) : beliefTo ws xs d = beliefOf ws xs := by
 unfold beliefTo beliefOf
 rw [List.take_of_length_le (by rw [List.length_zip]; omega)]
theorem any_tw {xs : List Int} (h : ∀ x ∈ xs, rg x) : (xs.map tw).any (fun u => decide (u.1 < 0)) = xs.any (fun x => decide (x < 0)) := by
 rw [List.any_map]
 apply Bool.eq_iff_iff.2
 rw [List.any_eq_true, List.any_eq_true]
 constructor
 · rintro ⟨x, hx, hd⟩
   exact ⟨x, hx, decide_eq_true ((tw_neg (h x hx)).1 (of_decide_eq_true hd))⟩
 · rintro ⟨x, hx, hd⟩
   exact ⟨x, hx, decide_eq_true ((tw_neg (h x hx)).2 (of_decide_eq_true hd))⟩
/-- Solved equations have small solutions. -/
theorem solveGo_inv {m k : Nat} (hk : k ≤ 3) : ∀ (n j : Nat) (f g : Mx), j + n = k → EqI m k j f → solveGo m k n j f = some g → EqI m k k g := by
 intro n
 induction n with
 | zero =>
  intro j f g hj hI h
  simp only [solveGo, Option.some.injEq] at h
  subst h
  have : j = k := by omega
  subst this
  exact hI
 | succ n ih =>
  intro j f g hj hI h
  rw [solveGo] at h
  cases hp : pivF f m j with
  | none => rw [hp] at h; cases h
  | some p =>
   rw [hp] at h
   simp only at h
   split at h
   · cases h
   · exact ih (j + 1) _ g (by omega) (hI.step (by omega) hk hp).2 h
theorem solveF_rg {m k : Nat} {f : Mx} {xs : List Int} (hk : k ≤ 3) (hkm : k ≤ m) (hI : EqI m k 0 f) (h : solveF m k f = some xs) : xs.length = k ∧ ∀ x ∈ xs, rg x := by
 unfold solveF at h
 cases hg : solveGo m k k 0 f with
 | none => rw [hg] at h; cases h
 | some g =>
  rw [hg] at h
  simp only at h
  split at h
  · simp only [Option.some.injEq] at h
    subst h
    refine ⟨by simp, fun x hx => ?_⟩
    obtain ⟨i, hi, rfl⟩ := List.mem_map.1 hx
    have hik : i < k := by simpa using hi
    have := (solveGo_inv hk k 0 f g (by omega) hI hg).r i (by omega)
    have h2 : (2 : Int) ^ k ≤ 8 := by
     rcases (show k = 0 ∨ k = 1 ∨ k = 2 ∨ k = 3 by omega) with rfl | rfl | rfl | rfl <;> decide
    unfold rg
    omega
  · cases h
theorem solveGo_le {m k : Nat} : ∀ (n j : Nat) (f g : Mx), j + n = k → j ≤ m → (j < k → j < m) → solveGo m k n j f = some g → k ≤ m := by
 intro n
 induction n with
 | zero => intro j f g hj h1 _ _; omega
 | succ n ih =>
  intro j f g hj h1 h2 h
  rw [solveGo] at h
  cases hp : pivF f m j with
  | none => rw [hp] at h; cases h
  | some p =>
   rw [hp] at h
   simp only at h
   split at h
   · cases h
   · exact ih (j + 1) _ g (by omega) (by have := h2 (by omega); omega) (by have := h2 (by omega); omega) h
theorem solveF_le {m k : Nat} {f : Mx} {xs : List Int} (hm : 1 ≤ m) (h : solveF m k f = some xs) : k ≤ m := by
 unfold solveF at h
 cases hg : solveGo m k k 0 f with
 | none => rw [hg] at h; cases h
 | some g => exact solveGo_le k 0 f g (by omega) (by omega) (by omega) hg
end
end Go.Proofs.YtnibidmlkbcfkaaGreatDoor
