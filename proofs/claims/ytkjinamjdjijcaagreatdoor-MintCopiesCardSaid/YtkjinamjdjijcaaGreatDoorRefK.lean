/- The reference's copies, whatever they hold, and the walks of their methods. No condition. -/
import Derived.Test.YtkjinamjdjijcaaGreatDoorRefC
import Derived.Test.YtkjinamjdjijcaaGreatDoorFind
namespace Go.Proofs.YtkjinamjdjijcaaGreatDoor
open Go.RowKit Go.Maps

/-- The cells of a copy of the reference. -/
def rcell (mark : Int) (away : Bool) (e : Ents) (i : Nat) : Value :=
  if i = 0 then .bool (!away) else if i = 1 then .int .i64 mark else if i < 202 then .bool (e (i - 2)).isSome else if i < 402 then .int .i64 (((e (i - 202)).map (·.1)).getD 0) else .string (((e (i - 402)).map (·.2)).getD ByteArray.empty)
def rcells (mark : Int) (away : Bool) (e : Ents) : Array Value := ((List.range 602).map (rcell mark away e)).toArray
theorem rcells_get (mark : Int) (away : Bool) (e : Ents) {i : Nat} (hi : i < 602) : (rcells mark away e)[i]? = some (rcell mark away e i) := by simp [rcells, hi]
theorem rcells_none (mark : Int) (away : Bool) (e : Ents) {i : Nat} (hi : ¬ i < 602) : (rcells mark away e)[i]? = none := by simp [rcells]; omega
/-- A copy of the reference with these entries. -/
def RefM (w : World) (b : Nat) (mark : Int) (away : Bool) (e : Ents) : Prop := Blk w b 69 (rcells mark away e)
set_option maxRecDepth 100000 in
theorem NewR.ref {w : World} {b : Nat} (h : NewR w b) : RefM w b 0 false (fun _ => none) := by
  unfold NewR at h
  unfold RefM
  rwa [show rcells 0 false (fun _ => none) = Tryz.zeroCells69.setIfInBounds 0 (.bool true) by kernel_rfl]
section
variable {w w' : World} {b : Nat} {mark : Int} {away : Bool} {e : Ents}
theorem RefM.cell (h : RefM w b mark away e) {i : Nat} (hi : i < 602) : w.cell? ⟨b, i, none⟩ = some (rcell mark away e i) := (Blk.cell h i).trans (rcells_get _ _ _ hi)
theorem RefM.c0 (h : RefM w b mark away e) : w.cell? ⟨b, 0, none⟩ = some (.bool (!away)) := h.cell (by decide)
theorem RefM.c1 (h : RefM w b mark away e) : w.cell? ⟨b, 1, none⟩ = some (.int .i64 mark) := h.cell (by decide)
theorem RefM.ct (h : RefM w b mark away e) {n : Nat} (hn : n < 200) : w.cell? ⟨b, 2 + n, none⟩ = some (.bool (e n).isSome) := by
  rw [h.cell (by omega), rcell, if_neg (by omega), if_neg (by omega), if_pos (by omega), show 2 + n - 2 = n by omega]
theorem RefM.cm (h : RefM w b mark away e) {n : Nat} (hn : n < 200) : w.cell? ⟨b, 202 + n, none⟩ = some (.int .i64 (((e n).map (·.1)).getD 0)) := by
  rw [h.cell (by omega), rcell, if_neg (by omega), if_neg (by omega), if_neg (by omega), if_pos (by omega), show 202 + n - 202 = n by omega]
theorem RefM.cl (h : RefM w b mark away e) {n : Nat} (hn : n < 200) : w.cell? ⟨b, 402 + n, none⟩ = some (.string (((e n).map (·.2)).getD ByteArray.empty)) := by
  rw [h.cell (by omega), rcell, if_neg (by omega), if_neg (by omega), if_neg (by omega), if_neg (by omega), show 402 + n - 402 = n by omega]
theorem RefM.setMark (h : RefM w b mark away e) (m : Int) : RefM (w.setCell ⟨b, 1, none⟩ (.int .i64 m)) b m away e := by
  have k := Blk.set h 1 (.int .i64 m)
  unfold RefM
  rwa [show rcells m away e = (rcells mark away e).setIfInBounds 1 (.int .i64 m) from by
    apply Array.ext_getElem?
    intro i
    by_cases hi : i < 602
    · rw [rcells_get _ _ _ hi]
      by_cases h1 : i = 1
      · subst h1
        rw [Array.getElem?_setIfInBounds_self_of_lt (by simp [rcells])]
        rfl
      · rw [Array.getElem?_setIfInBounds_ne (fun e => h1 e.symm), rcells_get _ _ _ hi]
        simp [rcell, h1]
    · rw [rcells_none _ _ _ hi, Array.getElem?_setIfInBounds_ne (by omega), rcells_none _ _ _ hi]]
theorem RefM.setOn (h : RefM w b mark away e) (on : Bool) : RefM (w.setCell ⟨b, 0, none⟩ (.bool on)) b mark (!on) e := by
  have k := Blk.set h 0 (.bool on)
  unfold RefM
  rwa [show rcells mark (!on) e = (rcells mark away e).setIfInBounds 0 (.bool on) from by
    apply Array.ext_getElem?
    intro i
    by_cases hi : i < 602
    · rw [rcells_get _ _ _ hi]
      by_cases h1 : i = 0
      · subst h1
        rw [Array.getElem?_setIfInBounds_self_of_lt (by simp [rcells])]
        simp [rcell]
      · rw [Array.getElem?_setIfInBounds_ne (fun e => h1 e.symm), rcells_get _ _ _ hi]
        simp [rcell, h1]
    · rw [rcells_none _ _ _ hi, Array.getElem?_setIfInBounds_ne (by omega), rcells_none _ _ _ hi]]
/-- The three stores of an entry. -/
theorem rcells_put (mark : Int) (away : Bool) (e : Ents) {n : Nat} (hn : n < 200) (m : Int) (s : ByteArray) :
    rcells mark away (putE e n (m, s)) = (((rcells mark away e).setIfInBounds (2 + n) (.bool true)).setIfInBounds (202 + n) (.int .i64 m)).setIfInBounds (402 + n) (.string s) := by
  apply Array.ext_getElem?
  intro i
  have hsz : (rcells mark away e).size = 602 := by simp [rcells]
  by_cases hi : i < 602
  · rw [rcells_get _ _ _ hi]
    by_cases h3 : 402 + n = i
    · subst h3
      rw [Array.getElem?_setIfInBounds_self_of_lt (by simp; omega), rcell, if_neg (by omega), if_neg (by omega), if_neg (by omega), if_neg (by omega), show 402 + n - 402 = n by omega]
      simp [putE]
    · rw [Array.getElem?_setIfInBounds_ne h3]
      by_cases h2 : 202 + n = i
      · subst h2
        rw [Array.getElem?_setIfInBounds_self_of_lt (by simp; omega), rcell, if_neg (by omega), if_neg (by omega), if_neg (by omega), if_pos (by omega), show 202 + n - 202 = n by omega]
        simp [putE]
      · rw [Array.getElem?_setIfInBounds_ne h2]
        by_cases h1 : 2 + n = i
        · subst h1
          rw [Array.getElem?_setIfInBounds_self_of_lt (by omega), rcell, if_neg (by omega), if_neg (by omega), if_pos (by omega), show 2 + n - 2 = n by omega]
          simp [putE]
        · rw [Array.getElem?_setIfInBounds_ne h1, rcells_get _ _ _ hi]
          unfold rcell putE
          by_cases k0 : i = 0
          · rw [if_pos k0, if_pos k0]
          · rw [if_neg k0, if_neg k0]
            by_cases k1 : i = 1
            · rw [if_pos k1, if_pos k1]
            · rw [if_neg k1, if_neg k1]
              by_cases k2 : i < 202
              · rw [if_pos k2, if_pos k2, if_neg (by omega)]
              · rw [if_neg k2, if_neg k2]
                by_cases k3 : i < 402
                · rw [if_pos k3, if_pos k3, if_neg (by omega)]
                · rw [if_neg k3, if_neg k3, if_neg (by omega)]
  · rw [rcells_none _ _ _ hi, Array.getElem?_setIfInBounds_ne (by omega), Array.getElem?_setIfInBounds_ne (by omega), Array.getElem?_setIfInBounds_ne (by omega), rcells_none _ _ _ hi]
end
set_option maxRecDepth 100000 in
set_option maxHeartbeats 2000000 in
theorem refPromiseF (m : Int) (b : Nat) (mark : Int) (away : Bool) (e : Ents) (w : World) (h : RefM w b mark away e) :
    Calls Tryz.prog 23 #[.pointer (some ⟨b, 0, none⟩), .int .i64 m] w fun x w' => x = .returned (.int .i64 (prmR away mark m).1) ∧ RefM w' b (prmR away mark m).2 away e ∧ Chs (· = b) w w' := by
  have HC := hid h
  have c0 := h.c0
  have c1 := h.c1
  have f1 := Blk.free h 1
  clear h
  unfold prmR
  cases away
  · simp only [Bool.not_false, Bool.false_eq_true, if_false] at c0 ⊢
    by_cases h1 : m < 0 ∨ m > 1000000000
    · rw [if_pos h1]
      by_cases h0 : m < 0
      · have g1 : decide (m < 0) = true := decide_eq_true h0
        clear h1 h0
        go_enter Tryz.func23, Tryz.ntmps23
        go_wp2
        go_ret
        exact ⟨rfl, HC.out, Chs.refl _ _⟩
      · have g1 : decide (m < 0) = false := decide_eq_false h0
        have g2 : decide (1000000000 < m) = true := decide_eq_true (by omega)
        clear h1 h0
        go_enter Tryz.func23, Tryz.ntmps23
        go_wp2
        go_ret
        exact ⟨rfl, HC.out, Chs.refl _ _⟩
    · rw [if_neg h1]
      have g1 : decide (m < 0) = false := decide_eq_false (by omega)
      have g2 : decide (1000000000 < m) = false := decide_eq_false (by omega)
      by_cases h2 : m ≤ mark
      · rw [if_pos h2]
        have g3 : decide (m ≤ mark) = true := decide_eq_true h2
        clear h1 h2
        go_enter Tryz.func23, Tryz.ntmps23
        go_wp2
        go_ret
        exact ⟨rfl, HC.out, Chs.refl _ _⟩
      · rw [if_neg h2]
        have g3 : decide (m ≤ mark) = false := decide_eq_false h2
        clear h1 h2
        go_enter Tryz.func23, Tryz.ntmps23
        go_wp2
        go_ret
        exact ⟨rfl, HC.out.setMark m, Chs.setCell (S := (· = b)) (a := ⟨b, 1, none⟩) rfl _⟩
  · simp only [Bool.not_true, if_true] at c0 ⊢
    go_enter Tryz.func23, Tryz.ntmps23
    go_wp2
    go_ret
    exact ⟨rfl, HC.out, Chs.refl _ _⟩
set_option maxRecDepth 100000 in
set_option maxHeartbeats 4000000 in
theorem refGetF (i : Int) (b : Nat) (mark : Int) (away : Bool) (e : Ents) (w : World) (h : RefM w b mark away e) :
    Calls Tryz.prog 25 #[.pointer (some ⟨b, 0, none⟩), .int .i64 i] w fun x w' => x = .returned (.tuple #[.int .i64 (getR away e i).1, .string (getR away e i).2.1, .int .i64 (getR away e i).2.2]) ∧ Below w.heap.size w w' := by
  have HC := hid h
  have c0 := h.c0
  clear h
  cases away
  · simp only [Bool.not_false] at c0
    by_cases hi : 0 ≤ i ∧ i < 200
    · obtain ⟨n, rfl⟩ := Int.eq_ofNat_of_zero_le hi.1
      have g1 : decide ((n : Int) < 0) = false := decide_eq_false (by omega)
      have g2 : decide (200 ≤ (n : Int)) = false := decide_eq_false (by omega)
      have g3 : decide (200 ≤ n) = false := decide_eq_false (by omega)
      have hn : n < 200 := by omega
      have ct := HC.out.ct hn
      have cm := HC.out.cm hn
      have cl := HC.out.cl hn
      have hr : getR false e (n : Int) = (match e n with | some p => (p.1, p.2, 0) | none => (0, ByteArray.empty, 4)) := by
        simp only [getR, Bool.false_eq_true, if_false, if_pos hi, Int.toNat_natCast]
        rfl
      rw [hr]
      cases he : e n with
      | none =>
        simp only [he, Option.isSome_none] at ct
        clear hr he hi cm cl
        go_enter Tryz.func25, Tryz.ntmps25
        go_wp2
        go_ret3
        exact ⟨rfl, Below.refl _ _⟩
      | some p =>
        simp only [he, Option.isSome_some, Option.map_some, Option.getD_some] at ct cm cl
        clear hr he hi
        go_enter Tryz.func25, Tryz.ntmps25
        go_wp2_with fail
        go_quiet (fail)
        go_wp2
        go_ret3
        exact ⟨rfl, below_drewN (Below.refl _ w) _⟩
    · have hr : getR false e i = (0, ByteArray.empty, 2) := by simp only [getR, Bool.false_eq_true, if_false, if_neg hi]
      rw [hr]
      by_cases h0 : i < 0
      · have g1 : decide (i < 0) = true := decide_eq_true h0
        clear hr hi h0
        go_enter Tryz.func25, Tryz.ntmps25
        go_wp2
        go_ret3
        exact ⟨rfl, Below.refl _ _⟩
      · have g1 : decide (i < 0) = false := decide_eq_false h0
        have g2 : decide (200 ≤ i) = true := decide_eq_true (by omega)
        clear hr hi h0
        go_enter Tryz.func25, Tryz.ntmps25
        go_wp2
        go_ret3
        exact ⟨rfl, Below.refl _ _⟩
  · simp only [Bool.not_true] at c0
    go_enter Tryz.func25, Tryz.ntmps25
    go_wp2
    go_ret3
    exact ⟨rfl, Below.refl _ _⟩
set_option maxRecDepth 100000 in
set_option maxHeartbeats 4000000 in
theorem refPutF (i m : Int) (s : ByteArray) (b : Nat) (mark : Int) (away : Bool) (e : Ents) (w : World) (h : RefM w b mark away e) :
    Calls Tryz.prog 24 #[.pointer (some ⟨b, 0, none⟩), .int .i64 i, .int .i64 m, .string s] w fun x w' => x = .returned (.int .i64 (putR away mark i m s)) ∧ (putR away mark i m s ≠ 0 ∧ RefM w' b mark away e ∨ putR away mark i m s = 0 ∧ RefM w' b m away (putE e i.toNat (m, s))) ∧ Chs (fun x => x = b) w w' := by
  have HC := hid h
  have c0 := h.c0
  have c1 := h.c1
  have f1 := Blk.free h 1
  clear h
  have H2 := hid fun (hr : putR away mark i m s ≠ 0) => (show (putR away mark i m s ≠ 0 ∧ RefM w b mark away e ∨ putR away mark i m s = 0 ∧ RefM w b m away (putE e i.toNat (m, s))) ∧ Chs (fun x => x = b) w w from ⟨.inl ⟨hr, HC.out⟩, Chs.refl _ _⟩)
  cases away
  · simp only [Bool.not_false] at c0
    cases hok : putOk i m s
    · have hr : putR false mark i m s = 2 := by simp [putR, hok]
      rw [hr] at H2 ⊢
      have H3 := hid (H2.out (by decide))
      have hcase : i < 0 ∨ ¬ i < 0 ∧ 200 ≤ i ∨ ¬ i < 0 ∧ ¬ 200 ≤ i ∧ m < 0 ∨ ¬ i < 0 ∧ ¬ 200 ≤ i ∧ ¬ m < 0 ∧ 1000000000 < m ∨ ¬ i < 0 ∧ ¬ 200 ≤ i ∧ ¬ m < 0 ∧ ¬ 1000000000 < m ∧ 60 < s.size := by
        unfold putOk at hok
        simp only [Bool.and_eq_false_iff, decide_eq_false_iff_not] at hok
        omega
      clear hok hr H2
      rcases hcase with k | ⟨k1, k2⟩ | ⟨k1, k2, k3⟩ | ⟨k1, k2, k3, k4⟩ | ⟨k1, k2, k3, k4, k5⟩
      · have g1 : decide (i < 0) = true := decide_eq_true (by omega); clear k
        go_enter Tryz.func24, Tryz.ntmps24
        go_wp2
        go_ret
        exact ⟨rfl, H3.out⟩
      · have g1 : decide (i < 0) = false := decide_eq_false (by omega); have g2 : decide (200 ≤ i) = true := decide_eq_true (by omega); clear k1 k2
        go_enter Tryz.func24, Tryz.ntmps24
        go_wp2
        go_ret
        exact ⟨rfl, H3.out⟩
      · have g1 : decide (i < 0) = false := decide_eq_false (by omega); have g2 : decide (200 ≤ i) = false := decide_eq_false (by omega); have g3 : decide (m < 0) = true := decide_eq_true (by omega); clear k1 k2 k3
        go_enter Tryz.func24, Tryz.ntmps24
        go_wp2
        go_ret
        exact ⟨rfl, H3.out⟩
      · have g1 : decide (i < 0) = false := decide_eq_false (by omega); have g2 : decide (200 ≤ i) = false := decide_eq_false (by omega); have g3 : decide (m < 0) = false := decide_eq_false (by omega); have g4 : decide (1000000000 < m) = true := decide_eq_true (by omega); clear k1 k2 k3 k4
        go_enter Tryz.func24, Tryz.ntmps24
        go_wp2
        go_ret
        exact ⟨rfl, H3.out⟩
      · have g1 : decide (i < 0) = false := decide_eq_false (by omega); have g2 : decide (200 ≤ i) = false := decide_eq_false (by omega); have g3 : decide (m < 0) = false := decide_eq_false (by omega); have g4 : decide (1000000000 < m) = false := decide_eq_false (by omega); have g5 : decide (60 < s.size) = true := decide_eq_true (by omega); have g6 : decide (60 < (s.size : Int)) = true := decide_eq_true (by omega); clear k1 k2 k3 k4 k5
        go_enter Tryz.func24, Tryz.ntmps24
        go_wp2
        go_ret
        exact ⟨rfl, H3.out⟩
    · have hk : 0 ≤ i ∧ i < 200 ∧ 0 ≤ m ∧ m ≤ 1000000000 ∧ s.size ≤ 60 := by
        unfold putOk at hok
        simp only [Bool.and_eq_true, decide_eq_true_iff] at hok
        omega
      have g1 : decide (i < 0) = false := decide_eq_false (by omega)
      have g2 : decide (200 ≤ i) = false := decide_eq_false (by omega)
      have g3 : decide (m < 0) = false := decide_eq_false (by omega)
      have g4 : decide (1000000000 < m) = false := decide_eq_false (by omega)
      have g5 : decide (60 < s.size) = false := decide_eq_false (by omega)
      have g6 : decide (60 < (s.size : Int)) = false := decide_eq_false (by omega)
      by_cases hm : m < mark
      · have hr : putR false mark i m s = 5 := by simp [putR, hok, hm]
        rw [hr] at H2 ⊢
        have H3 := hid (H2.out (by decide))
        have g7 : decide (m < mark) = true := decide_eq_true hm
        clear hok hr H2 hk hm
        go_enter Tryz.func24, Tryz.ntmps24
        go_wp2
        go_ret
        exact ⟨rfl, H3.out⟩
      · have hr : putR false mark i m s = 0 := by simp [putR, hok, hm]
        rw [hr]
        have g7 : decide (m < mark) = false := decide_eq_false hm
        obtain ⟨n, rfl⟩ := Int.eq_ofNat_of_zero_le hk.1
        have hn : n < 200 := by omega
        have HK := hid (HC.out.setMark m)
        have HCH := hid (Chs.setCell (w := w) (S := fun x => x = b) (a := ⟨b, 1, none⟩) rfl (.int .i64 m))
        clear hok hr H2 hm
        go_enter Tryz.func24, Tryz.ntmps24
        go_wp2_with fail
        generalize w.setCell ⟨b, 1, none⟩ (.int .i64 m) = W1 at *
        have K0 : Blk W1.drew b 69 (rcells m false e) := HK.out
        have K1 := K0.set (2 + n) (.bool true)
        have K2 := K1.set (202 + n) (.int .i64 m)
        have K3 := K2.set (402 + n) (.string s)
        have d1 := HK.out.ct hn
        have d2 := HK.out.cm hn
        have d3 := HK.out.cl hn
        have z1 := Blk.free HK.out (2 + n)
        have z2 := Blk.free HK.out (202 + n)
        have z3 := Blk.free HK.out (402 + n)
        have HR := hid (show RefM _ b m false (putE e n (m, s)) from by unfold RefM; rw [rcells_put m false e hn m s]; exact K3)
        have HCH2 := hid (HCH.out.trans (((Chs.of_below (Below.refl _ W1).drew).trans (Chs.setCell (S := fun x => x = b) (a := ⟨b, 2 + n, none⟩) rfl (.bool true))).trans ((Chs.setCell (S := fun x => x = b) (a := ⟨b, 202 + n, none⟩) rfl (.int .i64 m)).trans (Chs.setCell (S := fun x => x = b) (a := ⟨b, 402 + n, none⟩) rfl (.string s)))))
        clear K0 K1 K2 K3
        refine wp_region_held_drew (S := (fun _ => True)) (by kernel_rfl) (by (try dsimp only); (all_goals trivial)) (fun hHeld => ?_)
        refine takeD (i := 0) (v := ?_) (some 46) rfl rfl (by kernel_rfl) (by kernel_rfl) (by kernel_rfl) (fun _ _ _ h => h) (Or.inl ⟨by rfl, ?_⟩) (by assumption) ?_
        rotate_left
        · intro w hSw
          (try dsimp only at hSw)
          first
            | (go_simp; done)
            | (go_simp; with_reducible rfl)
        try simp only [Act.put, List.setIfInBounds_toArray, List.set_cons_zero, List.set_cons_succ]
        refine takeD (i := 1) (v := ?_) (some 47) rfl rfl (by kernel_rfl) (by kernel_rfl) (by kernel_rfl) (fun _ _ _ h => h) (Or.inl ⟨by rfl, ?_⟩) (by assumption) ?_
        rotate_left
        · intro w hSw
          (try dsimp only at hSw)
          first
            | (go_simp; done)
            | (go_simp; with_reducible rfl)
        try simp only [Act.put, List.setIfInBounds_toArray, List.set_cons_zero, List.set_cons_succ]
        refine takeD (i := 2) (v := ?_) (some 48) rfl rfl (by kernel_rfl) (by kernel_rfl) (by kernel_rfl) (fun _ _ _ h => h) (Or.inl ⟨by rfl, ?_⟩) (by assumption) ?_
        rotate_left
        · intro w hSw
          (try dsimp only at hSw)
          first
            | (go_simp; done)
            | (go_simp; with_reducible rfl)
        try simp only [Act.put, List.setIfInBounds_toArray, List.set_cons_zero, List.set_cons_succ]
        refine takeD (i := 3) (v := ?_) (some 49) rfl rfl (by kernel_rfl) (by kernel_rfl) (by kernel_rfl) (fun _ _ _ h => h) (Or.inl ⟨by rfl, ?_⟩) (by assumption) ?_
        rotate_left
        · intro w hSw
          (try dsimp only at hSw)
          first
            | (go_simp; done)
            | (go_simp; with_reducible rfl)
        try simp only [Act.put, List.setIfInBounds_toArray, List.set_cons_zero, List.set_cons_succ]
        refine takeD (i := 4) (v := ?_) (some 50) rfl rfl (by kernel_rfl) (by kernel_rfl) (by kernel_rfl) (fun _ _ _ h => h) (Or.inl ⟨by rfl, ?_⟩) (by assumption) ?_
        rotate_left
        · intro w hSw
          (try dsimp only at hSw)
          first
            | (go_simp; done)
            | (go_simp; with_reducible rfl)
        try simp only [Act.put, List.setIfInBounds_toArray, List.set_cons_zero, List.set_cons_succ]
        refine takeD (i := 5) (v := ?_) (some 51) rfl rfl (by kernel_rfl) (by kernel_rfl) (by kernel_rfl) (fun _ _ _ h => h) (Or.inl ⟨by rfl, ?_⟩) (by assumption) ?_
        rotate_left
        · intro w hSw
          (try dsimp only at hSw)
          first
            | (go_simp; done)
            | (go_simp; with_reducible rfl)
        try simp only [Act.put, List.setIfInBounds_toArray, List.set_cons_zero, List.set_cons_succ]
        refine takeD (i := 6) (v := ?_) (some 52) rfl rfl (by kernel_rfl) (by kernel_rfl) (by kernel_rfl) (fun _ _ _ h => h) (Or.inl ⟨by rfl, ?_⟩) (by assumption) ?_
        rotate_left
        · intro w hSw
          (try dsimp only at hSw)
          first
            | (go_simp; done)
            | (go_simp; with_reducible rfl)
        try simp only [Act.put, List.setIfInBounds_toArray, List.set_cons_zero, List.set_cons_succ]
        refine takeD (i := 7) (v := ?_) (some 53) rfl rfl (by kernel_rfl) (by kernel_rfl) (by kernel_rfl) (fun _ _ _ h => h) (Or.inl ⟨by rfl, ?_⟩) (by assumption) ?_
        rotate_left
        · intro w hSw
          (try dsimp only at hSw)
          first
            | (go_simp; done)
            | (go_simp; with_reducible rfl)
        try simp only [Act.put, List.setIfInBounds_toArray, List.set_cons_zero, List.set_cons_succ]
        refine takeD (i := 8) (v := ?_) (some 54) rfl rfl (by kernel_rfl) (by kernel_rfl) (by kernel_rfl) (fun _ _ _ h => h) (Or.inl ⟨by rfl, ?_⟩) (by assumption) ?_
        rotate_left
        · intro w hSw
          (try dsimp only at hSw)
          first
            | (go_simp; done)
            | (go_simp; with_reducible rfl)
        try simp only [Act.put, List.setIfInBounds_toArray, List.set_cons_zero, List.set_cons_succ]
        refine takeD (i := 9) (v := ?_) (some 55) rfl rfl (by kernel_rfl) (by kernel_rfl) (by kernel_rfl) (fun _ _ _ h => h) (Or.inl ⟨by rfl, ?_⟩) (by assumption) ?_
        rotate_left
        · intro w hSw
          (try dsimp only at hSw)
          first
            | (go_simp; done)
            | (go_simp; with_reducible rfl)
        try simp only [Act.put, List.setIfInBounds_toArray, List.set_cons_zero, List.set_cons_succ]
        refine takeD (i := 10) (v := ?_) (some 56) rfl rfl (by kernel_rfl) (by kernel_rfl) (by kernel_rfl) (fun _ _ _ h => h) (Or.inl ⟨by rfl, ?_⟩) (by assumption) ?_
        rotate_left
        · intro w hSw
          (try dsimp only at hSw)
          first
            | (go_simp; done)
            | (go_simp; with_reducible rfl)
        try simp only [Act.put, List.setIfInBounds_toArray, List.set_cons_zero, List.set_cons_succ]
        refine takeD (i := 12) (v := ?_) (some 57) rfl rfl (by kernel_rfl) (by kernel_rfl) (by kernel_rfl) (fun _ _ _ h => h) (Or.inl ⟨by rfl, ?_⟩) (by assumption) ?_
        rotate_left
        · intro w hSw
          (try dsimp only at hSw)
          first
            | (go_simp; done)
            | (go_simp; with_reducible rfl)
        try simp only [Act.put, List.setIfInBounds_toArray, List.set_cons_zero, List.set_cons_succ]
        refine takeD (i := 13) (v := ?_) (some 58) rfl rfl (by kernel_rfl) (by kernel_rfl) (by kernel_rfl) (fun _ _ _ h => h) (Or.inl ⟨by rfl, ?_⟩) (by assumption) ?_
        rotate_left
        · intro w hSw
          (try dsimp only at hSw)
          first
            | (go_simp; done)
            | (go_simp; with_reducible rfl)
        try simp only [Act.put, List.setIfInBounds_toArray, List.set_cons_zero, List.set_cons_succ]
        refine takeD (i := 16) (v := ?_) (some 60) rfl rfl (by kernel_rfl) (by kernel_rfl) (by kernel_rfl) (fun _ _ _ h => h) (Or.inl ⟨by rfl, ?_⟩) (by assumption) ?_
        rotate_left
        · intro w hSw
          (try dsimp only at hSw)
          first
            | (go_simp; done)
            | (go_simp; with_reducible rfl)
        try simp only [Act.put, List.setIfInBounds_toArray, List.set_cons_zero, List.set_cons_succ]
        refine takeD (i := 17) (v := ?_) (some 61) rfl rfl (by kernel_rfl) (by kernel_rfl) (by kernel_rfl) (fun _ _ _ h => h) (Or.inl ⟨by rfl, ?_⟩) (by assumption) ?_
        rotate_left
        · intro w hSw
          (try dsimp only at hSw)
          first
            | (go_simp; done)
            | (go_simp; with_reducible rfl)
        try simp only [Act.put, List.setIfInBounds_toArray, List.set_cons_zero, List.set_cons_succ]
        refine wpAnyH_ready (rs := [11]) (by kernel_rfl) (by simp) ?_
        refine AllReadyH.cons rfl (fun K hK => ?_) AllReadyH.nil
        go_simp
        refine hK.out _ _ ?_ (fun hHeld => ?_)
        · (try dsimp only)
          (all_goals trivial)
        clear hK K
        try simp only [Act.put, List.setIfInBounds_toArray, List.set_cons_zero, List.set_cons_succ]
        refine takeD (i := 14) (v := ?_) (some 59) rfl rfl (by kernel_rfl) (by kernel_rfl) (by kernel_rfl) (fun _ _ _ h => h) (Or.inl ⟨by rfl, ?_⟩) (by assumption) ?_
        rotate_left
        · intro w hSw
          (try dsimp only at hSw)
          first
            | (go_simp; done)
            | (go_simp; with_reducible rfl)
        try simp only [Act.put, List.setIfInBounds_toArray, List.set_cons_zero, List.set_cons_succ]
        refine wpAnyH_ready (rs := [15]) (by kernel_rfl) (by simp) ?_
        refine AllReadyH.cons rfl (fun K hK => ?_) AllReadyH.nil
        go_simp
        refine hK.out _ _ ?_ (fun hHeld => ?_)
        · (try dsimp only)
          (all_goals trivial)
        clear hK K
        try simp only [Act.put, List.setIfInBounds_toArray, List.set_cons_zero, List.set_cons_succ]
        refine takeD (i := 18) (v := ?_) (some 62) rfl rfl (by kernel_rfl) (by kernel_rfl) (by kernel_rfl) (fun _ _ _ h => h) (Or.inl ⟨by rfl, ?_⟩) (by assumption) ?_
        rotate_left
        · intro w hSw
          (try dsimp only at hSw)
          first
            | (go_simp; done)
            | (go_simp; with_reducible rfl)
        try simp only [Act.put, List.setIfInBounds_toArray, List.set_cons_zero, List.set_cons_succ]
        refine wpAnyH_ready (rs := [19]) (by kernel_rfl) (by simp) ?_
        refine AllReadyH.cons rfl (fun K hK => ?_) AllReadyH.nil
        go_simp
        refine hK.out _ _ ?_ (fun hHeld => ?_)
        · (try dsimp only)
          (all_goals trivial)
        clear hK K
        try simp only [Act.put, List.setIfInBounds_toArray, List.set_cons_zero, List.set_cons_succ]
        refine wpAnyH_done (by kernel_rfl) ?_ _
        go_wp2
        go_ret
        exact ⟨rfl, .inr ⟨by simp, HR.out⟩, HCH2.out⟩
  · simp only [Bool.not_true] at c0
    have hr : putR true mark i m s = 8 := by simp [putR]
    rw [hr] at H2 ⊢
    have H3 := hid (H2.out (by decide))
    clear hr H2
    go_enter Tryz.func24, Tryz.ntmps24
    go_wp2
    go_ret
    exact ⟨rfl, H3.out⟩
end Go.Proofs.YtkjinamjdjijcaaGreatDoor

