/- The program's copies in memory, and the walks of their methods. Conditions: a copy that NewCopy made, or none. -/
import Derived.Test.YtkjinamjdjijcaaGreatDoorMapX
import Derived.WalkSpells
import Derived.BigQuiet
import Derived.Test.YtkjinamjdjijcaaGreatDoorChecked
namespace Go.Proofs.YtkjinamjdjijcaaGreatDoor
open Go.RowKit Go.Maps

/-- What a copy holds at each number. -/
abbrev Ents := Nat → Option (Int × ByteArray)
def fX (e : Ents) : Value → Option Value
  | .int .i64 i => if 0 ≤ i then (e i.toNat).map fun p => .agg #[.int .i64 p.1, .string p.2] else none
  | _ => none
theorem fX_nat (e : Ents) (i : Nat) : fX e (.int .i64 (i : Int)) = (e i).map fun p => .agg #[.int .i64 p.1, .string p.2] := by simp [fX]
def putE (e : Ents) (i : Nat) (p : Int × ByteArray) : Ents := fun j => if j = i then some p else e j
theorem put_fX (e : Ents) (i : Nat) (p : Int × ByteArray) : putX (fX e) (.int .i64 (i : Int)) (.agg #[.int .i64 p.1, .string p.2]) (fX (putE e i p)) := by
  refine ⟨by rw [fX_nat]; simp [putE], fun x hx => ?_⟩
  cases x with
  | int k v =>
    cases k <;> try rfl
    unfold fX
    by_cases h0 : 0 ≤ v
    · simp only [if_pos h0]
      have : v.toNat ≠ i := fun e' => hx (by rw [← e', Int.toNat_of_nonneg h0])
      simp [putE, this]
    · simp only [if_neg h0]
  | _ => rfl
/-- A copy: its struct, and its map. -/
structure CpM (w : World) (cb mb : Nat) (mark : Int) (away : Bool) (e : Ents) : Prop where
  blk : Blk w cb 36 #[.map (some mb), .int .i64 mark, .bool away]
  map : MapX Tryz.prog 3 w mb (fX e)
section
variable {w w' : World} {cb mb : Nat} {mark : Int} {away : Bool} {e : Ents}
theorem CpM.keep (h : CpM w cb mb mark away e) (hb : Below w.heap.size w w') : CpM w' cb mb mark away e := ⟨h.blk.keep hb, h.map.keep hb⟩
theorem CpM.drewN (h : CpM w cb mb mark away e) (n : Nat) : CpM (w.drewN n) cb mb mark away e := ⟨h.blk.drewN n, h.map.drewN n⟩
theorem CpM.ne (h : CpM w cb mb mark away e) : cb ≠ mb := h.map.ne_blk h.blk
theorem CpM.lt (h : CpM w cb mb mark away e) : cb < w.heap.size ∧ mb < w.heap.size := ⟨h.blk.lt, h.map.lt⟩
end

theorem fX_none (x : Value) : fX (fun _ => none) x = none := by
  unfold fX
  split
  · split <;> rfl
  · rfl
/-- Only one block may have changed. -/
structure Chs (S : Nat → Prop) (w w' : World) : Prop where
  os : w'.os = w.os
  tape : w'.tape = w.tape
  output : w'.output = w.output
  size : w.heap.size ≤ w'.heap.size
  block : ∀ i, i < w.heap.size → ¬ S i → w'.heap[i]? = w.heap[i]?
section
variable {S T : Nat → Prop} {w w' w'' : World}
theorem Chs.refl (S : Nat → Prop) (w : World) : Chs S w w := ⟨rfl, rfl, rfl, Nat.le_refl _, fun _ _ _ => rfl⟩
theorem Chs.trans (h : Chs S w w') (k : Chs S w' w'') : Chs S w w'' :=
  ⟨k.os.trans h.os, k.tape.trans h.tape, k.output.trans h.output, Nat.le_trans h.size k.size, fun i hi hs => (k.block i (Nat.lt_of_lt_of_le hi h.size) hs).trans (h.block i hi hs)⟩
theorem Chs.mono (h : Chs S w w') (k : ∀ i, S i → T i) : Chs T w w' := ⟨h.os, h.tape, h.output, h.size, fun i hi hs => h.block i hi fun hc => hs (k i hc)⟩
theorem Chs.of_below (h : Below w.heap.size w w') : Chs S w w' := ⟨h.os, h.tape, h.output, h.size, fun i hi _ => h.block i hi⟩
theorem Chs.setCell {a : Addr} (ha : S a.block) (u : Value) : Chs S w (w.setCell a u) :=
  ⟨rfl, rfl, rfl, by simp, fun i _ hs => Below.heap_setCell w a u i fun e => hs (by rw [e]; exact ha)⟩
theorem Chs.grown {b : Nat} (hb : S b) (h : w.grownBy w' (some b)) : Chs S w w' :=
  ⟨h.os, h.tape, h.output, h.size, fun i hi hs => h.block i hi fun e => hs (by cases e; exact hb)⟩
theorem Chs.below {B : Nat} {w0 : World} (h : Below B w0 w) (k : Chs S w w') (hB : B ≤ w.heap.size) (hS : ∀ i, S i → B ≤ i) : Below B w0 w' :=
  h.trans ⟨k.os, k.tape, k.output, k.size, fun i hi => k.block i (by omega) fun hs => by have := hS i hs; omega⟩
theorem Chs.blk {b : Nat} {t : TypeId} {cs : Array Value} (k : Chs S w w') (h : Blk w b t cs) (hs : ¬ S b) : Blk w' b t cs := (k.block b h.lt hs).trans h
theorem Chs.mapx {P : Program} {kt : TypeId} {b : Nat} {f : Value → Option Value} (k : Chs S w w') (h : MapX P kt w b f) (hs : ¬ S b) : MapX P kt w' b f := by
  have hlt := h.lt
  obtain ⟨es, c, h1, h2⟩ := h
  exact ⟨es, c, (k.block b hlt hs).trans h1, h2⟩
theorem Chs.cpm {cb mb : Nat} {mark : Int} {away : Bool} {e : Ents} (k : Chs S w w') (h : CpM w cb mb mark away e) (h1 : ¬ S cb) (h2 : ¬ S mb) : CpM w' cb mb mark away e := ⟨k.blk h.blk h1, k.mapx h.map h2⟩
end
set_option maxRecDepth 100000 in
theorem newCopyF (w : World) :
    Calls Tryz.prog 21 #[] w fun e w' => ∃ cb mb, e = .returned (.pointer (some ⟨cb, 0, none⟩)) ∧ CpM w' cb mb 0 false (fun _ => none) ∧ Below w.heap.size w w' ∧ w.heap.size ≤ cb ∧ w.heap.size ≤ mb := by
  have hmm := @run_makeMap Tryz.prog
  go_enter Tryz.func21, Tryz.ntmps21
  go_wp2
  go_ret
  exact ⟨w.heap.size + 1, w.heap.size, rfl, ⟨Blk.new_at _ _ _ (by simp), (MapX.congr (MapX.made w) fun x => (fX_none x).symm).alloc _⟩, ((Below.refl _ w).alloc (Nat.le_refl _) _).alloc (by simp) _, by omega, by omega⟩
set_option maxRecDepth 100000 in
theorem noneF (cb mb : Nat) (mark : Int) (away : Bool) (e : Ents) (w : World) (h : CpM w cb mb mark away e) :
    Calls Tryz.prog 26 #[.pointer (some ⟨cb, 0, none⟩)] w fun x w' => x = .returned (.bool false) ∧ w = w' := by
  have c0 := h.blk.cell 0
  have c1 := h.blk.cell 1
  have c2 := h.blk.cell 2
  simp only [List.getElem?_toArray, List.getElem?_cons_zero, List.getElem?_cons_succ] at c0 c1 c2
  have qT : ∀ (w : World) (r : Option Nat), (binOp .eql 34 (.map r) (.map none)).run Tryz.prog w = .ok (.bool r.isNone) w := fun w r => run_eql_map_nil w _ _ _ r Tryz.underlying34
  clear h
  go_enter Tryz.func26, Tryz.ntmps26
  go_wp2
  go_ret
  exact ⟨rfl, rfl⟩
set_option maxRecDepth 100000 in
theorem noneNil (w : World) :
    Calls Tryz.prog 26 #[.pointer none] w fun x w' => x = .returned (.bool true) ∧ w = w' := by
  go_enter Tryz.func26, Tryz.ntmps26
  go_wp2
  go_ret
  exact ⟨rfl, rfl⟩
/-- What ready says. -/
def rdyR (away : Bool) : Int := if away then 8 else 0
set_option maxRecDepth 100000 in
theorem readyF (cb mb : Nat) (mark : Int) (away : Bool) (e : Ents) (w : World) (h : CpM w cb mb mark away e) :
    Calls Tryz.prog 27 #[.pointer (some ⟨cb, 0, none⟩)] w fun x w' => x = .returned (.int .i64 (rdyR away)) ∧ w = w' := by
  have HN := hid (noneF cb mb mark away e w h)
  have c0 := h.blk.cell 0
  have c1 := h.blk.cell 1
  have c2 := h.blk.cell 2
  simp only [List.getElem?_toArray, List.getElem?_cons_zero, List.getElem?_cons_succ] at c0 c1 c2
  clear h
  cases away
  · go_enter Tryz.func27, Tryz.ntmps27
    go_wp2_with fail
    refine (HN.out).mono ?_; rintro x w' ⟨rfl, rfl⟩
    go_wp2
    go_ret
    exact ⟨rfl, rfl⟩
  · go_enter Tryz.func27, Tryz.ntmps27
    go_wp2_with fail
    refine (HN.out).mono ?_; rintro x w' ⟨rfl, rfl⟩
    go_wp2
    go_ret
    exact ⟨rfl, rfl⟩
/-- What Promise says, and the mark behind it. -/
def prmR (away : Bool) (mark m : Int) : Int × Int := if away then (8, mark) else if m < 0 ∨ m > 1000000000 then (2, mark) else if m ≤ mark then (5, mark) else (0, m)
set_option maxRecDepth 100000 in
set_option maxHeartbeats 2000000 in
theorem promiseF (m : Int) (cb mb : Nat) (mark : Int) (away : Bool) (e : Ents) (w : World) (h : CpM w cb mb mark away e) :
    Calls Tryz.prog 12 #[.pointer (some ⟨cb, 0, none⟩), .int .i64 m] w fun x w' => x = .returned (.int .i64 (prmR away mark m).1) ∧ CpM w' cb mb (prmR away mark m).2 away e ∧ Chs (· = cb) w w' := by
  have HR := hid (readyF cb mb mark away e w h)
  have HC := hid h
  have hne := h.ne
  have c0 := h.blk.cell 0
  have c1 := h.blk.cell 1
  have c2 := h.blk.cell 2
  simp only [List.getElem?_toArray, List.getElem?_cons_zero, List.getElem?_cons_succ] at c0 c1 c2
  have f1 := h.blk.free 1
  clear h
  unfold prmR
  cases away
  · simp only [rdyR, Bool.false_eq_true, if_false] at HR ⊢
    by_cases h1 : m < 0 ∨ m > 1000000000
    · rw [if_pos h1]
      by_cases h0 : m < 0
      · have g1 : decide (m < 0) = true := decide_eq_true h0
        clear h1 h0
        go_enter Tryz.func12, Tryz.ntmps12
        go_wp2_with fail
        refine (HR.out).mono ?_; rintro x w' ⟨rfl, rfl⟩
        go_wp2
        go_ret
        exact ⟨rfl, HC.out, Chs.refl _ _⟩
      · have g1 : decide (m < 0) = false := decide_eq_false h0
        have g2 : decide (1000000000 < m) = true := decide_eq_true (by omega)
        clear h1 h0
        go_enter Tryz.func12, Tryz.ntmps12
        go_wp2_with fail
        refine (HR.out).mono ?_; rintro x w' ⟨rfl, rfl⟩
        go_wp2
        go_ret
        exact ⟨rfl, HC.out, Chs.refl _ _⟩
    · rw [if_neg h1]
      have g1 : decide (m < 0) = false := decide_eq_false (by omega)
      have g2 : decide (1000000000 < m) = false := decide_eq_false (by omega)
      by_cases h2 : m ≤ mark
      · rw [if_pos h2]
        have g3 : decide (m ≤ mark) = true := decide_eq_true h2
        clear h1 h2
        go_enter Tryz.func12, Tryz.ntmps12
        go_wp2_with fail
        refine (HR.out).mono ?_; rintro x w' ⟨rfl, rfl⟩
        go_wp2
        go_ret
        exact ⟨rfl, HC.out, Chs.refl _ _⟩
      · rw [if_neg h2]
        have g3 : decide (m ≤ mark) = false := decide_eq_false h2
        clear h1 h2
        go_enter Tryz.func12, Tryz.ntmps12
        go_wp2_with fail
        refine (HR.out).mono ?_; rintro x w' ⟨rfl, rfl⟩
        go_wp2
        go_ret
        exact ⟨rfl, ⟨HC.out.blk.set 1 _, HC.out.map.setCell hne _⟩, Chs.setCell (S := (· = cb)) (a := ⟨cb, 1, none⟩) rfl _⟩
  · simp only [rdyR, if_true] at HR ⊢
    go_enter Tryz.func12, Tryz.ntmps12
    go_wp2_with fail
    refine (HR.out).mono ?_; rintro x w' ⟨rfl, rfl⟩
    go_wp2
    go_ret
    exact ⟨rfl, HC.out, Chs.refl _ _⟩
/-- What Mark says. -/
def mrkR (away : Bool) (mark : Int) : Int × Int := if away then (0, 8) else (mark, 0)
set_option maxRecDepth 100000 in
theorem markF (cb mb : Nat) (mark : Int) (away : Bool) (e : Ents) (w : World) (h : CpM w cb mb mark away e) :
    Calls Tryz.prog 11 #[.pointer (some ⟨cb, 0, none⟩)] w fun x w' => x = .returned (.tuple #[.int .i64 (mrkR away mark).1, .int .i64 (mrkR away mark).2]) ∧ w = w' := by
  have HR := hid (readyF cb mb mark away e w h)
  have HC := hid h
  have hne := h.ne
  have c0 := h.blk.cell 0
  have c1 := h.blk.cell 1
  have c2 := h.blk.cell 2
  simp only [List.getElem?_toArray, List.getElem?_cons_zero, List.getElem?_cons_succ] at c0 c1 c2
  clear h
  unfold mrkR
  cases away
  · simp only [rdyR, Bool.false_eq_true, if_false] at HR ⊢
    go_enter Tryz.func11, Tryz.ntmps11
    go_wp2_with fail
    refine (HR.out).mono ?_; rintro x w' ⟨rfl, rfl⟩
    go_wp2
    go_ret2
    exact ⟨rfl, rfl⟩
  · simp only [rdyR, if_true] at HR ⊢
    go_enter Tryz.func11, Tryz.ntmps11
    go_wp2_with fail
    refine (HR.out).mono ?_; rintro x w' ⟨rfl, rfl⟩
    go_wp2
    go_ret2
    exact ⟨rfl, rfl⟩
set_option maxRecDepth 100000 in
theorem reachF (on : Bool) (cb mb : Nat) (mark : Int) (away : Bool) (e : Ents) (w : World) (h : CpM w cb mb mark away e) :
    Calls Tryz.prog 9 #[.pointer (some ⟨cb, 0, none⟩), .bool on] w fun x w' => x = .returned (.tuple #[]) ∧ CpM w' cb mb mark (!on) e ∧ Chs (· = cb) w w' := by
  have HN := hid (noneF cb mb mark away e w h)
  have HC := hid h
  have hne := h.ne
  have c0 := h.blk.cell 0
  have c1 := h.blk.cell 1
  have c2 := h.blk.cell 2
  simp only [List.getElem?_toArray, List.getElem?_cons_zero, List.getElem?_cons_succ] at c0 c1 c2
  have f2 := h.blk.free 2
  clear h
  go_enter Tryz.func9, Tryz.ntmps9
  go_wp2_with fail
  refine (HN.out).mono ?_; rintro x w' ⟨rfl, rfl⟩
  go_wp2
  go_end0
  exact ⟨rfl, ⟨HC.out.blk.set 2 _, HC.out.map.setCell hne _⟩, Chs.setCell (S := (· = cb)) (a := ⟨cb, 2, none⟩) rfl _⟩
/-- What Put says, and what is there behind it. -/
def putOk (i m : Int) (s : ByteArray) : Bool := decide (0 ≤ i) && decide (i < 200) && decide (0 ≤ m) && decide (m ≤ 1000000000) && decide (s.size ≤ 60)
def putR (away : Bool) (mark i m : Int) (s : ByteArray) : Int := if away then 8 else if putOk i m s then (if m < mark then 5 else 0) else 2
set_option maxRecDepth 100000 in
set_option maxHeartbeats 4000000 in
theorem putF (i m : Int) (s : ByteArray) (cb mb : Nat) (mark : Int) (away : Bool) (e : Ents) (w : World) (h : CpM w cb mb mark away e) :
    Calls Tryz.prog 13 #[.pointer (some ⟨cb, 0, none⟩), .int .i64 i, .int .i64 m, .string s] w fun x w' => x = .returned (.int .i64 (putR away mark i m s)) ∧ (putR away mark i m s ≠ 0 ∧ CpM w' cb mb mark away e ∨ putR away mark i m s = 0 ∧ CpM w' cb mb m away (putE e i.toNat (m, s))) ∧ Chs (fun b => b = cb ∨ b = mb) w w' := by
  have HR := hid (readyF cb mb mark away e w h)
  have HC := hid h
  have hne := h.ne
  have c0 := h.blk.cell 0
  have c1 := h.blk.cell 1
  have c2 := h.blk.cell 2
  simp only [List.getElem?_toArray, List.getElem?_cons_zero, List.getElem?_cons_succ] at c0 c1 c2
  have f1 := h.blk.free 1
  clear h
  have H2 := hid fun (hr : putR away mark i m s ≠ 0) => (show (putR away mark i m s ≠ 0 ∧ CpM w cb mb mark away e ∨ putR away mark i m s = 0 ∧ CpM w cb mb m away (putE e i.toNat (m, s))) ∧ Chs (fun b => b = cb ∨ b = mb) w w from ⟨.inl ⟨hr, HC.out⟩, Chs.refl _ _⟩)
  cases away
  · simp only [rdyR, Bool.false_eq_true, if_false] at HR
    cases hok : putOk i m s
    · have hr : putR false mark i m s = 2 := by simp [putR, hok]
      rw [hr] at H2 ⊢
      have H3 := hid (H2.out (by decide))
      have hcase : i < 0 ∨ ¬ i < 0 ∧ 200 ≤ i ∨ ¬ i < 0 ∧ ¬ 200 ≤ i ∧ m < 0 ∨ ¬ i < 0 ∧ ¬ 200 ≤ i ∧ ¬ m < 0 ∧ 1000000000 < m ∨ ¬ i < 0 ∧ ¬ 200 ≤ i ∧ ¬ m < 0 ∧ ¬ 1000000000 < m ∧ 60 < s.size := by
        unfold putOk at hok
        simp only [Bool.and_eq_false_iff, decide_eq_false_iff_not] at hok
        omega
      clear hok hr H2
      rcases hcase with k | ⟨k1, k2⟩ | ⟨k1, k2, k3⟩ | ⟨k1, k2, k3, k4⟩ | ⟨k1, k2, k3, k4, k5⟩
      · have g1 : decide (i < 0) = true := decide_eq_true (by omega); clear k
        go_enter Tryz.func13, Tryz.ntmps13
        go_wp2_with fail
        refine (HR.out).mono ?_; rintro x w' ⟨rfl, rfl⟩
        go_wp2
        go_ret
        exact ⟨rfl, H3.out⟩
      · have g1 : decide (i < 0) = false := decide_eq_false (by omega); have g2 : decide (200 ≤ i) = true := decide_eq_true (by omega); clear k1 k2
        go_enter Tryz.func13, Tryz.ntmps13
        go_wp2_with fail
        refine (HR.out).mono ?_; rintro x w' ⟨rfl, rfl⟩
        go_wp2
        go_ret
        exact ⟨rfl, H3.out⟩
      · have g1 : decide (i < 0) = false := decide_eq_false (by omega); have g2 : decide (200 ≤ i) = false := decide_eq_false (by omega); have g3 : decide (m < 0) = true := decide_eq_true (by omega); clear k1 k2 k3
        go_enter Tryz.func13, Tryz.ntmps13
        go_wp2_with fail
        refine (HR.out).mono ?_; rintro x w' ⟨rfl, rfl⟩
        go_wp2
        go_ret
        exact ⟨rfl, H3.out⟩
      · have g1 : decide (i < 0) = false := decide_eq_false (by omega); have g2 : decide (200 ≤ i) = false := decide_eq_false (by omega); have g3 : decide (m < 0) = false := decide_eq_false (by omega); have g4 : decide (1000000000 < m) = true := decide_eq_true (by omega); clear k1 k2 k3 k4
        go_enter Tryz.func13, Tryz.ntmps13
        go_wp2_with fail
        refine (HR.out).mono ?_; rintro x w' ⟨rfl, rfl⟩
        go_wp2
        go_ret
        exact ⟨rfl, H3.out⟩
      · have g1 : decide (i < 0) = false := decide_eq_false (by omega); have g2 : decide (200 ≤ i) = false := decide_eq_false (by omega); have g3 : decide (m < 0) = false := decide_eq_false (by omega); have g4 : decide (1000000000 < m) = false := decide_eq_false (by omega); have g5 : decide (60 < s.size) = true := decide_eq_true (by omega); have g6 : decide (60 < (s.size : Int)) = true := decide_eq_true (by omega); clear k1 k2 k3 k4 k5
        go_enter Tryz.func13, Tryz.ntmps13
        go_wp2_with fail
        refine (HR.out).mono ?_; rintro x w' ⟨rfl, rfl⟩
        go_wp2
        go_ret
        exact ⟨rfl, H3.out⟩
    · have hk : 0 ≤ i ∧ i < 200 ∧ 0 ≤ m ∧ m ≤ 1000000000 ∧ s.size ≤ 60 := by
        unfold putOk at hok
        simp only [Bool.and_eq_true, decide_eq_true_iff] at hok
        omega
      have g1 : decide (i < 0) = false := decide_eq_false (by omega)
      have g2 : decide (200 ≤ i) = false := decide_eq_false (by omega)
      have g3 : decide (m < 0) = false := decide_eq_false (by omega)
      have g4 : decide (1000000000 < m) = false := decide_eq_false (by omega)
      have g5 : decide (60 < s.size) = false := decide_eq_false (by omega)
      have g6 : decide (60 < (s.size : Int)) = false := decide_eq_false (by omega)
      by_cases hm : m < mark
      · have hr : putR false mark i m s = 5 := by simp [putR, hok, hm]
        rw [hr] at H2 ⊢
        have H3 := hid (H2.out (by decide))
        have g7 : decide (m < mark) = true := decide_eq_true hm
        clear hok hr H2 hk hm
        go_enter Tryz.func13, Tryz.ntmps13
        go_wp2_with fail
        refine (HR.out).mono ?_; rintro x w' ⟨rfl, rfl⟩
        go_wp2
        go_ret
        exact ⟨rfl, H3.out⟩
      · have hr : putR false mark i m s = 0 := by simp [putR, hok, hm]
        rw [hr]
        have g7 : decide (m < mark) = false := decide_eq_false hm
        obtain ⟨n, rfl⟩ := Int.eq_ofNat_of_zero_le hk.1
        obtain ⟨w1, hrun, hmx, hgr⟩ := HC.out.map.update (int_keyed Tryz.underlying3) Tryz.underlying34 (keyOf_int_mk Tryz.underlying3 (WalkArith.wf_i64 (by omega))) (put_fX e n (m, s))
        have B1 := hid (HC.out.blk.grown hgr (by simp; exact hne))
        have d1 := B1.out.cell 1
        simp only [List.getElem?_toArray, List.getElem?_cons_zero, List.getElem?_cons_succ] at d1
        have z1 := B1.out.free 1
        have HMX := hid (hmx.setCell (a := ⟨cb, 1, none⟩) hne (.int .i64 m))
        have HBK := hid (B1.out.set 1 (.int .i64 m))
        have HCH := hid ((Chs.grown (S := fun b => b = cb ∨ b = mb) (.inr rfl) hgr).trans (Chs.setCell (S := fun b => b = cb ∨ b = mb) (a := ⟨cb, 1, none⟩) (.inl rfl) (.int .i64 m)))
        clear hok hr H2 hm hmx hgr
        go_enter Tryz.func13, Tryz.ntmps13
        go_wp2_with fail
        refine (HR.out).mono ?_; rintro x w' ⟨rfl, rfl⟩
        go_wp2
        go_ret
        exact ⟨rfl, .inr ⟨by simp, ⟨HBK.out, HMX.out⟩⟩, HCH.out⟩
  · simp only [rdyR, if_true] at HR
    have hr : putR true mark i m s = 8 := by simp [putR]
    rw [hr] at H2 ⊢
    have H3 := hid (H2.out (by decide))
    clear hr H2
    go_enter Tryz.func13, Tryz.ntmps13
    go_wp2_with fail
    refine (HR.out).mono ?_; rintro x w' ⟨rfl, rfl⟩
    go_wp2
    go_ret
    exact ⟨rfl, H3.out⟩
/-- What Get says. -/
def getR (away : Bool) (e : Ents) (i : Int) : Int × ByteArray × Int :=
  if away then (0, ByteArray.empty, 8) else if 0 ≤ i ∧ i < 200 then (match e i.toNat with | some p => (p.1, p.2, 0) | none => (0, ByteArray.empty, 4)) else (0, ByteArray.empty, 2)
set_option maxRecDepth 100000 in
set_option maxHeartbeats 4000000 in
theorem getF (i : Int) (cb mb : Nat) (mark : Int) (away : Bool) (e : Ents) (w : World) (h : CpM w cb mb mark away e) :
    Calls Tryz.prog 10 #[.pointer (some ⟨cb, 0, none⟩), .int .i64 i] w fun x w' => x = .returned (.tuple #[.int .i64 (getR away e i).1, .string (getR away e i).2.1, .int .i64 (getR away e i).2.2]) ∧ Below w.heap.size w w' := by
  have HR := hid (readyF cb mb mark away e w h)
  have HC := hid h
  have hne := h.ne
  have c0 := h.blk.cell 0
  have c1 := h.blk.cell 1
  have c2 := h.blk.cell 2
  simp only [List.getElem?_toArray, List.getElem?_cons_zero, List.getElem?_cons_succ] at c0 c1 c2
  clear h
  have HBN := hid (@Below.refl w.heap.size w)
  cases away
  · simp only [rdyR, Bool.false_eq_true, if_false] at HR
    by_cases hi : 0 ≤ i ∧ i < 200
    · obtain ⟨n, rfl⟩ := Int.eq_ofNat_of_zero_le hi.1
      have g1 : decide ((n : Int) < 0) = false := decide_eq_false (by omega)
      have g2 : decide (200 ≤ (n : Int)) = false := decide_eq_false (by omega)
      have g3 : decide (200 ≤ n) = false := decide_eq_false (by omega)
      have hr : getR false e (n : Int) = (match e n with | some p => (p.1, p.2, 0) | none => (0, ByteArray.empty, 4)) := by
        simp only [getR, Bool.false_eq_true, if_false, if_pos hi, Int.toNat_natCast]
      rw [hr]
      cases he : e n with
      | none =>
        have HL : (Instr.lookup 34 (.map (some mb)) (.int .i64 (n : Int)) true).run Tryz.prog w = .ok (.tuple #[.agg #[.int .i64 0, .string ByteArray.empty], .bool false]) w := HC.out.map.look_out (int_keyed Tryz.underlying3) Tryz.underlying34 (z := .agg #[.int .i64 0, .string ByteArray.empty]) (fun W => by kernel_rfl) (keyOf_int_mk Tryz.underlying3 (WalkArith.wf_i64 (by omega))) (show fX e (.int .i64 (n : Int)) = none by rw [fX_nat, he]; rfl) 0 true
        clear hr he hi
        go_enter Tryz.func10, Tryz.ntmps10
        go_wp2_with fail
        refine (HR.out).mono ?_; rintro x w' ⟨rfl, rfl⟩
        go_wp2
        go_ret3
        exact ⟨rfl, (Below.refl _ w).alloc (Nat.le_refl _) _⟩
      | some p =>
        have HL : (Instr.lookup 34 (.map (some mb)) (.int .i64 (n : Int)) true).run Tryz.prog w = .ok (.tuple #[.agg #[.int .i64 p.1, .string p.2], .bool true]) w := HC.out.map.look_in (int_keyed Tryz.underlying3) Tryz.underlying34 (keyOf_int_mk Tryz.underlying3 (WalkArith.wf_i64 (by omega))) (show fX e (.int .i64 (n : Int)) = some (.agg #[.int .i64 p.1, .string p.2]) by rw [fX_nat, he]; rfl) 0 true
        clear hr he hi
        go_enter Tryz.func10, Tryz.ntmps10
        go_wp2_with fail
        refine (HR.out).mono ?_; rintro x w' ⟨rfl, rfl⟩
        go_wp2_with fail
        go_quiet (fail)
        go_wp2
        go_ret3
        exact ⟨rfl, below_drewN ((Below.refl _ w).alloc (Nat.le_refl _) _) _⟩
    · have hr : getR false e i = (0, ByteArray.empty, 2) := by simp only [getR, Bool.false_eq_true, if_false, if_neg hi]
      rw [hr]
      by_cases h0 : i < 0
      · have g1 : decide (i < 0) = true := decide_eq_true h0
        clear hr hi h0
        go_enter Tryz.func10, Tryz.ntmps10
        go_wp2_with fail
        refine (HR.out).mono ?_; rintro x w' ⟨rfl, rfl⟩
        go_wp2
        go_ret3
        exact ⟨rfl, Below.refl _ _⟩
      · have g1 : decide (i < 0) = false := decide_eq_false h0
        have g2 : decide (200 ≤ i) = true := decide_eq_true (by omega)
        clear hr hi h0
        go_enter Tryz.func10, Tryz.ntmps10
        go_wp2_with fail
        refine (HR.out).mono ?_; rintro x w' ⟨rfl, rfl⟩
        go_wp2
        go_ret3
        exact ⟨rfl, Below.refl _ _⟩
  · simp only [rdyR, if_true] at HR
    have hr : getR true e i = (0, ByteArray.empty, 8) := by simp [getR]
    rw [hr]
    clear hr
    go_enter Tryz.func10, Tryz.ntmps10
    go_wp2_with fail
    refine (HR.out).mono ?_; rintro x w' ⟨rfl, rfl⟩
    go_wp2
    go_ret3
    exact ⟨rfl, Below.refl _ _⟩
end Go.Proofs.YtkjinamjdjijcaaGreatDoor
