/- Texts of this proof, one behind the other; each says its condition at its head. -/
import Derived.Test.YtciadmjdadnolaaGreatDoorE1
import Derived.WalkSpells
import Derived.BigQuiet
import Derived.Test.YtciadmjdadnolaaGreatDoorChecked
/- The program's copies in memory, and the walks of their methods. Conditions: a copy that NewCopy made, or none. -/
namespace Go.Proofs.YtciadmjdadnolaaGreatDoor
open Go.RowKit Go.Maps
/-- What a copy holds at each number. -/
abbrev Ents := Nat → Option (Int × ByteArray)
def fX (e : Ents) : Value → Option Value
 | .int .i64 i => if 0 ≤ i then (e i.toNat).map fun p => .agg #[.int .i64 p.1, .string p.2] else none
 | _ => none
theorem fX_nat (e : Ents) (i : Nat) : fX e (.int .i64 (i : Int)) = (e i).map fun p => .agg #[.int .i64 p.1, .string p.2] := by simp [fX]
def putE (e : Ents) (i : Nat) (p : Int × ByteArray) : Ents := fun j => if j = i then some p else e j
theorem put_fX (e : Ents) (i : Nat) (p : Int × ByteArray) : putX (fX e) (.int .i64 (i : Int)) (.agg #[.int .i64 p.1, .string p.2]) (fX (putE e i p)) := by
 refine ⟨by rw [fX_nat]; simp [putE], fun x hx => ?_⟩
 cases x with
 | int k v =>
  cases k <;> try rfl
  unfold fX
  by_cases h0 : 0 ≤ v
  · simp only [if_pos h0]
    have : v.toNat ≠ i := fun e' => hx (by rw [← e', Int.toNat_of_nonneg h0])
    simp [putE, this]
  · simp only [if_neg h0]
 | _ => rfl
/-- A copy: its struct, and its map. -/
structure CpM (w : World) (cb mb : Nat) (mark : Int) (away : Bool) (e : Ents) : Prop where
 blk : Blk w cb 73 #[.map (some mb), .int .i64 mark, .bool away]
 map : MapX Tryz.prog 3 w mb (fX e)
section
variable {w w' : World} {cb mb : Nat} {mark : Int} {away : Bool} {e : Ents}
theorem CpM.keep (h : CpM w cb mb mark away e) (hb : Below w.heap.size w w') : CpM w' cb mb mark away e := ⟨h.blk.keep hb, h.map.keep hb⟩
theorem CpM.drewN (h : CpM w cb mb mark away e) (n : Nat) : CpM (w.drewN n) cb mb mark away e := ⟨h.blk.drewN n, h.map.drewN n⟩
theorem CpM.ne (h : CpM w cb mb mark away e) : cb ≠ mb := h.map.ne_blk h.blk
theorem CpM.lt (h : CpM w cb mb mark away e) : cb < w.heap.size ∧ mb < w.heap.size := ⟨h.blk.lt, h.map.lt⟩
end
theorem fX_none (x : Value) : fX (fun _ => none) x = none := by
 unfold fX
 split
 · split <;> rfl
 · rfl
/-- Only one block may have changed. -/
structure Chs (S : Nat → Prop) (w w' : World) : Prop where
 os : w'.os = w.os
 tape : w'.tape = w.tape
 output : w'.output = w.output
 size : w.heap.size ≤ w'.heap.size
 block : ∀ i, i < w.heap.size → ¬ S i → w'.heap[i]? = w.heap[i]?
section
variable {S T : Nat → Prop} {w w' w'' : World}
theorem Chs.refl (S : Nat → Prop) (w : World) : Chs S w w := ⟨rfl, rfl, rfl, Nat.le_refl _, fun _ _ _ => rfl⟩
theorem Chs.trans (h : Chs S w w') (k : Chs S w' w'') : Chs S w w'' :=
 ⟨k.os.trans h.os, k.tape.trans h.tape, k.output.trans h.output, Nat.le_trans h.size k.size, fun i hi hs => (k.block i (Nat.lt_of_lt_of_le hi h.size) hs).trans (h.block i hi hs)⟩
theorem Chs.mono (h : Chs S w w') (k : ∀ i, S i → T i) : Chs T w w' := ⟨h.os, h.tape, h.output, h.size, fun i hi hs => h.block i hi fun hc => hs (k i hc)⟩
theorem Chs.of_below (h : Below w.heap.size w w') : Chs S w w' := ⟨h.os, h.tape, h.output, h.size, fun i hi _ => h.block i hi⟩
theorem Chs.setCell {a : Addr} (ha : S a.block) (u : Value) : Chs S w (w.setCell a u) :=
 ⟨rfl, rfl, rfl, by simp, fun i _ hs => Below.heap_setCell w a u i fun e => hs (by rw [e]; exact ha)⟩
theorem Chs.grown {b : Nat} (hb : S b) (h : w.grownBy w' (some b)) : Chs S w w' :=
 ⟨h.os, h.tape, h.output, h.size, fun i hi hs => h.block i hi fun e => hs (by cases e; exact hb)⟩
theorem Chs.below {B : Nat} {w0 : World} (h : Below B w0 w) (k : Chs S w w') (hB : B ≤ w.heap.size) (hS : ∀ i, S i → B ≤ i) : Below B w0 w' :=
 h.trans ⟨k.os, k.tape, k.output, k.size, fun i hi => k.block i (by omega) fun hs => by have := hS i hs; omega⟩
theorem Chs.blk {b : Nat} {t : TypeId} {cs : Array Value} (k : Chs S w w') (h : Blk w b t cs) (hs : ¬ S b) : Blk w' b t cs := (k.block b h.lt hs).trans h
theorem Chs.mapx {P : Program} {kt : TypeId} {b : Nat} {f : Value → Option Value} (k : Chs S w w') (h : MapX P kt w b f) (hs : ¬ S b) : MapX P kt w' b f := by
 have hlt := h.lt
 obtain ⟨es, c, h1, h2⟩ := h
 exact ⟨es, c, (k.block b hlt hs).trans h1, h2⟩
theorem Chs.cpm {cb mb : Nat} {mark : Int} {away : Bool} {e : Ents} (k : Chs S w w') (h : CpM w cb mb mark away e) (h1 : ¬ S cb) (h2 : ¬ S mb) : CpM w' cb mb mark away e := ⟨k.blk h.blk h1, k.mapx h.map h2⟩
end
set_option maxRecDepth 100000 in
theorem newCopyF (w : World) :
 Calls Tryz.prog 17 #[] w fun e w' => ∃ cb mb, e = .returned (.pointer (some ⟨cb, 0, none⟩)) ∧ CpM w' cb mb 0 false (fun _ => none) ∧ Below w.heap.size w w' ∧ w.heap.size ≤ cb ∧ w.heap.size ≤ mb := by
 have hmm := @run_makeMap Tryz.prog
 go_enter Tryz.func17, Tryz.ntmps17
 go_wp2
 go_ret
 exact ⟨w.heap.size + 1, w.heap.size, rfl, ⟨Blk.new_at _ _ _ (by simp), (MapX.congr (MapX.made w) fun x => (fX_none x).symm).alloc _⟩, ((Below.refl _ w).alloc (Nat.le_refl _) _).alloc (by simp) _, by omega, by omega⟩
set_option maxRecDepth 100000 in
theorem noneF (cb mb : Nat) (mark : Int) (away : Bool) (e : Ents) (w : World) (h : CpM w cb mb mark away e) :
 Calls Tryz.prog 27 #[.pointer (some ⟨cb, 0, none⟩)] w fun x w' => x = .returned (.bool false) ∧ w = w' := by
 have c0 := h.blk.cell 0
 have c1 := h.blk.cell 1
 have c2 := h.blk.cell 2
 simp only [List.getElem?_toArray, List.getElem?_cons_zero, List.getElem?_cons_succ] at c0 c1 c2
 have qT : ∀ (w : World) (r : Option Nat), (binOp .eql 71 (.map r) (.map none)).run Tryz.prog w = .ok (.bool r.isNone) w := fun w r => run_eql_map_nil w _ _ _ r Tryz.underlying71
 clear h
 go_enter Tryz.func27, Tryz.ntmps27
 go_wp2
 go_ret
 exact ⟨rfl, rfl⟩
/-- What ready says. -/
def rdyR (away : Bool) : Int := if away then 8 else 0
set_option maxRecDepth 100000 in
theorem readyF (cb mb : Nat) (mark : Int) (away : Bool) (e : Ents) (w : World) (h : CpM w cb mb mark away e) :
 Calls Tryz.prog 33 #[.pointer (some ⟨cb, 0, none⟩)] w fun x w' => x = .returned (.int .i64 (rdyR away)) ∧ w = w' := by
 have HN := hid (noneF cb mb mark away e w h)
 have c0 := h.blk.cell 0
 have c1 := h.blk.cell 1
 have c2 := h.blk.cell 2
 simp only [List.getElem?_toArray, List.getElem?_cons_zero, List.getElem?_cons_succ] at c0 c1 c2
 clear h
 cases away
 · go_enter Tryz.func33, Tryz.ntmps33
   go_wp2_with fail
   refine (HN.out).mono ?_; rintro x w' ⟨rfl, rfl⟩
   go_wp2
   go_ret
   exact ⟨rfl, rfl⟩
 · go_enter Tryz.func33, Tryz.ntmps33
   go_wp2_with fail
   refine (HN.out).mono ?_; rintro x w' ⟨rfl, rfl⟩
   go_wp2
   go_ret
   exact ⟨rfl, rfl⟩
/-- What Promise says, and the mark behind it. -/
def prmR (away : Bool) (mark m : Int) : Int × Int := if away then (8, mark) else if m < 0 ∨ m > 1000000000 then (2, mark) else if m ≤ mark then (5, mark) else (0, m)
set_option maxRecDepth 100000 in
set_option maxHeartbeats 2000000 in
theorem promiseF (m : Int) (cb mb : Nat) (mark : Int) (away : Bool) (e : Ents) (w : World) (h : CpM w cb mb mark away e) :
 Calls Tryz.prog 30 #[.pointer (some ⟨cb, 0, none⟩), .int .i64 m] w fun x w' => x = .returned (.int .i64 (prmR away mark m).1) ∧ CpM w' cb mb (prmR away mark m).2 away e ∧ Chs (· = cb) w w' := by
 have HR := hid (readyF cb mb mark away e w h)
 have HC := hid h
 have hne := h.ne
 have c0 := h.blk.cell 0
 have c1 := h.blk.cell 1
 have c2 := h.blk.cell 2
 simp only [List.getElem?_toArray, List.getElem?_cons_zero, List.getElem?_cons_succ] at c0 c1 c2
 have f1 := h.blk.free 1
 clear h
 unfold prmR
 cases away
 · simp only [rdyR, Bool.false_eq_true, if_false] at HR ⊢
   by_cases h1 : m < 0 ∨ m > 1000000000
   · rw [if_pos h1]
     by_cases h0 : m < 0
     · have g1 : decide (m < 0) = true := decide_eq_true h0
       clear h1 h0
       go_enter Tryz.func30, Tryz.ntmps30
       go_wp2_with fail
       refine (HR.out).mono ?_; rintro x w' ⟨rfl, rfl⟩
       go_wp2
       go_ret
       exact ⟨rfl, HC.out, Chs.refl _ _⟩
     · have g1 : decide (m < 0) = false := decide_eq_false h0
       have g2 : decide (1000000000 < m) = true := decide_eq_true (by omega)
       clear h1 h0
       go_enter Tryz.func30, Tryz.ntmps30
       go_wp2_with fail
       refine (HR.out).mono ?_; rintro x w' ⟨rfl, rfl⟩
       go_wp2
       go_ret
       exact ⟨rfl, HC.out, Chs.refl _ _⟩
   · rw [if_neg h1]
     have g1 : decide (m < 0) = false := decide_eq_false (by omega)
     have g2 : decide (1000000000 < m) = false := decide_eq_false (by omega)
     by_cases h2 : m ≤ mark
     · rw [if_pos h2]
       have g3 : decide (m ≤ mark) = true := decide_eq_true h2
       clear h1 h2
       go_enter Tryz.func30, Tryz.ntmps30
       go_wp2_with fail
       refine (HR.out).mono ?_; rintro x w' ⟨rfl, rfl⟩
       go_wp2
       go_ret
       exact ⟨rfl, HC.out, Chs.refl _ _⟩
     · rw [if_neg h2]
       have g3 : decide (m ≤ mark) = false := decide_eq_false h2
       clear h1 h2
       go_enter Tryz.func30, Tryz.ntmps30
       go_wp2_with fail
       refine (HR.out).mono ?_; rintro x w' ⟨rfl, rfl⟩
       go_wp2
       go_ret
       exact ⟨rfl, ⟨HC.out.blk.set 1 _, HC.out.map.setCell hne _⟩, Chs.setCell (S := (· = cb)) (a := ⟨cb, 1, none⟩) rfl _⟩
 · simp only [rdyR, if_true] at HR ⊢
   go_enter Tryz.func30, Tryz.ntmps30
   go_wp2_with fail
   refine (HR.out).mono ?_; rintro x w' ⟨rfl, rfl⟩
   go_wp2
   go_ret
   exact ⟨rfl, HC.out, Chs.refl _ _⟩
/-- What Mark says. -/
def mrkR (away : Bool) (mark : Int) : Int × Int := if away then (0, 8) else (mark, 0)
set_option maxRecDepth 100000 in
theorem markF (cb mb : Nat) (mark : Int) (away : Bool) (e : Ents) (w : World) (h : CpM w cb mb mark away e) :
 Calls Tryz.prog 15 #[.pointer (some ⟨cb, 0, none⟩)] w fun x w' => x = .returned (.tuple #[.int .i64 (mrkR away mark).1, .int .i64 (mrkR away mark).2]) ∧ w = w' := by
 have HR := hid (readyF cb mb mark away e w h)
 have HC := hid h
 have hne := h.ne
 have c0 := h.blk.cell 0
 have c1 := h.blk.cell 1
 have c2 := h.blk.cell 2
 simp only [List.getElem?_toArray, List.getElem?_cons_zero, List.getElem?_cons_succ] at c0 c1 c2
 clear h
 unfold mrkR
 cases away
 · simp only [rdyR, Bool.false_eq_true, if_false] at HR ⊢
   go_enter Tryz.func15, Tryz.ntmps15
   go_wp2_with fail
   refine (HR.out).mono ?_; rintro x w' ⟨rfl, rfl⟩
   go_wp2
   go_ret2
   exact ⟨rfl, rfl⟩
 · simp only [rdyR, if_true] at HR ⊢
   go_enter Tryz.func15, Tryz.ntmps15
   go_wp2_with fail
   refine (HR.out).mono ?_; rintro x w' ⟨rfl, rfl⟩
   go_wp2
   go_ret2
   exact ⟨rfl, rfl⟩
/-- What Put says, and what is there behind it. -/
def putOk (i m : Int) (s : ByteArray) : Bool := decide (0 ≤ i) && decide (i < 200) && decide (0 ≤ m) && decide (m ≤ 1000000000) && decide (s.size ≤ 60)
def putR (away : Bool) (mark i m : Int) (s : ByteArray) : Int := if away then 8 else if putOk i m s then (if m < mark then 5 else 0) else 2
set_option maxRecDepth 100000 in
set_option maxHeartbeats 4000000 in
theorem putF (i m : Int) (s : ByteArray) (cb mb : Nat) (mark : Int) (away : Bool) (e : Ents) (w : World) (h : CpM w cb mb mark away e) :
 Calls Tryz.prog 24 #[.pointer (some ⟨cb, 0, none⟩), .int .i64 i, .int .i64 m, .string s] w fun x w' => x = .returned (.int .i64 (putR away mark i m s)) ∧ (putR away mark i m s ≠ 0 ∧ CpM w' cb mb mark away e ∨ putR away mark i m s = 0 ∧ CpM w' cb mb m away (putE e i.toNat (m, s))) ∧ Chs (fun b => b = cb ∨ b = mb) w w' := by
 have HR := hid (readyF cb mb mark away e w h)
 have HC := hid h
 have hne := h.ne
 have c0 := h.blk.cell 0
 have c1 := h.blk.cell 1
 have c2 := h.blk.cell 2
 simp only [List.getElem?_toArray, List.getElem?_cons_zero, List.getElem?_cons_succ] at c0 c1 c2
 have f1 := h.blk.free 1
 clear h
 have H2 := hid fun (hr : putR away mark i m s ≠ 0) => (show (putR away mark i m s ≠ 0 ∧ CpM w cb mb mark away e ∨ putR away mark i m s = 0 ∧ CpM w cb mb m away (putE e i.toNat (m, s))) ∧ Chs (fun b => b = cb ∨ b = mb) w w from ⟨.inl ⟨hr, HC.out⟩, Chs.refl _ _⟩)
 cases away
 · simp only [rdyR, Bool.false_eq_true, if_false] at HR
   cases hok : putOk i m s
   · have hr : putR false mark i m s = 2 := by simp [putR, hok]
     rw [hr] at H2 ⊢
     have H3 := hid (H2.out (by decide))
     have hcase : i < 0 ∨ ¬ i < 0 ∧ 200 ≤ i ∨ ¬ i < 0 ∧ ¬ 200 ≤ i ∧ m < 0 ∨ ¬ i < 0 ∧ ¬ 200 ≤ i ∧ ¬ m < 0 ∧ 1000000000 < m ∨ ¬ i < 0 ∧ ¬ 200 ≤ i ∧ ¬ m < 0 ∧ ¬ 1000000000 < m ∧ 60 < s.size := by
      unfold putOk at hok
      simp only [Bool.and_eq_false_iff, decide_eq_false_iff_not] at hok
      omega
     clear hok hr H2
     rcases hcase with k | ⟨k1, k2⟩ | ⟨k1, k2, k3⟩ | ⟨k1, k2, k3, k4⟩ | ⟨k1, k2, k3, k4, k5⟩
     · have g1 : decide (i < 0) = true := decide_eq_true (by omega); clear k
       go_enter Tryz.func24, Tryz.ntmps24
       go_wp2_with fail
       refine (HR.out).mono ?_; rintro x w' ⟨rfl, rfl⟩
       go_wp2
       go_ret
       exact ⟨rfl, H3.out⟩
     · have g1 : decide (i < 0) = false := decide_eq_false (by omega); have g2 : decide (200 ≤ i) = true := decide_eq_true (by omega); clear k1 k2
       go_enter Tryz.func24, Tryz.ntmps24
       go_wp2_with fail
       refine (HR.out).mono ?_; rintro x w' ⟨rfl, rfl⟩
       go_wp2
       go_ret
       exact ⟨rfl, H3.out⟩
     · have g1 : decide (i < 0) = false := decide_eq_false (by omega); have g2 : decide (200 ≤ i) = false := decide_eq_false (by omega); have g3 : decide (m < 0) = true := decide_eq_true (by omega); clear k1 k2 k3
       go_enter Tryz.func24, Tryz.ntmps24
       go_wp2_with fail
       refine (HR.out).mono ?_; rintro x w' ⟨rfl, rfl⟩
       go_wp2
       go_ret
       exact ⟨rfl, H3.out⟩
     · have g1 : decide (i < 0) = false := decide_eq_false (by omega); have g2 : decide (200 ≤ i) = false := decide_eq_false (by omega); have g3 : decide (m < 0) = false := decide_eq_false (by omega); have g4 : decide (1000000000 < m) = true := decide_eq_true (by omega); clear k1 k2 k3 k4
       go_enter Tryz.func24, Tryz.ntmps24
       go_wp2_with fail
       refine (HR.out).mono ?_; rintro x w' ⟨rfl, rfl⟩
       go_wp2
       go_ret
       exact ⟨rfl, H3.out⟩
     · have g1 : decide (i < 0) = false := decide_eq_false (by omega); have g2 : decide (200 ≤ i) = false := decide_eq_false (by omega); have g3 : decide (m < 0) = false := decide_eq_false (by omega); have g4 : decide (1000000000 < m) = false := decide_eq_false (by omega); have g5 : decide (60 < s.size) = true := decide_eq_true (by omega); have g6 : decide (60 < (s.size : Int)) = true := decide_eq_true (by omega); clear k1 k2 k3 k4 k5
       go_enter Tryz.func24, Tryz.ntmps24
       go_wp2_with fail
       refine (HR.out).mono ?_; rintro x w' ⟨rfl, rfl⟩
       go_wp2
       go_ret
       exact ⟨rfl, H3.out⟩
   · have hk : 0 ≤ i ∧ i < 200 ∧ 0 ≤ m ∧ m ≤ 1000000000 ∧ s.size ≤ 60 := by
      unfold putOk at hok
      simp only [Bool.and_eq_true, decide_eq_true_iff] at hok
      omega
     have g1 : decide (i < 0) = false := decide_eq_false (by omega)
     have g2 : decide (200 ≤ i) = false := decide_eq_false (by omega)
     have g3 : decide (m < 0) = false := decide_eq_false (by omega)
     have g4 : decide (1000000000 < m) = false := decide_eq_false (by omega)
     have g5 : decide (60 < s.size) = false := decide_eq_false (by omega)
     have g6 : decide (60 < (s.size : Int)) = false := decide_eq_false (by omega)
     by_cases hm : m < mark
     · have hr : putR false mark i m s = 5 := by simp [putR, hok, hm]
       rw [hr] at H2 ⊢
       have H3 := hid (H2.out (by decide))
       have g7 : decide (m < mark) = true := decide_eq_true hm
       clear hok hr H2 hk hm
       go_enter Tryz.func24, Tryz.ntmps24
       go_wp2_with fail
       refine (HR.out).mono ?_; rintro x w' ⟨rfl, rfl⟩
       go_wp2
       go_ret
       exact ⟨rfl, H3.out⟩
     · have hr : putR false mark i m s = 0 := by simp [putR, hok, hm]
       rw [hr]
       have g7 : decide (m < mark) = false := decide_eq_false hm
       obtain ⟨n, rfl⟩ := Int.eq_ofNat_of_zero_le hk.1
       obtain ⟨w1, hrun, hmx, hgr⟩ := HC.out.map.update (int_keyed Tryz.underlying3) Tryz.underlying71 (keyOf_int_mk Tryz.underlying3 (WalkArith.wf_i64 (by omega))) (put_fX e n (m, s))
       have B1 := hid (HC.out.blk.grown hgr (by simp; exact hne))
       have d1 := B1.out.cell 1
       simp only [List.getElem?_toArray, List.getElem?_cons_zero, List.getElem?_cons_succ] at d1
       have z1 := B1.out.free 1
       have HMX := hid (hmx.setCell (a := ⟨cb, 1, none⟩) hne (.int .i64 m))
       have HBK := hid (B1.out.set 1 (.int .i64 m))
       have HCH := hid ((Chs.grown (S := fun b => b = cb ∨ b = mb) (.inr rfl) hgr).trans (Chs.setCell (S := fun b => b = cb ∨ b = mb) (a := ⟨cb, 1, none⟩) (.inl rfl) (.int .i64 m)))
       clear hok hr H2 hm hmx hgr
       go_enter Tryz.func24, Tryz.ntmps24
       go_wp2_with fail
       refine (HR.out).mono ?_; rintro x w' ⟨rfl, rfl⟩
       go_wp2
       go_ret
       exact ⟨rfl, .inr ⟨by simp, ⟨HBK.out, HMX.out⟩⟩, HCH.out⟩
 · simp only [rdyR, if_true] at HR
   have hr : putR true mark i m s = 8 := by simp [putR]
   rw [hr] at H2 ⊢
   have H3 := hid (H2.out (by decide))
   clear hr H2
   go_enter Tryz.func24, Tryz.ntmps24
   go_wp2_with fail
   refine (HR.out).mono ?_; rintro x w' ⟨rfl, rfl⟩
   go_wp2
   go_ret
   exact ⟨rfl, H3.out⟩
/-- What Get says. -/
def getR (away : Bool) (e : Ents) (i : Int) : Int × ByteArray × Int :=
 if away then (0, ByteArray.empty, 8) else if 0 ≤ i ∧ i < 200 then (match e i.toNat with | some p => (p.1, p.2, 0) | none => (0, ByteArray.empty, 4)) else (0, ByteArray.empty, 2)
set_option maxRecDepth 100000 in
set_option maxHeartbeats 4000000 in
theorem getF (i : Int) (cb mb : Nat) (mark : Int) (away : Bool) (e : Ents) (w : World) (h : CpM w cb mb mark away e) :
 Calls Tryz.prog 16 #[.pointer (some ⟨cb, 0, none⟩), .int .i64 i] w fun x w' => x = .returned (.tuple #[.int .i64 (getR away e i).1, .string (getR away e i).2.1, .int .i64 (getR away e i).2.2]) ∧ Below w.heap.size w w' := by
 have HR := hid (readyF cb mb mark away e w h)
 have HC := hid h
 have hne := h.ne
 have c0 := h.blk.cell 0
 have c1 := h.blk.cell 1
 have c2 := h.blk.cell 2
 simp only [List.getElem?_toArray, List.getElem?_cons_zero, List.getElem?_cons_succ] at c0 c1 c2
 clear h
 have HBN := hid (@Below.refl w.heap.size w)
 cases away
 · simp only [rdyR, Bool.false_eq_true, if_false] at HR
   by_cases hi : 0 ≤ i ∧ i < 200
   · obtain ⟨n, rfl⟩ := Int.eq_ofNat_of_zero_le hi.1
     have g1 : decide ((n : Int) < 0) = false := decide_eq_false (by omega)
     have g2 : decide (200 ≤ (n : Int)) = false := decide_eq_false (by omega)
     have g3 : decide (200 ≤ n) = false := decide_eq_false (by omega)
     have hr : getR false e (n : Int) = (match e n with | some p => (p.1, p.2, 0) | none => (0, ByteArray.empty, 4)) := by
      simp only [getR, Bool.false_eq_true, if_false, if_pos hi, Int.toNat_natCast]
     rw [hr]
     cases he : e n with
     | none =>
      have HL : (Instr.lookup 71 (.map (some mb)) (.int .i64 (n : Int)) true).run Tryz.prog w = .ok (.tuple #[.agg #[.int .i64 0, .string ByteArray.empty], .bool false]) w := HC.out.map.look_out (int_keyed Tryz.underlying3) Tryz.underlying71 (z := .agg #[.int .i64 0, .string ByteArray.empty]) (fun W => by kernel_rfl) (keyOf_int_mk Tryz.underlying3 (WalkArith.wf_i64 (by omega))) (show fX e (.int .i64 (n : Int)) = none by rw [fX_nat, he]; rfl) 0 true
      clear hr he hi
      go_enter Tryz.func16, Tryz.ntmps16
      go_wp2_with fail
      refine (HR.out).mono ?_; rintro x w' ⟨rfl, rfl⟩
      go_wp2
      go_ret3
      exact ⟨rfl, (Below.refl _ w).alloc (Nat.le_refl _) _⟩
     | some p =>
      have HL : (Instr.lookup 71 (.map (some mb)) (.int .i64 (n : Int)) true).run Tryz.prog w = .ok (.tuple #[.agg #[.int .i64 p.1, .string p.2], .bool true]) w := HC.out.map.look_in (int_keyed Tryz.underlying3) Tryz.underlying71 (keyOf_int_mk Tryz.underlying3 (WalkArith.wf_i64 (by omega))) (show fX e (.int .i64 (n : Int)) = some (.agg #[.int .i64 p.1, .string p.2]) by rw [fX_nat, he]; rfl) 0 true
      clear hr he hi
      go_enter Tryz.func16, Tryz.ntmps16
      go_wp2_with fail
      refine (HR.out).mono ?_; rintro x w' ⟨rfl, rfl⟩
      go_wp2_with fail
      go_quiet (fail)
      go_wp2
      go_ret3
      exact ⟨rfl, below_drewN ((Below.refl _ w).alloc (Nat.le_refl _) _) _⟩
   · have hr : getR false e i = (0, ByteArray.empty, 2) := by simp only [getR, Bool.false_eq_true, if_false, if_neg hi]
     rw [hr]
     by_cases h0 : i < 0
     · have g1 : decide (i < 0) = true := decide_eq_true h0
       clear hr hi h0
       go_enter Tryz.func16, Tryz.ntmps16
       go_wp2_with fail
       refine (HR.out).mono ?_; rintro x w' ⟨rfl, rfl⟩
       go_wp2
       go_ret3
       exact ⟨rfl, Below.refl _ _⟩
     · have g1 : decide (i < 0) = false := decide_eq_false h0
       have g2 : decide (200 ≤ i) = true := decide_eq_true (by omega)
       clear hr hi h0
       go_enter Tryz.func16, Tryz.ntmps16
       go_wp2_with fail
       refine (HR.out).mono ?_; rintro x w' ⟨rfl, rfl⟩
       go_wp2
       go_ret3
       exact ⟨rfl, Below.refl _ _⟩
 · simp only [rdyR, if_true] at HR
   have hr : getR true e i = (0, ByteArray.empty, 8) := by simp [getR]
   rw [hr]
   clear hr
   go_enter Tryz.func16, Tryz.ntmps16
   go_wp2_with fail
   refine (HR.out).mono ?_; rintro x w' ⟨rfl, rfl⟩
   go_wp2
   go_ret3
   exact ⟨rfl, Below.refl _ _⟩
end Go.Proofs.YtciadmjdadnolaaGreatDoor
/- The reference's copies in memory, and the walks of their methods. Conditions: a copy that NewCopy made. -/
namespace Go.Proofs.YtciadmjdadnolaaGreatDoor
open Go.RowKit Go.Maps
/-- A new copy of the reference. -/
def NewR (w : World) (b : Nat) : Prop := Blk w b 84 (Tryz.zeroCells84.setIfInBounds 0 (.bool true))
set_option maxRecDepth 100000 in
set_option maxHeartbeats 2000000 in
theorem refNewF (w : World) :
 Calls Tryz.prog 18 #[] w fun x w' => ∃ b, x = .returned (.pointer (some ⟨b, 0, none⟩)) ∧ NewR w' b ∧ Below w.heap.size w w' ∧ w.heap.size ≤ b := by
 go_enter Tryz.func18, Tryz.ntmps18
 go_wp2_with fail
 go_ret
 exact ⟨_, rfl, Blk.new _ _ _, (Below.refl _ w).alloc (Nat.le_refl _) _, Nat.le_refl _⟩
theorem TC : TS Tryz.prog 23 42 1 8 (.pointer none) := ⟨Tryz.underlying23, by kernel_rfl, rfl, by decide⟩
theorem TR : TS Tryz.prog 24 53 1 8 (.pointer none) := ⟨Tryz.underlying24, by kernel_rfl, rfl, by decide⟩
theorem own_kind2 {w : World} {B : Nat} {e : TypeId} {size : Nat} {v : Value} {n : Nat} {xs : List Value} (h : w.ownsRow B e size v n xs) : ∀ g, v.ownBlock = some g → ∃ c, w.heap[g]? = some (.cells c e (0, 0)) := by
 intro g hg
 rcases h.2 with ⟨rfl, _⟩ | ⟨g', cap, cur, rfl, _, hgg, _⟩
 · simp [Value.ownBlock] at hg
 · simp [Value.ownBlock] at hg
   subst hg
   exact ⟨cur, hgg⟩
theorem own_ne_blk {w : World} {B b : Nat} {e t : TypeId} {size n : Nat} {v : Value} {xs : List Value} {cs : Array Value} (h : w.ownsRow B e size v n xs) (k : Blk w b t cs) (hne : t ≠ e) : some b ≠ v.ownBlock := by
 intro hb
 obtain ⟨c, hc⟩ := own_kind2 h b hb.symm
 unfold Blk at k
 rw [k] at hc
 injection hc with hc
 injection hc with _ hc _
 exact hne hc
theorem own_ne_map {w : World} {B b : Nat} {e : TypeId} {size n : Nat} {v : Value} {xs : List Value} {P : Program} {kt : TypeId} {f : Value → Option Value} (h : w.ownsRow B e size v n xs) (k : MapX P kt w b f) : some b ≠ v.ownBlock := by
 intro hb
 obtain ⟨c, hc⟩ := own_kind2 h b hb.symm
 obtain ⟨es, cl, h1, _⟩ := k
 rw [h1] at hc
 cases hc
theorem own_apart2 {w : World} {B B' : Nat} {e e' : TypeId} {size size' : Nat} {v v' : Value} {n n' : Nat} {xs xs' : List Value} (h : w.ownsRow B e size v n xs) (h' : w.ownsRow B' e' size' v' n' xs') (hne : e ≠ e') : v.ownBlock = none ∨ v.ownBlock ≠ v'.ownBlock := by
 cases hv : v.ownBlock with
 | none => exact .inl rfl
 | some g =>
  right
  intro hc
  obtain ⟨c, h1⟩ := own_kind2 h g hv
  obtain ⟨c', h2⟩ := own_kind2 h' g hc.symm
  rw [h1] at h2
  injection h2 with h2
  injection h2 with _ h2 _
  exact hne h2
theorem push1P {P : Program} {ops : Array Oper} {rest : List Oper} {o : Oper} {a : Act} {Q : Exit → Act → World → Prop} {t e : TypeId} {size bytes : Nat} {z : Value}
 (T : TS P t e size bytes z) (w : World) (cs : Array Value) (base n : Nat) (v : Value) (xs : List Value) (hown : w.ownsRow base e size v n xs)
 (s x : Operand) (K : Nat) (hK : w.heap.size = K) (hgd : o.guard = none) (ho : o.op = .call { callee := .builtin .append, args := #[s, x], argTypes := #[t, t] })
 (hs : a.eval s = v) (hx : a.eval x = .slice (some ⟨K, 0, none⟩) 1 1) (hcs : cs.size = size) (h1 : ∀ u ∈ cs.toList, u.oneCell' = true)
 (hn : (n + 1) * bytes ≤ 140737488355328) (hn2 : n < 1000000000000) (hb : base ≤ w.heap.size)
 (h : ∀ v' w', w'.ownsRow base e size v' (n + 1) (xs ++ cs.toList) → (w.alloc (.cells cs e)).grownBy w' v.ownBlock → wpList P ops Q rest (a.put o.dst v') w') :
 wpList P ops Q (o :: rest) a (w.alloc (.cells cs e)) := by
 subst hK
 exact push1 T w cs base n v xs hown s x hgd ho hs hx hcs h1 hn hn2 hb h
/-- Pointers to blocks. -/
def ptrs (l : List Nat) : List Value := l.map fun b => .pointer (some ⟨b, 0, none⟩)
/-- New copies: their blocks and maps. -/
structure NewC (w : World) (B : Nat) (L : List (Nat × Nat)) : Prop where
 cpm : ∀ p ∈ L, CpM w p.1 p.2 0 false (fun _ => none) ∧ B ≤ p.1 ∧ B ≤ p.2
 nod1 : (L.map (·.1)).Nodup
 nod2 : (L.map (·.2)).Nodup
theorem NewC.nil (w : World) (B : Nat) : NewC w B [] := ⟨fun _ h => by simp at h, List.nodup_nil, List.nodup_nil⟩
theorem NewC.keep {w w' : World} {B : Nat} {L : List (Nat × Nat)} (h : NewC w B L) (hb : Below w.heap.size w w') : NewC w' B L :=
 ⟨fun p hp => ⟨(h.cpm p hp).1.keep hb, (h.cpm p hp).2⟩, h.nod1, h.nod2⟩
theorem NewC.snoc {w : World} {B cb mb : Nat} {L : List (Nat × Nat)} (h : NewC w B L) (k : CpM w cb mb 0 false (fun _ => none)) {K : Nat} (hB : B ≤ K) (h1 : K ≤ cb) (h2 : K ≤ mb) (hl : ∀ p ∈ L, p.1 < K ∧ p.2 < K) : NewC w B (L ++ [(cb, mb)]) := by
 refine ⟨fun p hp => ?_, ?_, ?_⟩
 · rcases List.mem_append.1 hp with hp | hp
   · exact h.cpm p hp
   · simp at hp
     subst hp
     exact ⟨k, by omega, by omega⟩
 · rw [List.map_append, List.nodup_append]
   refine ⟨h.nod1, by simp, fun a ha b hb => ?_⟩
   obtain ⟨p, hp, rfl⟩ := List.mem_map.1 ha
   simp at hb
   have := (hl p hp).1
   omega
 · rw [List.map_append, List.nodup_append]
   refine ⟨h.nod2, by simp, fun a ha b hb => ?_⟩
   obtain ⟨p, hp, rfl⟩ := List.mem_map.1 ha
   simp at hb
   have := (hl p hp).2
   omega
theorem NewC.grown {w w' : World} {B B' n size : Nat} {L : List (Nat × Nat)} {e : TypeId} {v : Value} {xs : List Value} (h : NewC w B L) (ho : w.ownsRow B' e size v n xs) (hg : w.grownBy w' v.ownBlock) (hne : 73 ≠ e) : NewC w' B L :=
 ⟨fun p hp => by
  obtain ⟨k, a, b⟩ := h.cpm p hp
  exact ⟨⟨k.blk.grown hg (own_ne_blk ho k.blk hne), k.map.grown hg (own_ne_map ho k.map)⟩, a, b⟩, h.nod1, h.nod2⟩
end Go.Proofs.YtciadmjdadnolaaGreatDoor
/- Walk of the law's copies: three or five new ones, and as many of the reference. No condition. -/
namespace Go.Proofs.YtciadmjdadnolaaGreatDoor
open Go.RowKit Go.Maps
/-- Slices of N new copies, and of N of the reference, all of them from block B on. -/
def CopAre (w : World) (B N : Nat) (a r : Value) : Prop := ∃ (L : List (Nat × Nat)) (M : List Nat),
 w.ownsRow B 42 1 a N (ptrs (L.map (·.1))) ∧ w.ownsRow B 53 1 r N (ptrs M) ∧ NewC w B L ∧ (∀ b ∈ M, NewR w b ∧ B ≤ b) ∧ M.Nodup
theorem ptrs_snoc (l : List Nat) (b : Nat) : ptrs (l ++ [b]) = ptrs l ++ [.pointer (some ⟨b, 0, none⟩)] := by simp [ptrs]
theorem CopAre.form {w : World} {B N : Nat} {a r : Value} (h : CopAre w B N a r) : ∃ A c R d, a = .slice A N c ∧ r = .slice R N d := by
 obtain ⟨L, M, h1, h2, _⟩ := h
 obtain ⟨A, c, e1⟩ := own_form h1
 obtain ⟨R, d, e2⟩ := own_form h2
 exact ⟨A, c, R, d, e1, e2⟩
set_option maxRecDepth 100000 in
set_option maxHeartbeats 4000000 in
theorem copies3 (w : World) :
 Calls Tryz.prog 5 #[.bool false] w fun x w' => ∃ a r, x = .returned (.tuple #[a, r]) ∧ CopAre w' w.heap.size 3 a r ∧ Below w.heap.size w w' := by
 have HNC := hid fun W => newCopyF W
 have HNR := hid fun W => refNewF W
 go_enter Tryz.func5, Tryz.ntmps5
 go_wp2
 go_loopg [4, 5, 7] 5 (fun gk a r i wr => ∃ d : Nat, gk + d = 5 ∧ i = .int .i64 d ∧ Hid (CopAre wr w.heap.size (min d 3) a r) ∧ Hid (Below w.heap.size w wr))
 case atStart => exact ⟨0, by omega, rfl, hid ⟨[], [], by simpa [ptrs] using World.ownsRow_nil _ _ _ _, by simpa [ptrs] using World.ownsRow_nil _ _ _ _, NewC.nil _ _, fun b h => by simp at h, List.nodup_nil⟩, hid (Below.refl _ _)⟩
 case round =>
  obtain ⟨d, hd, rfl, HC, HB⟩ := hrel
  have HD := hid hd
  by_cases hlt : d < 5
  · have HLT := hid hlt
    by_cases h3 : d < 3
    · have g1 : decide (d < 3) = true := decide_eq_true h3
      have g2 : decide ((d : Int) < 3) = true := decide_eq_true (by omega)
      have hlim : min d 3 = d := by omega
      have hlim2 : min (d + 1) 3 = d + 1 := by omega
      obtain ⟨A, ca, R, cr, hva, hvr⟩ := HC.out.form
      obtain ⟨L, M, hA, hR, hL, hM, hMn⟩ := HC.out
      first | rw [hlim] at hva hvr | skip
      subst hva hvr
      first | rw [hlim] at hA hR | skip
      have HLQ := hid hlim2
      have HA := hid hA; have HR := hid hR; have HL := hid hL; have HM := hid (And.intro hM hMn)
      have hdb : d < 5 := HLT.out
      clear hd h3 hlt hA hR hL hM hMn hlim hlim2 HC
      go_wp2_with fail
      refine (HNC.out _).mono ?_; rintro x w2 ⟨cb, mb, rfl, hcp, b2, k1, k2⟩
      have HA2 := hid (own_below HA.out b2)
      have HR2 := hid (own_below HR.out b2)
      have HL2 := hid ((HL.out.keep b2).snoc hcp HB.out.size k1 k2 (fun p hp => (HL.out.cpm p hp).1.lt))
      have HM2 := hid (show (∀ b ∈ M, NewR w2 b ∧ w.heap.size ≤ b) from fun b hb => ⟨(HM.out.1 b hb).1.keep b2, (HM.out.1 b hb).2⟩)
      have HB2 := hid (below_call HB.out b2 HB.out.size)
      have HMS := hid (show ∀ b ∈ M, b < wr.heap.size from fun b hb => (HM.out.1 b hb).1.lt)
      have hz2 := HB2.out.size
      have HS2 := hid b2.size
      clear hcp b2 k1 k2
      go_wp2_with (at_builtin; refine push1P TC w2 #[.pointer (some ⟨cb, 0, none⟩)] w.heap.size _ _ _ HA2.out _ _ w2.heap.size rfl rfl rfl rfl rfl rfl (by simp [Value.oneCell']) (by omega) (by omega) hz2 ?_; intro v1 w3 hown1 hgr)
      have HA3 := hid hown1
      have HR3 := hid (World.ownsRow.kept (HR2.out.alloc (.cells #[.pointer (some ⟨cb, 0, none⟩)] 42)) hgr (own_apart2 HR2.out HA2.out (by decide)))
      have HL3 := hid ((HL2.out.keep ((Below.refl _ _).alloc (Nat.le_refl _) (.cells #[.pointer (some ⟨cb, 0, none⟩)] 42))).grown (HA2.out.alloc _) hgr (by decide))
      have HM3 := hid (show (∀ b ∈ M, NewR w3 b ∧ w.heap.size ≤ b) from fun b hb => ⟨((HM2.out b hb).1.alloc (.cells #[.pointer (some ⟨cb, 0, none⟩)] 42)).grown hgr (own_ne_blk HA2.out (HM2.out b hb).1 (by decide)), (HM2.out b hb).2⟩)
      have HB3 := hid (below_push HB2.out HA2.out hgr hz2 (Nat.le_refl _))
      have HS3 := hid (show w2.heap.size ≤ w3.heap.size from by have := hgr.size; simp at this; omega)
      obtain ⟨A3, c3, rfl⟩ := own_form hown1
      clear hown1 hgr hz2
      go_wp2_with fail
      refine (HNR.out _).mono ?_; rintro x w4 ⟨rb, rfl, hrb, b4, k4⟩
      have HA4 := hid (own_below HA3.out b4)
      have HR4 := hid (own_below HR3.out b4)
      have HL4 := hid (HL3.out.keep b4)
      have HM4 := hid (show (∀ b ∈ M ++ [rb], NewR w4 b ∧ w.heap.size ≤ b) from fun b hb => by
       rcases List.mem_append.1 hb with hb | hb
       · exact ⟨(HM3.out b hb).1.keep b4, (HM3.out b hb).2⟩
       · simp at hb
         subst hb
         exact ⟨hrb, by have := HB3.out.size; omega⟩)
      have HMN := hid (show (M ++ [rb]).Nodup from by
       rw [List.nodup_append]
       refine ⟨HM.out.2, by simp, fun a ha b hb => ?_⟩
       have h1 := HMS.out a ha
       have h2 := HS2.out
       have h3 := HS3.out
       simp at hb
       omega)
      have HB4 := hid (below_call HB3.out b4 HB3.out.size)
      have hz4 := HB4.out.size
      clear hrb b4 k4
      go_wp2_with (at_builtin; refine push1P TR w4 #[.pointer (some ⟨rb, 0, none⟩)] w.heap.size _ _ _ HR4.out _ _ w4.heap.size rfl rfl rfl rfl rfl rfl (by simp [Value.oneCell']) (by omega) (by omega) hz4 ?_; intro v5 w5 hown5 hgr)
      have HR5 := hid hown5
      have HA5 := hid (World.ownsRow.kept (HA4.out.alloc (.cells #[.pointer (some ⟨rb, 0, none⟩)] 53)) hgr (own_apart2 HA4.out HR4.out (by decide)))
      have HL5 := hid ((HL4.out.keep ((Below.refl _ _).alloc (Nat.le_refl _) (.cells #[.pointer (some ⟨rb, 0, none⟩)] 53))).grown (HR4.out.alloc _) hgr (by decide))
      have HM5 := hid (show (∀ b ∈ M ++ [rb], NewR w5 b ∧ w.heap.size ≤ b) from fun b hb => ⟨((HM4.out b hb).1.alloc (.cells #[.pointer (some ⟨rb, 0, none⟩)] 53)).grown hgr (own_ne_blk HR4.out (HM4.out b hb).1 (by decide)), (HM4.out b hb).2⟩)
      have HB5 := hid (below_push HB4.out HR4.out hgr hz4 (Nat.le_refl _))
      obtain ⟨R5, c5, rfl⟩ := own_form hown5
      clear hown5 hgr hz4
      go_wp2
      go_roundg (gk - 1)
      case measure => have := HD.out; have := HLT.out; omega
      case rel =>
       refine ⟨d + 1, by have := HD.out; have := HLT.out; omega, by go_num, hid ?_, HB5⟩
       first | rw [HLQ.out] | skip
       refine ⟨L ++ [(cb, mb)], M ++ [rb], ?_, ?_, HL5.out, HM5.out, HMN.out⟩
       · rw [List.map_append]
         exact (by rw [List.map_cons, List.map_nil, ptrs_snoc]; exact HA5.out)
       · rw [ptrs_snoc]; exact HR5.out
    · have g1 : decide (d < 3) = false := decide_eq_false h3
      have g2 : decide ((d : Int) < 3) = false := decide_eq_false (by omega)
      have HC2 := hid (show CopAre wr w.heap.size (min (d + 1) 3) u4 u5 by
       have := HC.out
       rwa [show min (d + 1) 3 = min d 3 by omega])
      have hdb : d < 5 := HLT.out
      clear hd h3
      go_wp2
      go_roundg (gk - 1)
      case measure => have := HD.out; have := HLT.out; omega
      case rel => exact ⟨d + 1, by have := HD.out; have := HLT.out; omega, by go_num, HC2, HB⟩
  · obtain rfl : d = 5 := by have := HD.out; omega
    have HC2 := hid (show CopAre wr w.heap.size 3 u4 u5 from HC.out)
    clear hd hlt
    go_wp2
    go_ret2
    exact ⟨u4, u5, rfl, HC2.out, HB.out⟩
end Go.Proofs.YtciadmjdadnolaaGreatDoor
