/- Walks of isLine and of a rule's read, at texts whose parts are known. Conditions: the library's MaxLen stands in its variable; the parts are known. -/
import Derived.Test.YtkjinamjdjijcaaGreatDoorClone0
import Derived.Test.YtkjinamjdjijcaaGreatDoorShelf
namespace Go.Proofs.YtkjinamjdjijcaaGreatDoor
open Go.RowKit Go.Maps

/-- The library's MaxLen in its variable. -/
def MaxL (w : World) : Prop := ∃ m : Int, w.cell? ⟨0, 0, none⟩ = some (.int .i64 m)
theorem MaxL.keep {w w' : World} (h : MaxL w) (hb : Below w.heap.size w w') : MaxL w' := by
  obtain ⟨m, hm⟩ := h
  exact ⟨m, cell_keep hb hm⟩
/-- A text's parts between blanks. -/
def Parts (s : ByteArray) (l : List ByteArray) : Prop := ∀ w, MaxL w → Calls Tryz.prog 77 #[.string s, .string ⟨#[32]⟩] w fun e w' =>
  e = .returned (.slice (some ⟨w.heap.size, 0, none⟩) l.length l.length) ∧ w.alloc (.cells (strV l).toArray 9) = w'
theorem parts_of {s : ByteArray} {l : List ByteArray} (hs : s.size < 4294967281) (h : Lib.splitB ⟨#[32]⟩ 0 (Lib.countB s ⟨#[32]⟩) s = l) (hn : Lib.countB s ⟨#[32]⟩ + 1 = l.length) : Parts s l := fun w ⟨m, hm⟩ => by
  have c := sh_strings_Split s ⟨#[32]⟩ m w hs hm (by decide)
  rw [h, hn] at c
  exact c.mono fun _ _ ⟨h1, h2⟩ => ⟨h1, h2.symm⟩
theorem u8_line (w : World) (l : List UInt8) : LineS w (u8V l) fun i => match l[i]? with | some b => odd8 b | none => false := fun i v hv => by
  unfold u8V at hv
  rw [List.getElem?_map] at hv
  obtain ⟨b, hb, rfl⟩ := Option.map_eq_some_iff.1 hv
  simp only [hb]
  exact line1 b w
theorem bytes_sl (w : World) (s : ByteArray) (C : Nat) (T : TypeId) (fr : Nat × Nat) (h1 : s.size ≤ C) (h2 : C ≤ maxLen) : Sl (w.alloc (.cells (bytesRow s C) T fr)) (some ⟨w.heap.size, 0, none⟩) s.size C (u8V s.data.toList) := by
  have hl : s.data.size = s.size := rfl
  refine ⟨by simp [u8V], h1, h2, fun _ => ⟨w.heap.size, 0, rfl, by simp, fun j u hu => ?_⟩⟩
  rw [Nat.zero_add, cell_of_row _ w.heap.size j (bytesRow s C) T fr (heap_alloc_new w _)]
  unfold u8V at hu
  rw [List.getElem?_map] at hu
  obtain ⟨b, hb, rfl⟩ := Option.map_eq_some_iff.1 hu
  unfold bytesRow
  have hj : j < s.data.size := by have := (List.getElem?_eq_some_iff.1 hb).1; simpa using this
  rw [Array.getElem?_append_left (by simpa using hj), Array.getElem?_map]
  rw [Array.getElem?_toList] at hb
  rw [hb]
  rfl
set_option maxRecDepth 100000 in
set_option maxHeartbeats 1000000 in
theorem lineF (s : ByteArray) (l : List ByteArray) (hp : Parts s l) (he : ByteArray.empty ∉ l) (hb : ∀ b ∈ s.data.toList, odd8 b = false) (h60 : s.size ≤ 60) (hl : l.length ≤ 1000) (w : World) (hm : MaxL w) :
    Calls Tryz.prog 51 #[.string s] w fun e w' => e = .returned (.bool true) ∧ Below w.heap.size w w' := by
  have HP := hid (hp w hm)
  have HL := hid (show l.length ≤ 1000000 by omega)
  have HH := hid (strHas (some ⟨w.heap.size, 0, none⟩) l.length l.length l ByteArray.empty false (w.alloc (.cells (strV l).toArray 9)) (by have := Sl.new w (strV l).toArray 9 (n := l.length) (by simp [strV]) HL.out; simpa using this) (by simp [he]))
  have HBY := hid fun (W : World) A c (hs : Sl W A s.size c (u8V s.data.toList)) => byteAny A s.size c (u8V s.data.toList) _ false W hs (u8_line W s.data.toList) (by
    constructor
    · intro h; cases h
    · rintro ⟨i, hi, h⟩
      have hx : s.data.toList[i]? = some (s.data.toList[i]'(by simpa using hi)) := List.getElem?_eq_getElem _
      rw [hx] at h
      simp only at h
      rw [hb _ (List.getElem_mem _)] at h
      cases h)
  have hcb := fun (W : World) => run_bytes_of_string (P := Tryz.prog) W 9 87 5 s Tryz.underlying9 Tryz.underlying87 Tryz.underlying5
  have h61 : (s.size : Int) ≤ 60 := by omega
  clear hp he hb hm
  go_enter Tryz.func51, Tryz.ntmps51
  go_wp2_with fail
  refine (HP.out).mono ?_; rintro e w1 ⟨rfl, rfl⟩
  go_wp2_with fail
  refine (HH.out).mono ?_; rintro e w1 ⟨rfl, rfl⟩
  go_wp2_with fail
  have hg1 := grownCap_ge (w.alloc (.cells (strV l).toArray 9)) s.size 0 5
  have hg2 := grownCap_le_maxLen (w.alloc (.cells (strV l).toArray 9)) s.size 0 5 (by unfold maxLen; omega)
  generalize grownCap (w.alloc (.cells (strV l).toArray 9)) s.size 0 5 = C at *
  have HW := hid ((((Below.refl w.heap.size w).alloc (Nat.le_refl _) (.cells (strV l).toArray 9)).alloc (by simp) (.cells (bytesRow s C) 5 ((bytesRow s C).size, (bytesRow s C).size + 1))).drew)
  have HS1 := hid (bytes_sl (w.alloc (.cells (strV l).toArray 9)) s C 5 ((bytesRow s C).size, (bytesRow s C).size + 1) hg1 hg2).drew
  have hsz : (w.alloc (.cells (strV l).toArray 9)).heap.size = w.heap.size + 1 := by simp
  rw [hsz] at HS1
  clear hg1 hg2 hsz hcb
  refine (HBY.out _ _ _ HS1.out).mono ?_; rintro e w1 ⟨rfl, rfl⟩
  go_wp2
  go_ret
  exact ⟨rfl, HW.out⟩
end Go.Proofs.YtkjinamjdjijcaaGreatDoor
