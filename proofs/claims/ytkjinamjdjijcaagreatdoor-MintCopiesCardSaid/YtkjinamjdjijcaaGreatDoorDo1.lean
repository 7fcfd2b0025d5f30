/- Walk of do at the first state and the line 'medal gold'. Condition: the library's MaxLen stands in its variable. -/
import Derived.Test.YtkjinamjdjijcaaGreatDoorMedal
namespace Go.Proofs.YtkjinamjdjijcaaGreatDoor
open Go.RowKit Go.Maps

abbrev sMG : ByteArray := ⟨#[109, 101, 100, 97, 108, 32, 103, 111, 108, 100]⟩
abbrev sMedal : ByteArray := ⟨#[109, 101, 100, 97, 108]⟩
abbrev sGold : ByteArray := ⟨#[103, 111, 108, 100]⟩
abbrev sRoll : ByteArray := ⟨#[114, 111, 108, 108]⟩
theorem parts_MG : Parts sMG [sMedal, sGold] := parts_of (by decide) (by kernel_rfl) (by kernel_rfl)
theorem parts_R : Parts sRoll [sRoll] := parts_of (by decide) (by kernel_rfl) (by kernel_rfl)
theorem word_MG : Word sMG sMedal := word_of (by decide) (by kernel_rfl)
theorem word_R : Word sRoll sRoll := word_of (by decide) (by kernel_rfl)
theorem nm_gold : IsNm sGold := ⟨fun i h => by
  have h : i < 4 := h
  rcases (show i = 0 ∨ i = 1 ∨ i = 2 ∨ i = 3 by omega) with rfl | rfl | rfl | rfl <;> rfl, by decide, by decide⟩
theorem no_empty {l : List ByteArray} (h : (l.all fun x => decide (0 < x.size)) = true) : ByteArray.empty ∉ l := fun hm => by
  have := List.all_eq_true.1 h _ hm
  simp at this
theorem no_odd {s : ByteArray} (h : (s.data.toList.all fun b => !odd8 b) = true) : ∀ b ∈ s.data.toList, odd8 b = false := fun b hb => by
  have := List.all_eq_true.1 h b hb
  simpa using this
theorem line_MG (w : World) (hm : MaxL w) : Calls Tryz.prog 51 #[.string sMG] w fun e w' => e = .returned (.bool true) ∧ Below w.heap.size w w' := lineF sMG [sMedal, sGold] parts_MG (no_empty (by kernel_rfl)) (no_odd (by kernel_rfl)) (by decide) (by decide) w hm
theorem line_R (w : World) (hm : MaxL w) : Calls Tryz.prog 51 #[.string sRoll] w fun e w' => e = .returned (.bool true) ∧ Below w.heap.size w w' := lineF sRoll [sRoll] parts_R (no_empty (by kernel_rfl)) (no_odd (by kernel_rfl)) (by decide) (by decide) w hm
theorem read_MG (f1 f2 : Value) : ReadSays (.int .i64 1) (.int .i64 0) f1 f2 sMG 1 [.string sGold] := fun w hm => readNames 1 f1 f2 sMG sMedal [sGold] parts_MG rfl (fun x hx => by simp at hx; subst hx; exact nm_gold) (by decide) (by decide) w hm
theorem read_R (f1 f2 : Value) : ReadSays (.int .i64 0) (.int .i64 0) f1 f2 sRoll 0 [] := fun w hm => (readBare f1 f2 sRoll sRoll parts_R w hm).mono fun _ _ ⟨h1, h2⟩ => ⟨none, 0, h1, World.ownsRow_nil _ _ _ _, h2⟩
theorem key_str (s : ByteArray) (h : s.size ≤ 1000) : ∃ kl, keyOf Tryz.prog 9 (.string s) = some kl := ⟨_, Go.WideMaps.keyOf_string_mk Tryz.underlying9 (by unfold maxLen; omega)⟩
/-- A state of one medal, gold. -/
structure StG (W : World) (nb B : Nat) (M : Option Addr) (mc : Nat) (U : Option Addr) (uc : Nat) : Prop where
  blk : Blk W nb 101 (stC (.slice M 1 mc) (.slice U 1 uc))
  med : W.ownsRow B 9 1 (.slice M 1 mc) 1 [.string sGold]
  abv : W.ownsRow B 3 1 (.slice U 1 uc) 1 [.int .i64 0]
  low : B ≤ nb
theorem StG.keep {W W' : World} {nb B : Nat} {M : Option Addr} {mc : Nat} {U : Option Addr} {uc : Nat} (h : StG W nb B M mc U uc) (hb : Below W.heap.size W W') : StG W' nb B M mc U uc := ⟨h.blk.keep hb, own_below h.med hb, own_below h.abv hb, h.low⟩
set_option maxRecDepth 100000 in
set_option maxHeartbeats 4000000 in
theorem doMG (sb : Nat) (w : World) (hm : MaxL w) (h : Blk w sb 101 begC) :
    Calls Tryz.prog 35 #[.pointer (some ⟨sb, 0, none⟩), .string sMG] w fun e w' => ∃ nb M mc U uc, e = .returned (.tuple #[.pointer (some ⟨nb, 0, none⟩), .int .i64 0]) ∧ StG w' nb w.heap.size M mc U uc ∧ Below w.heap.size w w' := by
  have HC := hid (changesF w)
  have HM := hid hm
  have HS := hid h
  have he : ∀ args W, (callFunc 52 args).run Tryz.prog W = .ok (.enter 52 args) W := fun args W => enters Tryz.func52 (by kernel_rfl) rfl args W
  clear hm h
  go_enter Tryz.func35, Tryz.ntmps35
  go_wp2_with fail
  refine (HC.out).mono ?_; rintro e w1 ⟨bm, rfl, hmap, hb, b1⟩
  have HB1 := hid b1
  have HF := hid (findDo bm (asS changesL) sMG sMedal 1 0 52 1 [.string sGold] w1 (HM.out.keep b1) hmap word_MG (by kernel_rfl) (key_str _ (by decide)) (read_MG _ _) line_MG)
  clear hmap hb b1 HC
  go_wp2_with fail
  refine (HF.out).mono ?_; rintro e w2 ⟨A, c, rfl, ho, b2⟩
  have HO := hid ho
  have HB2 := hid (below_call HB1.out b2 HB1.out.size)
  clear ho b2 HF
  go_wp2_with fail
  have HR0 := hid ((Blk.new w2 106 #[.int .i64 1, .int .i64 0, .func (.func 52) #[] #[], .nilFunc]).alloc (.cells #[.slice A 1 c, .slice none 0 0] 108))
  have HL0 := hid (Blk.new_at (w2.alloc (.cells #[.int .i64 1, .int .i64 0, .func (.func 52) #[] #[], .nilFunc] 106)) 108 #[.slice A 1 c, .slice none 0 0] (n := w2.heap.size + 1) (by simp))
  have b3 := (HB2.out.alloc HB2.out.size (.cells #[.int .i64 1, .int .i64 0, .func (.func 52) #[] #[], .nilFunc] 106)).alloc (by have := HB2.out.size; simp; omega) (.cells #[.slice A 1 c, .slice none 0 0] 108)
  have HB3 := hid b3
  have HO3 := hid ((HO.out.alloc (.cells #[.int .i64 1, .int .i64 0, .func (.func 52) #[] #[], .nilFunc] 106)).alloc (.cells #[.slice A 1 c, .slice none 0 0] 108))
  clear HO b3
  generalize hW3 : ((w2.alloc (.cells #[.int .i64 1, .int .i64 0, .func (.func 52) #[] #[], .nilFunc] 106)).alloc (.cells #[.slice A 1 c, .slice none 0 0] 108)) = W3 at *
  clear hW3
  have HCL := hid (cloneBeg sb W3 (HS.out.keep HB3.out))
  refine (HCL.out).mono ?_; rintro e w4 ⟨nb, rfl, hnb, hsz, b4⟩
  have HN4 := hid hnb
  have HSZ := hid hsz
  have HB4 := hid (below_call HB3.out b4 HB3.out.size)
  have HO4 := hid (own_below HO3.out b4)
  have HA := hid (show ∀ b o, A = some ⟨b, o, none⟩ → ¬ b = nb from fun b o e hbn => by
    have := (HO3.out.lt b (by rw [e]; rfl)).2
    omega)
  have r2 := (HR0.out.keep b4).cell 2
  have l0 := (HL0.out.keep b4).cell 0
  have l1 := (HL0.out.keep b4).cell 1
  simp only [List.getElem?_toArray, List.getElem?_cons_zero, List.getElem?_cons_succ] at r2 l0 l1
  have HMD := hid (medalF nb A c sGold w4 hnb (Sl.of_own HO4.out) HA.out)
  clear hnb hsz b4 HCL
  go_wp2_with fail
  refine (HMD.out).mono ?_; rintro e w5 ⟨rfl, M, mc, U, uc, hb5, hm5, hu5, hc5⟩
  have HX := hid (show StG w5 nb w.heap.size M mc U uc from ⟨hb5, own_more hm5 HB4.out.size, own_more hu5 HB4.out.size, Nat.le_trans HB3.out.size HSZ.out⟩)
  have HB5 := hid (hc5.below HB4.out HB4.out.size (fun i e => by rw [e]; exact Nat.le_trans HB3.out.size HSZ.out))
  clear hb5 hm5 hu5 hc5 r2 l0 l1
  go_wp2
  go_ret2
  exact ⟨nb, M, mc, U, uc, rfl, HX.out, HB5.out⟩
end Go.Proofs.YtkjinamjdjijcaaGreatDoor
