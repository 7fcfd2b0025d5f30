/- Texts of this proof, one behind the other; each says its condition at its head. -/
import Derived.Test.YtciadmjdadnolaaGreatDoorK3
import Derived.BigRegion
import Derived.StringKeys
/- Walk of Open on new copies. Condition: three or five of them, all in reach. -/
namespace Go.Proofs.YtciadmjdadnolaaGreatDoor
open Go.RowKit Go.Maps
theorem Chs.toGrown {b : Nat} {w w' : World} (h : Chs (· = b) w w') : w.grownBy w' (some b) := ⟨h.os, h.tape, h.output, h.size, fun i hi hne => h.block i hi fun e => hne (by rw [e])⟩
theorem setGrown (w : World) (a : Addr) (u : Value) : w.grownBy (w.setCell a u) (some a.block) := (Chs.setCell (S := (· = a.block)) rfl u).toGrown
theorem own_grown {w w' : World} {B b : Nat} {e t : TypeId} {size n : Nat} {v : Value} {xs : List Value} {cs : Array Value} (h : w.ownsRow B e size v n xs) (k : Blk w b t cs) (hne : t ≠ e) (hg : w.grownBy w' (some b)) : w'.ownsRow B e size v n xs :=
 World.ownsRow.kept h hg (by
  cases hv : v.ownBlock with
  | none => exact .inl rfl
  | some g => exact .inr (fun e => own_ne_blk h k hne (by rw [hv, e])))
theorem blk_neM {w : World} {b c : Nat} {t t' : TypeId} {cs cs' : Array Value} (h : Blk w b t cs) (h' : Blk w c t' cs') (ht : t ≠ t') : b ≠ c := by
 intro e
 subst e
 unfold Blk at h h'
 rw [h] at h'
 injection h' with h'
 injection h' with _ h' _
 exact ht h'
/-- What stands while a mint is opened on new copies L, of which d have promised. -/
structure OpS (w W : World) (m sb n : Nat) (a r : Value) (L : List (Nat × Nat)) (k : Int) (d : Nat) : Prop where
 mint : Blk W m 59 #[a, .int .i64 k, .pointer (some ⟨sb, 0, none⟩), .slice none 0 0, .bool false]
 st : Blk W sb 102 begC
 own1 : W.ownsRow w.heap.size 42 1 a n (ptrs (L.map (·.1)))
 own2 : W.ownsRow w.heap.size 42 1 r n (ptrs (L.map (·.1)))
 cp : ∀ i p, L[i]? = some p → CpM W p.1 p.2 (if i < d then 1 else 0) false (fun _ => none)
 chs : Chs (fun b => b ∈ L.map (·.1)) w W
 hm : w.heap.size ≤ m
 hs : w.heap.size ≤ sb
 old : ∀ p ∈ L, p.1 < w.heap.size ∧ p.2 < w.heap.size
 nod : (L.map (·.1)).Nodup
section
variable {w W W' : World} {m sb n d : Nat} {a r : Value} {L : List (Nat × Nat)} {k : Int}
theorem OpS.below (h : OpS w W m sb n a r L k d) (hb : Below W.heap.size W W') : OpS w W' m sb n a r L k d :=
 ⟨h.mint.keep hb, h.st.keep hb, own_below h.own1 hb, own_below h.own2 hb, fun i p hp => (h.cp i p hp).keep hb, h.chs.trans (Chs.of_below hb), h.hm, h.hs, h.old, h.nod⟩
theorem OpS.drew (h : OpS w W m sb n a r L k d) : OpS w W.drew m sb n a r L k d := h.below (Below.refl _ W).drew
theorem OpS.setMark (h : OpS w W m sb n a r L k d) (k' : Int) : OpS w (W.setCell ⟨m, 1, none⟩ (.int .i64 k')) m sb n a r L k' d :=
 ⟨h.mint.set 1 _, h.st.far (p := ⟨m, 1, none⟩) (blk_neM h.st h.mint (by decide)) _, own_grown h.own1 h.mint (by decide) (setGrown W ⟨m, 1, none⟩ _), own_grown h.own2 h.mint (by decide) (setGrown W ⟨m, 1, none⟩ _),
  fun i p hp => by
   have c := h.cp i p hp
   exact ⟨c.blk.far (p := ⟨m, 1, none⟩) (blk_neM c.blk h.mint (by decide)) _, c.map.setCell (a := ⟨m, 1, none⟩) (c.map.ne_blk h.mint) _⟩,
  ⟨h.chs.os, h.chs.tape, h.chs.output, by simpa using h.chs.size, fun i hi hs => (Below.heap_setCell W ⟨m, 1, none⟩ _ i (by have := h.hm; simp; omega)).trans (h.chs.block i hi hs)⟩, h.hm, h.hs, h.old, h.nod⟩
theorem OpS.promise {p : Nat × Nat} (h : OpS w W m sb n a r L k d) (hp : L[d]? = some p) (hc : CpM W' p.1 p.2 1 false (fun _ => none)) (hg : Chs (· = p.1) W W') : OpS w W' m sb n a r L k (d + 1) := by
 have c := h.cp d p hp
 have hmem : p.1 ∈ L.map (·.1) := List.mem_map.2 ⟨p, List.mem_of_getElem? hp, rfl⟩
 have ho := h.old p (List.mem_of_getElem? hp)
 refine ⟨hg.blk h.mint (by have := h.hm; omega), hg.blk h.st (by have := h.hs; omega), own_grown h.own1 c.blk (by decide) hg.toGrown, own_grown h.own2 c.blk (by decide) hg.toGrown, fun i q hq => ?_, h.chs.trans (hg.mono fun i e => by rw [e]; exact hmem), h.hm, h.hs, h.old, h.nod⟩
 by_cases e : i = d
 · subst e
   rw [hp] at hq
   cases hq
   rw [if_pos (by omega)]
   exact hc
 · have cq := h.cp i q hq
   have h1 : q.1 ≠ p.1 := fun e' => by
    have hi : (L.map (·.1))[i]? = some q.1 := by rw [List.getElem?_map, hq]; rfl
    have hd : (L.map (·.1))[d]? = some q.1 := by rw [List.getElem?_map, hp, e']; rfl
    exact e ((List.getElem?_inj (List.getElem?_eq_some_iff.1 hi).1 h.nod).1 (by rw [hi, hd]))
   have h2 : q.2 ≠ p.1 := fun e' => cq.map.ne_blk c.blk e'.symm
   have := hg.cpm cq h1 h2
   by_cases hid : i < d
   · rw [if_pos hid] at this
     rw [if_pos (by omega)]; exact this
   · rw [if_neg hid] at this
     rw [if_neg (by omega)]; exact this
end
theorem onL_all (L : List (Nat × Nat)) : onL (L.map fun p => (p.1, false)) = L.map (·.1) := by
 induction L with
 | nil => rfl
 | cons p L ih => unfold onL at *; simp at *; exact ih
theorem ptrs_take (l : List Nat) (i : Nat) : ptrs (l.take i) = (ptrs l).take i := by unfold ptrs; rw [List.map_take]
theorem nod_take {l : List Nat} (h : l.Nodup) {i : Nat} {b : Nat} (hb : l[i]? = some b) : b ∉ l.take i := by
 intro hm
 obtain ⟨j, hj⟩ := List.getElem?_of_mem hm
 rw [List.getElem?_take] at hj
 split at hj
 · rename_i hji
   have := (List.getElem?_inj (List.getElem?_eq_some_iff.1 hj).1 h).1 (hj.trans hb.symm)
   omega
 · cases hj
set_option maxRecDepth 100000 in
set_option maxHeartbeats 4000000 in
theorem openNew (A : Option Addr) (n c : Nat) (L : List (Nat × Nat)) (B : Nat) (w : World) (h35 : n = 3 ∨ n = 5) (hs : Sl w A n c (ptrs (L.map (·.1)))) (hL : NewC w B L) :
 Calls Tryz.prog 10 #[.slice A n c] w fun x w' => ∃ m sb a r, x = .returned (.tuple #[.pointer (some ⟨m, 0, none⟩), .int .i64 0]) ∧ OpS w w' m sb n a r L 1 n := by
 have hlen : L.length = n := by have := hs.len; simpa [ptrs] using this
 have HLEN := hid hlen
 have HNA := hid (noneAny A n c _ (fun _ => false) false w hs (fun i v hv => by
  unfold ptrs at hv
  rw [List.getElem?_map] at hv
  obtain ⟨b, hb, rfl⟩ := Option.map_eq_some_iff.1 hv
  rw [List.getElem?_map] at hb
  obtain ⟨p, hp, rfl⟩ := Option.map_eq_some_iff.1 hb
  exact noneF _ _ _ _ _ w (hL.cpm p (List.mem_of_getElem? hp)).1) (by simp))
 have HPH := hid fun (i b : Nat) (hi : i ≤ n) (hb : (L.map (·.1))[i]? = some b) => (show Calls Tryz.prog 28 #[.slice A i c, .pointer (some ⟨b, 0, none⟩)] w fun e w' => e = .returned (.bool false) ∧ w = w' from by
  have hblk : ∀ y ∈ L.map (·.1), IsBlk w y := fun y hy => by
   obtain ⟨p, hp, rfl⟩ := List.mem_map.1 hy
   exact ⟨_, _, (hL.cpm p hp).1.blk⟩
  have h := ptrHas A i c ((L.map (·.1)).take i) b w (by rw [ptrs_take]; exact hs.take i hi) (hblk b (List.mem_of_getElem? hb)) (fun y hy => hblk y (List.mem_of_mem_take hy))
  rwa [decide_eq_false (nod_take hL.nod1 hb)] at h)
 have HS := hid hs
 have HL := hid hL
 have HCN := hid (cloneC A n c _ (ptrs_one _) (by omega) w hs)
 have HBG := hid fun W => beginF W
 have h3n : 3 ≤ n ∧ n ≤ 5 := by omega
 clear hs hL hlen
 go_enter Tryz.func10, Tryz.ntmps10
 go_wp2_with fail
 refine (HNA.out).mono ?_; rintro x w' ⟨rfl, rfl⟩
 have hq : ((n : Int) != 3) = false ∨ ((n : Int) != 3) = true ∧ ((n : Int) != 5) = false := by rw [bne_eq_false_iff_eq, bne_eq_false_iff_eq, bne_iff_ne]; omega
 have hq2 : (n != 3) = false ∨ (n != 3) = true ∧ (n != 5) = false := by rw [bne_eq_false_iff_eq, bne_eq_false_iff_eq, bne_iff_ne]; omega
 rcases h35 with h | h
 · have q1 : ((n : Int) != 3) = false := by rw [bne_eq_false_iff_eq]; omega
   have q2 : (n != 3) = false := by rw [bne_eq_false_iff_eq]; omega
   clear h hq hq2
   go_wp2
   go_loopg [28] n (fun gk i wr => ∃ d : Nat, gk + d = n ∧ i = .int .i64 d ∧ w = wr)
   case atStart => exact ⟨0, by omega, rfl, rfl⟩
   case round =>
    obtain ⟨d, hd, rfl, hw⟩ := hrel
    subst hw
    have HD := hid hd
    by_cases hlt : d < n
    · have HLT := hid hlt
      obtain ⟨b, o, u, rfl, lb, e1, ca⟩ := HS.out.at hlt
      obtain ⟨y, hy, rfl⟩ := Option.map_eq_some_iff.1 (show ((L.map (·.1))[d]?).map (fun b => Value.pointer (some ⟨b, 0, none⟩)) = some u by rw [← List.getElem?_map]; exact e1)
      have HH := hid (HPH.out d y (by omega) hy)
      have hcap := HS.out.cap
      clear hd e1 hy lb
      go_wp2_with fail
      refine (HH.out).mono ?_; rintro x w' ⟨rfl, rfl⟩
      go_wp2
      go_roundg (gk - 1)
      case measure => have := HD.out; have := HLT.out; omega
      case rel => exact ⟨d + 1, by have := HD.out; have := HLT.out; omega, by go_num, rfl⟩
    · obtain rfl : d = n := by have := HD.out; omega
      clear hd hlt
      go_wp2_with fail
      refine (HCN.out).mono ?_; rintro x w1 ⟨A1, c1, rfl, ho1, b1⟩
      go_wp2_with fail
      refine (HBG.out _).mono ?_; rintro x w2 ⟨sb, rfl, hsb, hsz, b2⟩
      have b12 := b1.trans (b2.mono b1.size)
      have O3 := hid ((own_below ho1 b2).alloc (.cells #[.slice A1 d c1, .int .i64 0, .pointer (some ⟨sb, 0, none⟩), .slice none 0 0, .bool false] 59))
      have M3 := hid (Blk.new w2 59 #[.slice A1 d c1, .int .i64 0, .pointer (some ⟨sb, 0, none⟩), .slice none 0 0, .bool false])
      have S3 := hid (hsb.alloc (.cells #[.slice A1 d c1, .int .i64 0, .pointer (some ⟨sb, 0, none⟩), .slice none 0 0, .bool false] 59))
      have B3 := hid (b12.alloc b12.size (.cells #[.slice A1 d c1, .int .i64 0, .pointer (some ⟨sb, 0, none⟩), .slice none 0 0, .bool false] 59))
      have HM := hid b12.size
      have HSB := hid (Nat.le_trans b1.size hsz)
      have c0 := M3.out.cell 0
      simp only [List.getElem?_toArray, List.getElem?_cons_zero] at c0
      have HCP3 := hid (show ∀ i p, L[i]? = some p → CpM (w2.alloc (.cells #[.slice A1 d c1, .int .i64 0, .pointer (some ⟨sb, 0, none⟩), .slice none 0 0, .bool false] 59)) p.1 p.2 0 false (fun _ => none) from fun i p hp => (HL.out.cpm p (List.mem_of_getElem? hp)).1.keep B3.out)
      have HOLD := hid (show ∀ p ∈ L, p.1 < w.heap.size ∧ p.2 < w.heap.size from fun p hp => (HL.out.cpm p hp).1.lt)
      clear ho1 b1 hsb hsz b2 b12
      go_wp2_with fail
      generalize (w2.alloc (.cells #[.slice A1 d c1, .int .i64 0, .pointer (some ⟨sb, 0, none⟩), .slice none 0 0, .bool false] 59)) = W3 at *
      generalize w2.heap.size = m at *
      have HIR := hid (inReachF A1 d c1 (L.map fun p => (p.1, false)) W3 (by omega) (by rw [List.map_map]; exact Sl.of_own O3.out) (fun q hq => by
       obtain ⟨p, hp, rfl⟩ := List.mem_map.1 hq
       obtain ⟨i, hi⟩ := List.getElem?_of_mem hp
       have h := (HCP3.out i p hi).blk.cell 2
       simpa using h))
      rw [onL_all] at HIR
      have hll : (L.map (·.1)).length = d := by rw [List.length_map]; exact HLEN.out
      rw [hll] at HIR
      refine (HIR.out).mono ?_; rintro x w4 ⟨A2, c2, rfl, ho2, b4⟩
      have HO := hid (show OpS w w4 m sb d (.slice A1 d c1) (.slice A2 d c2) L 0 0 from
       ⟨M3.out.keep b4, S3.out.keep b4, own_below O3.out b4, own_more ho2 B3.out.size, fun i p hp => by rw [if_neg (by omega)]; exact (HCP3.out i p hp).keep b4, Chs.of_below (below_call B3.out b4 B3.out.size), HM.out, HSB.out, HOLD.out, HL.out.nod1⟩)
      have c4 := HO.out.mint.cell 0
      simp only [List.getElem?_toArray, List.getElem?_cons_zero] at c4
      clear ho2 b4 c0 hll O3 M3 S3 B3 HCP3
      go_wp2_with fail
      refine (mostF A1 d c1 d w4 (by omega) (by omega)).mono ?_; rintro x w' ⟨rfl, rfl⟩
      have g1 : decide ((d : Int) < 2 * d) = true := decide_eq_true (by omega)
      have g2 : decide (d < 2 * d) = true := decide_eq_true (by omega)
      go_wp2
      go_loopg [59] d (fun gk i wr => ∃ j : Nat, gk + j = d ∧ i = .int .i64 j ∧ Hid (OpS w wr m sb d (.slice A1 d c1) (.slice A2 d c2) L 0 0))
      case atStart => exact ⟨0, by omega, rfl, HO⟩
      case round =>
       clear c4
       obtain ⟨j, hj, rfl, HP⟩ := hrel
       have HJ := hid hj
       by_cases hltj : j < d
       · have HLTJ := hid hltj
         obtain ⟨b2, o2, u2', hA2, lb2, e2, ca2⟩ := (Sl.of_own HP.out.own2).at hltj
         subst hA2
         obtain ⟨y2, hy2, rfl⟩ := Option.map_eq_some_iff.1 (show ((L.map (·.1))[j]?).map (fun b => Value.pointer (some ⟨b, 0, none⟩)) = some u2' by rw [← List.getElem?_map]; exact e2)
         rw [List.getElem?_map] at hy2
         obtain ⟨p, hp, rfl⟩ := Option.map_eq_some_iff.1 hy2
         have cm := (HP.out.cp j p hp).blk.cell 1
         have c1m := HP.out.mint.cell 1
         simp only [List.getElem?_toArray, List.getElem?_cons_zero, List.getElem?_cons_succ] at cm c1m
         rw [if_neg (by omega)] at cm
         have f1m := HP.out.mint.free 1
         have HN := hid ((HP.out.setMark 0).drew)
         clear hj e2 hy2 lb2 hp
         go_wp2_with fail
         go_region
         all_goals (go_wp2; go_roundg (gk - 1))
         case measure => have := HJ.out; have := HLTJ.out; omega
         case rel => exact ⟨j + 1, by have := HJ.out; have := HLTJ.out; omega, by go_num, HN⟩
       · obtain rfl : j = d := by have := HJ.out; omega
         have c1m := HP.out.mint.cell 1
         simp only [List.getElem?_toArray, List.getElem?_cons_zero, List.getElem?_cons_succ] at c1m
         have f1m := HP.out.mint.free 1
         have HN := hid (HP.out.setMark 1)
         clear hj hltj
         go_wp2
         generalize wr.setCell ⟨m, 1, none⟩ (.int .i64 1) = W5 at *
         clear c1m f1m
         go_loopg [90] j (fun gk i wr => ∃ q : Nat, gk + q = j ∧ i = .int .i64 q ∧ Hid (OpS w wr m sb j (.slice A1 j c1) (.slice A2 j c2) L 1 q))
         case atStart => exact ⟨0, by omega, rfl, HN⟩
         case round =>
          obtain ⟨q, hq, rfl, HP⟩ := hrel
          have HQ := hid hq
          by_cases hltq : q < j
          · have HLTQ := hid hltq
            obtain ⟨b2, o2, u2', hA2, lb2, e2, ca2⟩ := (Sl.of_own HP.out.own2).at hltq
            subst hA2
            obtain ⟨y2, hy2, rfl⟩ := Option.map_eq_some_iff.1 (show ((L.map (·.1))[q]?).map (fun b => Value.pointer (some ⟨b, 0, none⟩)) = some u2' by rw [← List.getElem?_map]; exact e2)
            rw [List.getElem?_map] at hy2
            obtain ⟨p, hp, rfl⟩ := Option.map_eq_some_iff.1 hy2
            have c1m := HP.out.mint.cell 1
            simp only [List.getElem?_toArray, List.getElem?_cons_zero, List.getElem?_cons_succ] at c1m
            have hcp := HP.out.cp q p hp
            rw [if_neg (by omega)] at hcp
            have HPR := hid (promiseF 1 p.1 p.2 0 false (fun _ => none) wr hcp)
            have HPP := hid hp
            clear hq e2 hy2 lb2 hp hcp
            go_wp2_with fail
            refine (HPR.out).mono ?_; rintro x w' ⟨rfl, hc', hg'⟩
            have HN2 := hid (HP.out.promise HPP.out hc' hg')
            clear hc' hg' c1m ca2
            go_wp2
            go_roundg (gk - 1)
            case measure => have := HQ.out; have := HLTQ.out; omega
            case rel => exact ⟨q + 1, by have := HQ.out; have := HLTQ.out; omega, by go_num, HN2⟩
          · obtain rfl : q = j := by have := HQ.out; omega
            have HRN := hid (readNone ⟨m, 0, none⟩ A2 q c2 (L.map (·.1)) wr (by omega) (Sl.of_own HP.out.own2) (fun b hb => by
             obtain ⟨p, hp, rfl⟩ := List.mem_map.1 hb
             obtain ⟨i, hi⟩ := List.getElem?_of_mem hp
             exact ⟨_, _, _, _, HP.out.cp i p hi, rfl⟩))
            clear hq hltq
            go_wp2_with fail
            refine (HRN.out).mono ?_; rintro x w7 ⟨rfl, b7⟩
            have HN7 := hid (HP.out.below b7)
            have c3m := HN7.out.mint.cell 3
            simp only [List.getElem?_toArray, List.getElem?_cons_zero, List.getElem?_cons_succ] at c3m
            clear b7
            go_wp2
            go_loopg [109] 1 (fun gk i wr => gk = 1 ∧ i = .int .i64 0 ∧ w7 = wr)
            case atStart => exact ⟨rfl, rfl, rfl⟩
            case round =>
             obtain ⟨_, rfl, hw7⟩ := hrel
             subst hw7
             go_wp2
             go_ret2
             exact ⟨m, sb, _, _, rfl, HN7.out⟩
 · have q1 : ((n : Int) != 3) = true := by rw [bne_iff_ne]; omega
   have q2 : (n != 3) = true := by rw [bne_iff_ne]; omega
   have q3 : ((n : Int) != 5) = false := by rw [bne_eq_false_iff_eq]; omega
   have q4 : (n != 5) = false := by rw [bne_eq_false_iff_eq]; omega
   clear h hq hq2
   go_wp2
   go_loopg [28] n (fun gk i wr => ∃ d : Nat, gk + d = n ∧ i = .int .i64 d ∧ w = wr)
   case atStart => exact ⟨0, by omega, rfl, rfl⟩
   case round =>
    obtain ⟨d, hd, rfl, hw⟩ := hrel
    subst hw
    have HD := hid hd
    by_cases hlt : d < n
    · have HLT := hid hlt
      obtain ⟨b, o, u, rfl, lb, e1, ca⟩ := HS.out.at hlt
      obtain ⟨y, hy, rfl⟩ := Option.map_eq_some_iff.1 (show ((L.map (·.1))[d]?).map (fun b => Value.pointer (some ⟨b, 0, none⟩)) = some u by rw [← List.getElem?_map]; exact e1)
      have HH := hid (HPH.out d y (by omega) hy)
      have hcap := HS.out.cap
      clear hd e1 hy lb
      go_wp2_with fail
      refine (HH.out).mono ?_; rintro x w' ⟨rfl, rfl⟩
      go_wp2
      go_roundg (gk - 1)
      case measure => have := HD.out; have := HLT.out; omega
      case rel => exact ⟨d + 1, by have := HD.out; have := HLT.out; omega, by go_num, rfl⟩
    · obtain rfl : d = n := by have := HD.out; omega
      clear hd hlt
      go_wp2_with fail
      refine (HCN.out).mono ?_; rintro x w1 ⟨A1, c1, rfl, ho1, b1⟩
      go_wp2_with fail
      refine (HBG.out _).mono ?_; rintro x w2 ⟨sb, rfl, hsb, hsz, b2⟩
      have b12 := b1.trans (b2.mono b1.size)
      have O3 := hid ((own_below ho1 b2).alloc (.cells #[.slice A1 d c1, .int .i64 0, .pointer (some ⟨sb, 0, none⟩), .slice none 0 0, .bool false] 59))
      have M3 := hid (Blk.new w2 59 #[.slice A1 d c1, .int .i64 0, .pointer (some ⟨sb, 0, none⟩), .slice none 0 0, .bool false])
      have S3 := hid (hsb.alloc (.cells #[.slice A1 d c1, .int .i64 0, .pointer (some ⟨sb, 0, none⟩), .slice none 0 0, .bool false] 59))
      have B3 := hid (b12.alloc b12.size (.cells #[.slice A1 d c1, .int .i64 0, .pointer (some ⟨sb, 0, none⟩), .slice none 0 0, .bool false] 59))
      have HM := hid b12.size
      have HSB := hid (Nat.le_trans b1.size hsz)
      have c0 := M3.out.cell 0
      simp only [List.getElem?_toArray, List.getElem?_cons_zero] at c0
      have HCP3 := hid (show ∀ i p, L[i]? = some p → CpM (w2.alloc (.cells #[.slice A1 d c1, .int .i64 0, .pointer (some ⟨sb, 0, none⟩), .slice none 0 0, .bool false] 59)) p.1 p.2 0 false (fun _ => none) from fun i p hp => (HL.out.cpm p (List.mem_of_getElem? hp)).1.keep B3.out)
      have HOLD := hid (show ∀ p ∈ L, p.1 < w.heap.size ∧ p.2 < w.heap.size from fun p hp => (HL.out.cpm p hp).1.lt)
      clear ho1 b1 hsb hsz b2 b12
      go_wp2_with fail
      generalize (w2.alloc (.cells #[.slice A1 d c1, .int .i64 0, .pointer (some ⟨sb, 0, none⟩), .slice none 0 0, .bool false] 59)) = W3 at *
      generalize w2.heap.size = m at *
      have HIR := hid (inReachF A1 d c1 (L.map fun p => (p.1, false)) W3 (by omega) (by rw [List.map_map]; exact Sl.of_own O3.out) (fun q hq => by
       obtain ⟨p, hp, rfl⟩ := List.mem_map.1 hq
       obtain ⟨i, hi⟩ := List.getElem?_of_mem hp
       have h := (HCP3.out i p hi).blk.cell 2
       simpa using h))
      rw [onL_all] at HIR
      have hll : (L.map (·.1)).length = d := by rw [List.length_map]; exact HLEN.out
      rw [hll] at HIR
      refine (HIR.out).mono ?_; rintro x w4 ⟨A2, c2, rfl, ho2, b4⟩
      have HO := hid (show OpS w w4 m sb d (.slice A1 d c1) (.slice A2 d c2) L 0 0 from
       ⟨M3.out.keep b4, S3.out.keep b4, own_below O3.out b4, own_more ho2 B3.out.size, fun i p hp => by rw [if_neg (by omega)]; exact (HCP3.out i p hp).keep b4, Chs.of_below (below_call B3.out b4 B3.out.size), HM.out, HSB.out, HOLD.out, HL.out.nod1⟩)
      have c4 := HO.out.mint.cell 0
      simp only [List.getElem?_toArray, List.getElem?_cons_zero] at c4
      clear ho2 b4 c0 hll O3 M3 S3 B3 HCP3
      go_wp2_with fail
      refine (mostF A1 d c1 d w4 (by omega) (by omega)).mono ?_; rintro x w' ⟨rfl, rfl⟩
      have g1 : decide ((d : Int) < 2 * d) = true := decide_eq_true (by omega)
      have g2 : decide (d < 2 * d) = true := decide_eq_true (by omega)
      go_wp2
      go_loopg [59] d (fun gk i wr => ∃ j : Nat, gk + j = d ∧ i = .int .i64 j ∧ Hid (OpS w wr m sb d (.slice A1 d c1) (.slice A2 d c2) L 0 0))
      case atStart => exact ⟨0, by omega, rfl, HO⟩
      case round =>
       clear c4
       obtain ⟨j, hj, rfl, HP⟩ := hrel
       have HJ := hid hj
       by_cases hltj : j < d
       · have HLTJ := hid hltj
         obtain ⟨b2, o2, u2', hA2, lb2, e2, ca2⟩ := (Sl.of_own HP.out.own2).at hltj
         subst hA2
         obtain ⟨y2, hy2, rfl⟩ := Option.map_eq_some_iff.1 (show ((L.map (·.1))[j]?).map (fun b => Value.pointer (some ⟨b, 0, none⟩)) = some u2' by rw [← List.getElem?_map]; exact e2)
         rw [List.getElem?_map] at hy2
         obtain ⟨p, hp, rfl⟩ := Option.map_eq_some_iff.1 hy2
         have cm := (HP.out.cp j p hp).blk.cell 1
         have c1m := HP.out.mint.cell 1
         simp only [List.getElem?_toArray, List.getElem?_cons_zero, List.getElem?_cons_succ] at cm c1m
         rw [if_neg (by omega)] at cm
         have f1m := HP.out.mint.free 1
         have HN := hid ((HP.out.setMark 0).drew)
         clear hj e2 hy2 lb2 hp
         go_wp2_with fail
         go_region
         all_goals (go_wp2; go_roundg (gk - 1))
         case measure => have := HJ.out; have := HLTJ.out; omega
         case rel => exact ⟨j + 1, by have := HJ.out; have := HLTJ.out; omega, by go_num, HN⟩
       · obtain rfl : j = d := by have := HJ.out; omega
         have c1m := HP.out.mint.cell 1
         simp only [List.getElem?_toArray, List.getElem?_cons_zero, List.getElem?_cons_succ] at c1m
         have f1m := HP.out.mint.free 1
         have HN := hid (HP.out.setMark 1)
         clear hj hltj
         go_wp2
         generalize wr.setCell ⟨m, 1, none⟩ (.int .i64 1) = W5 at *
         clear c1m f1m
         go_loopg [90] j (fun gk i wr => ∃ q : Nat, gk + q = j ∧ i = .int .i64 q ∧ Hid (OpS w wr m sb j (.slice A1 j c1) (.slice A2 j c2) L 1 q))
         case atStart => exact ⟨0, by omega, rfl, HN⟩
         case round =>
          obtain ⟨q, hq, rfl, HP⟩ := hrel
          have HQ := hid hq
          by_cases hltq : q < j
          · have HLTQ := hid hltq
            obtain ⟨b2, o2, u2', hA2, lb2, e2, ca2⟩ := (Sl.of_own HP.out.own2).at hltq
            subst hA2
            obtain ⟨y2, hy2, rfl⟩ := Option.map_eq_some_iff.1 (show ((L.map (·.1))[q]?).map (fun b => Value.pointer (some ⟨b, 0, none⟩)) = some u2' by rw [← List.getElem?_map]; exact e2)
            rw [List.getElem?_map] at hy2
            obtain ⟨p, hp, rfl⟩ := Option.map_eq_some_iff.1 hy2
            have c1m := HP.out.mint.cell 1
            simp only [List.getElem?_toArray, List.getElem?_cons_zero, List.getElem?_cons_succ] at c1m
            have hcp := HP.out.cp q p hp
            rw [if_neg (by omega)] at hcp
            have HPR := hid (promiseF 1 p.1 p.2 0 false (fun _ => none) wr hcp)
            have HPP := hid hp
            clear hq e2 hy2 lb2 hp hcp
            go_wp2_with fail
            refine (HPR.out).mono ?_; rintro x w' ⟨rfl, hc', hg'⟩
            have HN2 := hid (HP.out.promise HPP.out hc' hg')
            clear hc' hg' c1m ca2
            go_wp2
            go_roundg (gk - 1)
            case measure => have := HQ.out; have := HLTQ.out; omega
            case rel => exact ⟨q + 1, by have := HQ.out; have := HLTQ.out; omega, by go_num, HN2⟩
          · obtain rfl : q = j := by have := HQ.out; omega
            have HRN := hid (readNone ⟨m, 0, none⟩ A2 q c2 (L.map (·.1)) wr (by omega) (Sl.of_own HP.out.own2) (fun b hb => by
             obtain ⟨p, hp, rfl⟩ := List.mem_map.1 hb
             obtain ⟨i, hi⟩ := List.getElem?_of_mem hp
             exact ⟨_, _, _, _, HP.out.cp i p hi, rfl⟩))
            clear hq hltq
            go_wp2_with fail
            refine (HRN.out).mono ?_; rintro x w7 ⟨rfl, b7⟩
            have HN7 := hid (HP.out.below b7)
            have c3m := HN7.out.mint.cell 3
            simp only [List.getElem?_toArray, List.getElem?_cons_zero, List.getElem?_cons_succ] at c3m
            clear b7
            go_wp2
            go_loopg [109] 1 (fun gk i wr => gk = 1 ∧ i = .int .i64 0 ∧ w7 = wr)
            case atStart => exact ⟨rfl, rfl, rfl⟩
            case round =>
             obtain ⟨_, rfl, hw7⟩ := hrel
             subst hw7
             go_wp2
             go_ret2
             exact ⟨m, sb, _, _, rfl, HN7.out⟩
end Go.Proofs.YtciadmjdadnolaaGreatDoor
/- Walks of Open where it refuses: a copy that nobody made, another number of copies, a copy twice. -/
namespace Go.Proofs.YtciadmjdadnolaaGreatDoor
open Go.RowKit Go.Maps
end Go.Proofs.YtciadmjdadnolaaGreatDoor
/- Walks of the rules of changes and of questions: maps by words. No condition. -/
namespace Go.Proofs.YtciadmjdadnolaaGreatDoor
open Go.RowKit Go.Maps
/-- What a list tells of words. -/
def asS (l : List (List UInt8 × Value)) : Value → Option Value
 | .string s => l.lookup s.data.toList
 | _ => none
theorem asS_nil (x : Value) : asS [] x = none := by
 unfold asS
 split <;> rfl
theorem put_asS (l : List (List UInt8 × Value)) (k : ByteArray) (v : Value) : putX (asS l) (.string k) v (asS ((k.data.toList, v) :: l)) := by
 refine ⟨by simp [asS], fun x hx => ?_⟩
 cases x with
 | string s =>
  have hne : ¬ s.data.toList = k.data.toList := fun e => hx (by
   have h1 : s.data = k.data := Array.toList_inj.1 e
   cases s; cases k; simp_all)
  have hb : (s.data.toList == k.data.toList) = false := by rw [beq_eq_false_iff_ne]; exact hne
  simp [asS, List.lookup, hb]
 | _ => rfl
/-- The rules. -/
def changesL : List (List UInt8 × Value) := [([98, 101, 116], .agg #[.int .i64 0, .int .i64 2, .func (.func 50) #[] #[], .nilFunc]), ([112, 97, 110], .agg #[.int .i64 0, .int .i64 4, .func (.func 49) #[] #[], .nilFunc]), ([98, 97, 116, 99, 104], .agg #[.int .i64 0, .int .i64 4, .func (.func 48) #[] #[], .nilFunc]), ([98, 101, 97, 116], .agg #[.int .i64 2, .int .i64 0, .func (.func 47) #[] #[], .nilFunc]), ([112, 108, 97, 121, 101, 114], .agg #[.int .i64 1, .int .i64 0, .func (.func 46) #[] #[], .nilFunc]), ([97, 98, 111, 118, 101], .agg #[.int .i64 2, .int .i64 0, .func (.func 45) #[] #[], .nilFunc]), ([109, 101, 100, 97, 108], .agg #[.int .i64 1, .int .i64 0, .func (.func 44) #[] #[], .nilFunc])]
set_option maxRecDepth 100000 in
set_option maxHeartbeats 4000000 in
theorem changesF (w : World) :
 Calls Tryz.prog 35 #[] w fun x w' => ∃ b, x = .returned (.map (some b)) ∧ MapX Tryz.prog 9 w' b (asS changesL) ∧ w.heap.size ≤ b ∧ Below w.heap.size w w' := by
 have hmm := @run_makeMap Tryz.prog
 have K : Keyed Tryz.prog 9 := string_keyed Tryz.underlying9
 have m0 : MapX Tryz.prog 9 (w.alloc (.map #[] 0)) w.heap.size (asS []) := (MapX.made w).congr fun x => (asS_nil x).symm
 have b0 : Below w.heap.size w (w.alloc (.map #[] 0)) := (Below.refl _ w).alloc (Nat.le_refl _) _
 obtain ⟨w1, r1, m1, g1⟩ := m0.update K Tryz.underlying94 (Go.WideMaps.keyOf_string_mk Tryz.underlying9 (by decide)) (put_asS _ ⟨#[109, 101, 100, 97, 108]⟩ (.agg #[.int .i64 1, .int .i64 0, .func (.func 44) #[] #[], .nilFunc]))
 have b1 := b0.grown g1 b0.size (fun k hk => by cases hk; exact Nat.le_refl _)
 obtain ⟨w2, r2, m2, g2⟩ := m1.update K Tryz.underlying94 (Go.WideMaps.keyOf_string_mk Tryz.underlying9 (by decide)) (put_asS _ ⟨#[97, 98, 111, 118, 101]⟩ (.agg #[.int .i64 2, .int .i64 0, .func (.func 45) #[] #[], .nilFunc]))
 have b2 := b1.grown g2 b1.size (fun k hk => by cases hk; exact Nat.le_refl _)
 obtain ⟨w3, r3, m3, g3⟩ := m2.update K Tryz.underlying94 (Go.WideMaps.keyOf_string_mk Tryz.underlying9 (by decide)) (put_asS _ ⟨#[112, 108, 97, 121, 101, 114]⟩ (.agg #[.int .i64 1, .int .i64 0, .func (.func 46) #[] #[], .nilFunc]))
 have b3 := b2.grown g3 b2.size (fun k hk => by cases hk; exact Nat.le_refl _)
 obtain ⟨w4, r4, m4, g4⟩ := m3.update K Tryz.underlying94 (Go.WideMaps.keyOf_string_mk Tryz.underlying9 (by decide)) (put_asS _ ⟨#[98, 101, 97, 116]⟩ (.agg #[.int .i64 2, .int .i64 0, .func (.func 47) #[] #[], .nilFunc]))
 have b4 := b3.grown g4 b3.size (fun k hk => by cases hk; exact Nat.le_refl _)
 obtain ⟨w5, r5, m5, g5⟩ := m4.update K Tryz.underlying94 (Go.WideMaps.keyOf_string_mk Tryz.underlying9 (by decide)) (put_asS _ ⟨#[98, 97, 116, 99, 104]⟩ (.agg #[.int .i64 0, .int .i64 4, .func (.func 48) #[] #[], .nilFunc]))
 have b5 := b4.grown g5 b4.size (fun k hk => by cases hk; exact Nat.le_refl _)
 obtain ⟨w6, r6, m6, g6⟩ := m5.update K Tryz.underlying94 (Go.WideMaps.keyOf_string_mk Tryz.underlying9 (by decide)) (put_asS _ ⟨#[112, 97, 110]⟩ (.agg #[.int .i64 0, .int .i64 4, .func (.func 49) #[] #[], .nilFunc]))
 have b6 := b5.grown g6 b5.size (fun k hk => by cases hk; exact Nat.le_refl _)
 obtain ⟨w7, r7, m7, g7⟩ := m6.update K Tryz.underlying94 (Go.WideMaps.keyOf_string_mk Tryz.underlying9 (by decide)) (put_asS _ ⟨#[98, 101, 116]⟩ (.agg #[.int .i64 0, .int .i64 2, .func (.func 50) #[] #[], .nilFunc]))
 have b7 := b6.grown g7 b6.size (fun k hk => by cases hk; exact Nat.le_refl _)
 have HM := hid m7
 have HB := hid b7
 clear m0 m1 m2 m3 m4 m5 m6 m7 b0 b1 b2 b3 b4 b5 b6 b7 g1 g2 g3 g4 g5 g6 g7
 go_enter Tryz.func35, Tryz.ntmps35
 go_wp2
 go_ret
 exact ⟨w.heap.size, rfl, HM.out, Nat.le_refl _, HB.out⟩
/-- The rules. -/
def questionsL : List (List UInt8 × Value) := [([101, 118, 97, 100, 101], .agg #[.int .i64 0, .int .i64 1, .nilFunc, .func (.func 87) #[] #[]]), ([108, 101, 97, 114, 110], .agg #[.int .i64 0, .int .i64 1, .nilFunc, .func (.func 86) #[] #[]]), ([116, 97, 108, 107], .agg #[.int .i64 0, .int .i64 1, .nilFunc, .func (.func 85) #[] #[]]), ([114, 105, 110, 103], .agg #[.int .i64 0, .int .i64 1, .nilFunc, .func (.func 84) #[] #[]]), ([112, 101, 103, 115], .agg #[.int .i64 0, .int .i64 2, .nilFunc, .func (.func 83) #[] #[]]), ([108, 105, 97, 114], .agg #[.int .i64 0, .int .i64 2, .nilFunc, .func (.func 82) #[] #[]]), ([112, 114, 105, 99, 101], .agg #[.int .i64 0, .int .i64 1, .nilFunc, .func (.func 81) #[] #[]]), ([98, 111, 117, 110, 100], .agg #[.int .i64 0, .int .i64 0, .nilFunc, .func (.func 80) #[] #[]]), ([110, 101, 101, 100], .agg #[.int .i64 0, .int .i64 0, .nilFunc, .func (.func 79) #[] #[]]), ([107, 105, 110, 103, 115], .agg #[.int .i64 0, .int .i64 0, .nilFunc, .func (.func 78) #[] #[]]), ([111, 114, 100, 101, 114], .agg #[.int .i64 0, .int .i64 0, .nilFunc, .func (.func 77) #[] #[]]), ([99, 104, 97, 110, 99, 101], .agg #[.int .i64 2, .int .i64 0, .nilFunc, .func (.func 76) #[] #[]]), ([119, 97, 121, 115], .agg #[.int .i64 0, .int .i64 0, .nilFunc, .func (.func 75) #[] #[]]), ([114, 111, 108, 108], .agg #[.int .i64 0, .int .i64 0, .nilFunc, .func (.func 74) #[] #[]])]
set_option maxRecDepth 100000 in
set_option maxHeartbeats 4000000 in
theorem questionsF (w : World) :
 Calls Tryz.prog 54 #[] w fun x w' => ∃ b, x = .returned (.map (some b)) ∧ MapX Tryz.prog 9 w' b (asS questionsL) ∧ w.heap.size ≤ b ∧ Below w.heap.size w w' := by
 have hmm := @run_makeMap Tryz.prog
 have K : Keyed Tryz.prog 9 := string_keyed Tryz.underlying9
 have m0 : MapX Tryz.prog 9 (w.alloc (.map #[] 0)) w.heap.size (asS []) := (MapX.made w).congr fun x => (asS_nil x).symm
 have b0 : Below w.heap.size w (w.alloc (.map #[] 0)) := (Below.refl _ w).alloc (Nat.le_refl _) _
 obtain ⟨w1, r1, m1, g1⟩ := m0.update K Tryz.underlying94 (Go.WideMaps.keyOf_string_mk Tryz.underlying9 (by decide)) (put_asS _ ⟨#[114, 111, 108, 108]⟩ (.agg #[.int .i64 0, .int .i64 0, .nilFunc, .func (.func 74) #[] #[]]))
 have b1 := b0.grown g1 b0.size (fun k hk => by cases hk; exact Nat.le_refl _)
 obtain ⟨w2, r2, m2, g2⟩ := m1.update K Tryz.underlying94 (Go.WideMaps.keyOf_string_mk Tryz.underlying9 (by decide)) (put_asS _ ⟨#[119, 97, 121, 115]⟩ (.agg #[.int .i64 0, .int .i64 0, .nilFunc, .func (.func 75) #[] #[]]))
 have b2 := b1.grown g2 b1.size (fun k hk => by cases hk; exact Nat.le_refl _)
 obtain ⟨w3, r3, m3, g3⟩ := m2.update K Tryz.underlying94 (Go.WideMaps.keyOf_string_mk Tryz.underlying9 (by decide)) (put_asS _ ⟨#[99, 104, 97, 110, 99, 101]⟩ (.agg #[.int .i64 2, .int .i64 0, .nilFunc, .func (.func 76) #[] #[]]))
 have b3 := b2.grown g3 b2.size (fun k hk => by cases hk; exact Nat.le_refl _)
 obtain ⟨w4, r4, m4, g4⟩ := m3.update K Tryz.underlying94 (Go.WideMaps.keyOf_string_mk Tryz.underlying9 (by decide)) (put_asS _ ⟨#[111, 114, 100, 101, 114]⟩ (.agg #[.int .i64 0, .int .i64 0, .nilFunc, .func (.func 77) #[] #[]]))
 have b4 := b3.grown g4 b3.size (fun k hk => by cases hk; exact Nat.le_refl _)
 obtain ⟨w5, r5, m5, g5⟩ := m4.update K Tryz.underlying94 (Go.WideMaps.keyOf_string_mk Tryz.underlying9 (by decide)) (put_asS _ ⟨#[107, 105, 110, 103, 115]⟩ (.agg #[.int .i64 0, .int .i64 0, .nilFunc, .func (.func 78) #[] #[]]))
 have b5 := b4.grown g5 b4.size (fun k hk => by cases hk; exact Nat.le_refl _)
 obtain ⟨w6, r6, m6, g6⟩ := m5.update K Tryz.underlying94 (Go.WideMaps.keyOf_string_mk Tryz.underlying9 (by decide)) (put_asS _ ⟨#[110, 101, 101, 100]⟩ (.agg #[.int .i64 0, .int .i64 0, .nilFunc, .func (.func 79) #[] #[]]))
 have b6 := b5.grown g6 b5.size (fun k hk => by cases hk; exact Nat.le_refl _)
 obtain ⟨w7, r7, m7, g7⟩ := m6.update K Tryz.underlying94 (Go.WideMaps.keyOf_string_mk Tryz.underlying9 (by decide)) (put_asS _ ⟨#[98, 111, 117, 110, 100]⟩ (.agg #[.int .i64 0, .int .i64 0, .nilFunc, .func (.func 80) #[] #[]]))
 have b7 := b6.grown g7 b6.size (fun k hk => by cases hk; exact Nat.le_refl _)
 obtain ⟨w8, r8, m8, g8⟩ := m7.update K Tryz.underlying94 (Go.WideMaps.keyOf_string_mk Tryz.underlying9 (by decide)) (put_asS _ ⟨#[112, 114, 105, 99, 101]⟩ (.agg #[.int .i64 0, .int .i64 1, .nilFunc, .func (.func 81) #[] #[]]))
 have b8 := b7.grown g8 b7.size (fun k hk => by cases hk; exact Nat.le_refl _)
 obtain ⟨w9, r9, m9, g9⟩ := m8.update K Tryz.underlying94 (Go.WideMaps.keyOf_string_mk Tryz.underlying9 (by decide)) (put_asS _ ⟨#[108, 105, 97, 114]⟩ (.agg #[.int .i64 0, .int .i64 2, .nilFunc, .func (.func 82) #[] #[]]))
 have b9 := b8.grown g9 b8.size (fun k hk => by cases hk; exact Nat.le_refl _)
 obtain ⟨w10, r10, m10, g10⟩ := m9.update K Tryz.underlying94 (Go.WideMaps.keyOf_string_mk Tryz.underlying9 (by decide)) (put_asS _ ⟨#[112, 101, 103, 115]⟩ (.agg #[.int .i64 0, .int .i64 2, .nilFunc, .func (.func 83) #[] #[]]))
 have b10 := b9.grown g10 b9.size (fun k hk => by cases hk; exact Nat.le_refl _)
 obtain ⟨w11, r11, m11, g11⟩ := m10.update K Tryz.underlying94 (Go.WideMaps.keyOf_string_mk Tryz.underlying9 (by decide)) (put_asS _ ⟨#[114, 105, 110, 103]⟩ (.agg #[.int .i64 0, .int .i64 1, .nilFunc, .func (.func 84) #[] #[]]))
 have b11 := b10.grown g11 b10.size (fun k hk => by cases hk; exact Nat.le_refl _)
 obtain ⟨w12, r12, m12, g12⟩ := m11.update K Tryz.underlying94 (Go.WideMaps.keyOf_string_mk Tryz.underlying9 (by decide)) (put_asS _ ⟨#[116, 97, 108, 107]⟩ (.agg #[.int .i64 0, .int .i64 1, .nilFunc, .func (.func 85) #[] #[]]))
 have b12 := b11.grown g12 b11.size (fun k hk => by cases hk; exact Nat.le_refl _)
 obtain ⟨w13, r13, m13, g13⟩ := m12.update K Tryz.underlying94 (Go.WideMaps.keyOf_string_mk Tryz.underlying9 (by decide)) (put_asS _ ⟨#[108, 101, 97, 114, 110]⟩ (.agg #[.int .i64 0, .int .i64 1, .nilFunc, .func (.func 86) #[] #[]]))
 have b13 := b12.grown g13 b12.size (fun k hk => by cases hk; exact Nat.le_refl _)
 obtain ⟨w14, r14, m14, g14⟩ := m13.update K Tryz.underlying94 (Go.WideMaps.keyOf_string_mk Tryz.underlying9 (by decide)) (put_asS _ ⟨#[101, 118, 97, 100, 101]⟩ (.agg #[.int .i64 0, .int .i64 1, .nilFunc, .func (.func 87) #[] #[]]))
 have b14 := b13.grown g14 b13.size (fun k hk => by cases hk; exact Nat.le_refl _)
 have HM := hid m14
 have HB := hid b14
 clear m0 m1 m2 m3 m4 m5 m6 m7 m8 m9 m10 m11 m12 m13 m14 b0 b1 b2 b3 b4 b5 b6 b7 b8 b9 b10 b11 b12 b13 b14 g1 g2 g3 g4 g5 g6 g7 g8 g9 g10 g11 g12 g13 g14
 go_enter Tryz.func54, Tryz.ntmps54
 go_wp2
 go_ret
 exact ⟨w.heap.size, rfl, HM.out, Nat.le_refl _, HB.out⟩
end Go.Proofs.YtciadmjdadnolaaGreatDoor
