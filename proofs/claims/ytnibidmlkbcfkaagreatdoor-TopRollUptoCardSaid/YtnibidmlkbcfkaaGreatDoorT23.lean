/- Texts of this proof, one behind the other; each says its condition at its head. -/
import Derived.Test.YtnibidmlkbcfkaaGreatDoorT22
import Derived.Test.YtnibidmlkbcfkaaGreatDoorT19
import Derived.Test.YtnibidmlkbcfkaaGreatDoorT4
namespace Go.Proofs.YtnibidmlkbcfkaaGreatDoor
/- Walk of bets.Sound at three worlds. Condition: bets that a table of three worlds takes. -/
section
open Go.RowKit Go.Maps
/-- What Sound hands back. -/
def SoundR (l : List (Int × Int)) (w : World) (e : Ending) (w' : World) : Prop := (match cornersL l with
 | [] => e = .returned (.tuple #[.slice none 0 0, .int .i64 5])
 | b :: _ => ∃ g, e = .returned (.tuple #[.slice (some ⟨g, 0, none⟩) 3 3, .int .i64 0]) ∧ Blk w' g 48 (flat (b.map tw)).toArray ∧ b.length = 3) ∧ Below w.heap.size w w'
set_option maxRecDepth 100000 in
set_option maxHeartbeats 2000000 in
theorem soundS (A : Option Addr) (n c : Nat) (l : List (Int × Int)) (w : World) (hs : Sl2 w A n c l) (hl : BetOk l) :
 Calls Tryz.prog 166 #[.int .i64 3, .slice A n c] w (SoundR l w) := by
 have HT := hid (Blk.new w 287 #[.int .i64 3, .slice A n c])
 have HB := hid ((Below.refl w.heap.size w).alloc (Nat.le_refl _) (.cells #[.int .i64 3, .slice A n c] 287))
 have HS := hid (hs.below HB.out)
 have HV := hid (validT A n c l _ HS.out hl)
 have HC := hid fun W (hb : Below (w.alloc (.cells #[.int .i64 3, .slice A n c] 287)).heap.size (w.alloc (.cells #[.int .i64 3, .slice A n c] 287)) W) => cornersS A n c l W (HS.out.below hb) hl
 clear hs hl
 go_enter Tryz.func166, Tryz.ntmps166
 go_wp2_with fail
 refine (HV.out).mono ?_; rintro e w1 ⟨rfl, b1⟩
 have t0 := (HT.out.keep b1).cell 0
 have t1 := (HT.out.keep b1).cell 1
 have HC1 := hid (HC.out _ b1)
 have HB1 := hid (below_call HB.out b1 HB.out.size)
 simp only [List.getElem?_toArray, List.getElem?_cons_zero, List.getElem?_cons_succ] at t0 t1
 clear HV HC b1
 go_wp2_with fail
 refine (HC1.out).mono ?_; rintro e w2 ⟨O, oc, vs, rfl, ho, hv, b2⟩
 have HB2 := hid (below_call HB1.out b2 HB1.out.size)
 have HO := hid ho
 have HVV := hid hv
 clear HC1 t0 t1 ho hv b2
 cases hc : cornersL l with
 | nil =>
  have HN := hid hc
  clear hc
  go_wp2
  go_ret2
  unfold SoundR
  rw [HN.out]
  exact ⟨rfl, HB2.out⟩
 | cons b bs =>
  rw [hc] at HO HVV
  have HN := hid hc
  obtain ⟨v0, vs', rfl⟩ : ∃ v vs', vs = v :: vs' := by
   have := HVV.out.1
   match vs, this with
   | v :: vs', _ => exact ⟨v, vs', rfl⟩
  obtain ⟨g, rfl, hg, hb3⟩ := HVV.out.2 0 v0 b rfl rfl
  obtain ⟨q, rfl⟩ := own_some HO.out (by simp)
  have c0 := own_at HO.out (i := 0) (u := .slice (some ⟨g, 0, none⟩) 3 3) rfl
  have HG := hid (And.intro hg hb3)
  clear hc hg hb3 HVV
  go_wp2
  go_ret2
  unfold SoundR
  rw [HN.out]
  exact ⟨⟨g, rfl, HG.out.1, HG.out.2⟩, HB2.out⟩
end
/- Walk of bet at any state of a call's own with bets that may stand. Condition: the line's numbers are small and lie below it. -/
section
open Go.RowKit Go.Maps
theorem nodup_le : ∀ (n : Nat) (l : List Int), l.Nodup → (∀ x ∈ l, 1 ≤ x ∧ x ≤ n) → l.length ≤ n
 | 0, l, _, h => by
  cases l with
  | nil => exact Nat.le_refl _
  | cons x l => have := h x (by simp); omega
 | n + 1, l, hd, h => by
  by_cases hm : ((n + 1 : Nat) : Int) ∈ l
  · have h1 := nodup_le n (l.erase ((n + 1 : Nat) : Int)) (hd.erase _) (fun x hx => by
     have h2 := (hd.mem_erase_iff).1 hx
     have h3 := h x h2.2
     have h4 := h2.1
     omega)
    have h5 := List.length_erase_of_mem hm
    omega
  · have h1 := nodup_le n l hd (fun x hx => by
     have h3 := h x hx
     have h4 : x ≠ ((n + 1 : Nat) : Int) := fun e => hm (e ▸ hx)
     omega)
    omega
/-- Bets that a mint's books may hold. -/
def BetI (l : List (Int × Int)) : Prop := (∀ u ∈ l, 1 ≤ u.1 ∧ u.1 ≤ 6 ∧ 0 ≤ u.2 ∧ u.2 ≤ 12) ∧ (l.map (·.1)).Nodup
theorem BetI.snoc {l : List (Int × Int)} (h : BetI l) {v c : Int} (h1 : 1 ≤ v) (h2 : v ≤ 6) (h3 : 0 ≤ c) (h4 : c ≤ 12) (hn : l.any (fun y => v == y.1) = false) : BetI (l ++ [(v, c)]) := by
 refine ⟨fun u hu => ?_, ?_⟩
 · rcases List.mem_append.1 hu with hu | hu
   · exact h.1 u hu
   · simp at hu
     subst hu
     exact ⟨h1, h2, h3, h4⟩
 · rw [List.map_append, List.nodup_append]
   refine ⟨h.2, by simp, fun x hx y hy e => ?_⟩
   simp at hy
   subst hy e
   obtain ⟨u, hu, rfl⟩ := List.mem_map.1 hx
   rw [List.any_eq_false] at hn
   exact hn u hu (by simp)
theorem BetI.len {l : List (Int × Int)} (h : BetI l) : l.length ≤ 6 := by
 have := nodup_le 6 (l.map (·.1)) h.2 (fun x hx => by obtain ⟨u, hu, rfl⟩ := List.mem_map.1 hx; have := h.1 u hu; omega)
 simpa using this
theorem BetI.ok {l : List (Int × Int)} (h : BetI l) (h0 : 1 ≤ l.length) : BetOk l :=
 ⟨h0, h.len, fun u hu => by have := h.1 u hu; omega, h.2⟩
theorem StO.away {X W : World} {B b : Nat} {m u p t e r : Value} {s : Bk} {n : Nat} {xs : List Value} (h : StO X B b m u p t e s) (hr : X.ownsRow B 182 2 r n xs) (hap : ApV e r) (hg : X.grownBy W r.ownBlock) : StO W B b m u p t e s :=
 ⟨h.blk.grown hg (own_ne_blk hr h.blk (by decide)), h.med.kept hg (own_apart2 h.med hr (by decide)), h.abv.kept hg (own_apart2 h.abv hr (by decide)), h.pla.kept hg (own_apart2 h.pla hr (by decide)), h.bea.kept hg (own_apart2 h.bea hr (by decide)), h.bet.kept hg hap, h.low, h.mp, h.pm, h.ut, h.tu⟩
/-- bet on a mint's books; and the answer's number. -/
def betL (s : Bk) (v k : Int) : Bk × Nat :=
 if v < 1 ∨ 6 < v ∨ 12 < k then (s, 2) else if s.bets.any (fun y => v == y.1) = true then (s, 5) else if (cornersL (s.bets ++ [(v, k)])).isEmpty = true then (s, 5) else ({ s with bets := s.bets ++ [(v, k)] }, 0)
set_option maxRecDepth 100000 in
set_option maxHeartbeats 4000000 in
theorem betAny2 (w : World) (B b : Nat) (m u p t e : Value) (s : Bk) (v k : Int) (D : Option Addr) (n c : Nat) (ln : Value) (h : StO w B b m u p t e s) (hk : 0 ≤ v ∧ v < 1000 ∧ 0 ≤ k ∧ k < 1000) (hbi : BetI s.bets) (hs : Sl w D n c (intV [v, k])) (hln : ∃ a k d, ln = .slice a k d) :
 Calls Tryz.prog 126 #[.pointer (some ⟨b, 0, none⟩), .agg #[ln, .slice D n c]] w fun r w' => ∃ e', r = .returned (.int .i64 ((betL s v k).2 : Nat)) ∧ StO w' B b m u p t e' (betL s v k).1 ∧ Below B w w' := by
 obtain rfl : n = 2 := by have := hs.len; simp [intV] at this; exact this.symm
 obtain ⟨ab, ao, y, rfl, lb, e1, ca⟩ := hs.at (k := 0) (by omega)
 obtain ⟨ab', ao', y1, hh1, lb1, e11, ca1⟩ := hs.at (k := 1) (by omega)
 cases hh1
 simp only [intV, List.map_cons, List.map_nil, List.getElem?_cons_zero, List.getElem?_cons_succ, Option.some.injEq, Nat.add_zero] at e1 e11 ca
 subst e1 e11
 obtain ⟨la, lk, ld, rfl⟩ := hln
 have hBw : B ≤ w.heap.size := by have := h.low; have := h.blk.lt; omega
 have HK := hid hk
 have HBI := hid hbi
 have HX := hid ((Below.refl w.heap.size w).alloc (Nat.le_refl _) (.cells #[.slice la lk ld, .slice (some ⟨ab, ao, none⟩) 2 c] 124))
 have HBX := hid (Blk.new w 124 #[.slice la lk ld, .slice (some ⟨ab, ao, none⟩) 2 c])
 have HS := hid (h.below HX.out)
 have HLO := hid h.low
 have HC0 := hid (cell_keep HX.out ca)
 have HC1 := hid (cell_keep HX.out ca1)
 have HBW := hid hBw
 obtain ⟨E, ec, rfl⟩ := own_form h.bet
 clear h hs lb lb1 ca ca1 hBw hk hbi
 go_enter Tryz.func126, Tryz.ntmps126
 go_wp2_with fail
 generalize w.alloc (.cells #[.slice la lk ld, .slice (some ⟨ab, ao, none⟩) 2 c] 124) = X at *
 have HX := hid (HX.out.mono HBW.out)
 go_cut [5] from 9 to 17 (fun q wx => ∃ kb, q = .pointer (some ⟨kb, 0, none⟩) ∧ Hid (StO wx B b m u p t (.slice E s.bets.length ec) s) ∧ Hid (Blk wx kb 182 #[.int .i64 v, .int .i64 k]) ∧ Hid (¬ kb = b) ∧ Hid (Below B w wx))
 case first =>
  refine wp_region_held_drew (S := (fun w' => w'.cell? ⟨w.heap.size, 1, none⟩ = some (.slice (some ⟨ab, ao, none⟩) 2 c) ∧ w'.cell? ⟨ab, ao, none⟩ = some (.int .i64 v) ∧ w'.cell? ⟨ab, ao + 1, none⟩ = some (.int .i64 k))) (by kernel_rfl) (by (try dsimp only); (first | exact ⟨HBX.out.cell 1, HC0.out, HC1.out⟩ | exact HKP.out)) (fun hHeld => ?_)
  have HS := hid (HS.out.below (Below.refl _ X).drew); have HBX := hid HBX.out.drew; have HX := hid HX.out.drew
  have HC0 := hid (cell_keep (Below.refl _ X).drew HC0.out); have HC1 := hid (cell_keep (Below.refl _ X).drew HC1.out)
  generalize X.drew = X1 at *
  obtain ⟨X, rfl⟩ : ∃ Y, Y = X1 := ⟨X1, rfl⟩
  refine tk ?_ 0 (some 9) rfl rfl ?_ ?_; rotate_left; · (intro w hSw; (try dsimp only at hSw); go_simp <;> with_reducible rfl)
  try simp only [Act.put,qA,qB,qC]
  refine tk ?_ 1 (some 10) rfl rfl ?_ ?_; rotate_left; · (intro w hSw; (try dsimp only at hSw); go_simp <;> with_reducible rfl)
  try simp only [Act.put,qA,qB,qC]
  refine tk ?_ 2 (some 11) rfl rfl ?_ ?_; rotate_left; · (intro w hSw; (try dsimp only at hSw); go_simp <;> with_reducible rfl)
  try simp only [Act.put,qA,qB,qC]
  refine tk ?_ 3 (some 12) rfl rfl ?_ ?_; rotate_left; · (intro w hSw; (try dsimp only at hSw); go_simp <;> with_reducible rfl)
  try simp only [Act.put,qA,qB,qC]
  refine tk ?_ 4 (some 13) rfl rfl ?_ ?_; rotate_left; · (intro w hSw; (try dsimp only at hSw); go_simp <;> with_reducible rfl)
  try simp only [Act.put,qA,qB,qC]
  refine tk ?_ 5 (some 14) rfl rfl ?_ ?_; rotate_left; · (intro w hSw; (try dsimp only at hSw); go_simp <;> with_reducible rfl)
  try simp only [Act.put,qA,qB,qC]
  refine tk ?_ 6 (some 15) rfl rfl ?_ ?_; rotate_left; · (intro w hSw; (try dsimp only at hSw); go_simp <;> with_reducible rfl)
  try simp only [Act.put,qA,qB,qC]
  refine tk ?_ 7 (some 16) rfl rfl ?_ ?_; rotate_left; · (intro w hSw; (try dsimp only at hSw); go_simp <;> with_reducible rfl)
  try simp only [Act.put,qA,qB,qC]
  refine tk ?_ 8 (some 17) rfl rfl ?_ ?_; rotate_left; · (intro w hSw; (try dsimp only at hSw); go_simp <;> with_reducible rfl)
  try simp only [Act.put,qA,qB,qC]
  refine st 9 rfl fun K hK => ?_
  go_simp
  have HKP := hid (And.intro (cell_keep ((Below.refl _ X).alloc (Nat.le_refl _) (.cells #[.int .i64 0, .int .i64 0] 182)) (HBX.out.cell 1)) (And.intro (cell_keep ((Below.refl _ X).alloc (Nat.le_refl _) (.cells #[.int .i64 0, .int .i64 0] 182)) HC0.out) (cell_keep ((Below.refl _ X).alloc (Nat.le_refl _) (.cells #[.int .i64 0, .int .i64 0] 182)) HC1.out)))
  clear hHeld
  refine hK.out _ _ ?_ (fun hHeld => ?_); · ((try dsimp only); (first | exact ⟨HBX.out.cell 1, HC0.out, HC1.out⟩ | exact HKP.out))
  clear hK K
  try simp only [Act.put,qA,qB,qC]
  refine st 10 rfl fun K hK => ?_
  go_simp
  have bb := (Below.refl X.heap.size X).alloc (Nat.le_refl _) (.cells #[.int .i64 v, .int .i64 k] 182)
  have HKB := hid (Blk.new X 182 #[.int .i64 v, .int .i64 k])
  have HKN := hid (show ¬ X.heap.size = b from by have := HS.out.blk.lt; omega)
  have HS := hid (HS.out.below bb); have HBX := hid (HBX.out.keep bb)
  have HX := hid (below_call HX.out bb (Nat.le_trans HBW.out HX.out.size))
  have HC0 := hid (cell_keep bb HC0.out); have HC1 := hid (cell_keep bb HC1.out)
  clear bb HKP hHeld
  obtain ⟨kb, hkb⟩ : ∃ kb, kb = X.heap.size := ⟨_, rfl⟩
  rw [← hkb] at HKB HKN ⊢
  clear hkb
  generalize X.alloc (.cells #[.int .i64 v, .int .i64 k] 182) = X1 at *
  obtain ⟨X, rfl⟩ : ∃ Y, Y = X1 := ⟨X1, rfl⟩
  refine hK.out _ _ ?_ (fun hHeld => ?_); · ((try dsimp only); (first | exact ⟨HBX.out.cell 1, HC0.out, HC1.out⟩ | exact HKP.out))
  clear hK K
  try simp only [Act.put,qA,qB,qC]
  refine wpAnyH_done (by kernel_rfl) ?_ _
  go_wp2_with fail
  go_meet
  case rel => exact ⟨kb, rfl, HS, HKB, HKN, HX⟩
 case rest =>
  obtain ⟨kb, rfl, HS, HKB, HNK, HX⟩ := hcut
  obtain ⟨X, rfl⟩ : ∃ Y, Y = wc := ⟨wc, rfl⟩
  obtain ⟨i0, hi0, hz0, hz1, hzz⟩ := info_parts TB.inf
  have hbl := HBI.out.len
  go_wp2_with fail
  go_cut [6] from 18 to 25 (fun q wx => ∃ g gc, q = .slice (some ⟨g, 0, none⟩) (s.bets.length + 1) gc ∧ Hid (wx.ownsRow B 182 2 (.slice (some ⟨g, 0, none⟩) (s.bets.length + 1) gc) (s.bets.length + 1) (flat (s.bets ++ [(v, k)]))) ∧ Hid (StO wx B b m u p t (.slice E s.bets.length ec) s) ∧ Hid (Blk wx kb 182 #[.int .i64 v, .int .i64 k]) ∧ Hid (Below B w wx))
  case first =>
   refine wp_region_held_drew (S := (fun w' => w'.cell? ⟨b, 9, none⟩ = some (.slice E s.bets.length ec) ∧ w'.cell? ⟨kb, 0, none⟩ = some (.int .i64 v) ∧ w'.cell? ⟨kb, 1, none⟩ = some (.int .i64 k))) (by kernel_rfl) (by (try dsimp only); (exact ⟨HS.out.blk.cell 9, HKB.out.cell 0, HKB.out.cell 1⟩)) (fun hHeld => ?_)
   have HS := hid (HS.out.below (Below.refl _ X).drew); have HKB := hid HKB.out.drew; have HX := hid HX.out.drew
   generalize X.drew = X1 at *
   obtain ⟨X, rfl⟩ : ∃ Y, Y = X1 := ⟨X1, rfl⟩
   refine tk ?_ 0 (some 18) rfl rfl ?_ ?_; rotate_left; · (intro w hSw; (try dsimp only at hSw); go_simp <;> with_reducible rfl)
   try simp only [Act.put,qA,qB,qC]
   refine tk ?_ 1 (some 19) rfl rfl ?_ ?_; rotate_left; · (intro w hSw; (try dsimp only at hSw); go_simp <;> with_reducible rfl)
   try simp only [Act.put,qA,qB,qC]
   refine tk ?_ 2 (some 20) rfl rfl ?_ ?_; rotate_left; · (intro w hSw; (try dsimp only at hSw); go_simp <;> with_reducible rfl)
   try simp only [Act.put,qA,qB,qC]
   refine tk ?_ 3 (some 21) rfl rfl ?_ ?_; rotate_left; · (intro w hSw; (try dsimp only at hSw); go_simp <;> with_reducible rfl)
   try simp only [Act.put,qA,qB,qC]
   refine tk ?_ 5 (some 23) rfl rfl ?_ ?_; rotate_left; · (intro w hSw; (try dsimp only at hSw); go_simp <;> with_reducible rfl)
   try simp only [Act.put,qA,qB,qC]
   refine wpAnyH_ready (rs := [4, 6]) (by kernel_rfl) (by simp) ?_
   refine AllReadyH.cons rfl (fun K hK => ?_) (AllReadyH.cons rfl (fun K hK => ?_) (AllReadyH.nil))
   · go_simp
     refine (cloneB E s.bets.length ec s.bets (by omega) X (Sl2.of_own HS.out.bet)).mono ?_; rintro e' X1 ⟨A', c', rfl, ho, bb⟩
     have HAP := hid (ap_of HS.out.bet ho)
     have HO := hid (own_more ho (Nat.le_trans HBW.out HX.out.size))
     have HKA := hid (show (Value.slice A' s.bets.length c').ownBlock ≠ some kb from fun e' => by have := (ho.lt _ e').1; have := HKB.out.lt; omega)
     try have HTA := hid (show (Value.slice A' s.bets.length c').ownBlock ≠ some tb from fun e' => by have := (ho.lt _ e').1; have := HT.out.lt; omega)
     have HS := hid (HS.out.below bb); have HKB := hid (HKB.out.keep bb)
     have HX := hid (below_call HX.out bb (Nat.le_trans HBW.out HX.out.size))
     try have HT := hid (HT.out.keep bb)
     clear bb hHeld ho
     obtain ⟨X, rfl⟩ : ∃ Y, Y = X1 := ⟨X1, rfl⟩
     refine hK.out _ _ ?_ (fun hHeld => ?_); · ((try dsimp only); (exact ⟨HS.out.blk.cell 9, HKB.out.cell 0, HKB.out.cell 1⟩))
     clear hK K
     try simp only [Act.put,qA,qB,qC]
     refine st 6 rfl fun K hK => ?_
     go_simp
     have bb := (Below.refl X.heap.size X).alloc (Nat.le_refl _) (.cells #[.int .i64 v, .int .i64 k] 182)
     have HT := hid (Blk.new X 182 #[.int .i64 v, .int .i64 k])
     have HS := hid (HS.out.below bb); have HKB := hid (HKB.out.keep bb)
     try have HO := hid (own_below HO.out bb)
     have HX := hid (below_call HX.out bb (Nat.le_trans HBW.out HX.out.size))
     clear bb hHeld
     obtain ⟨tb, htb⟩ : ∃ tb, tb = X.heap.size := ⟨_, rfl⟩
     rw [← htb] at HT ⊢
     clear htb
     generalize X.alloc (.cells #[.int .i64 v, .int .i64 k] 182) = X1 at *
     obtain ⟨X, rfl⟩ : ∃ Y, Y = X1 := ⟨X1, rfl⟩
     refine hK.out _ _ ?_ (fun hHeld => ?_); · ((try dsimp only); (exact ⟨HS.out.blk.cell 9, HKB.out.cell 0, HKB.out.cell 1⟩))
     clear hK K
     try simp only [Act.put,qA,qB,qC]
     refine st 7 rfl fun K hK => ?_
     refine step_append_lies _ rfl (.tmp 22) (.tmp 24) 147 rfl B 182 i0 (.agg #[.int .i64 0, .int .i64 0]) 2 16 TB.und hi0 hz0 hz1 hzz TB.zc TB.sz _ s.bets.length (flat s.bets) rfl HO.out ⟨tb, 0, none⟩ 1 1 (#[.int .i64 v, .int .i64 k] : Array Value).toList rfl rfl (World.news_of_block HT.out) (by simp [Value.oneCell']) (by decide) (by unfold maxLen; omega) (by omega) (Nat.le_trans HBW.out HX.out.size) _ rfl ?_
     intro g gc X1 how hgr _ _
     show K (Act.put _ (some 25) _) X1
     have HO2 := hid (show X1.ownsRow B 182 2 (.slice (some ⟨g, 0, none⟩) (s.bets.length + 1) gc) (s.bets.length + 1) (flat (s.bets ++ [(v, k)])) from by have h2 := how; unfold flat at *; rw [List.flatMap_append]; simpa using h2)
     have HS := hid (HS.out.away HO.out HAP.out.1 hgr)
     have HKB := hid (HKB.out.grown hgr (fun e' => HKA.out e'.symm))
     have HX := hid (HX.out.grown hgr (Nat.le_trans HBW.out HX.out.size) (fun k hk => (HO.out.lt k hk).1))
     clear how hgr hHeld HO HT
     obtain ⟨X, rfl⟩ : ∃ Y, Y = X1 := ⟨X1, rfl⟩
     refine hK.out _ _ ?_ (fun hHeld => ?_); · ((try dsimp only); (exact ⟨HS.out.blk.cell 9, HKB.out.cell 0, HKB.out.cell 1⟩))
     clear hK K
     try simp only [Act.put, List.setIfInBounds_toArray]
     refine tk ?_ 8 (some 6) rfl rfl ?_ ?_; rotate_left; · (intro w hSw; (try dsimp only at hSw); go_simp <;> with_reducible rfl)
     try simp only [Act.put]
     refine wpAnyH_done (by kernel_rfl) ?_ _
     go_wp2_with fail
     go_meet
     case rel => exact ⟨g, gc, rfl, HO2, HS, HKB, HX⟩
   · go_simp
     have bb := (Below.refl X.heap.size X).alloc (Nat.le_refl _) (.cells #[.int .i64 v, .int .i64 k] 182)
     have HT := hid (Blk.new X 182 #[.int .i64 v, .int .i64 k])
     have HS := hid (HS.out.below bb); have HKB := hid (HKB.out.keep bb)
     try have HO := hid (own_below HO.out bb)
     have HX := hid (below_call HX.out bb (Nat.le_trans HBW.out HX.out.size))
     clear bb hHeld
     obtain ⟨tb, htb⟩ : ∃ tb, tb = X.heap.size := ⟨_, rfl⟩
     rw [← htb] at HT ⊢
     clear htb
     generalize X.alloc (.cells #[.int .i64 v, .int .i64 k] 182) = X1 at *
     obtain ⟨X, rfl⟩ : ∃ Y, Y = X1 := ⟨X1, rfl⟩
     refine hK.out _ _ ?_ (fun hHeld => ?_); · ((try dsimp only); (exact ⟨HS.out.blk.cell 9, HKB.out.cell 0, HKB.out.cell 1⟩))
     clear hK K
     try simp only [Act.put,qA,qB,qC]
     refine st 4 rfl fun K hK => ?_
     go_simp
     refine (cloneB E s.bets.length ec s.bets (by omega) X (Sl2.of_own HS.out.bet)).mono ?_; rintro e' X1 ⟨A', c', rfl, ho, bb⟩
     have HAP := hid (ap_of HS.out.bet ho)
     have HO := hid (own_more ho (Nat.le_trans HBW.out HX.out.size))
     have HKA := hid (show (Value.slice A' s.bets.length c').ownBlock ≠ some kb from fun e' => by have := (ho.lt _ e').1; have := HKB.out.lt; omega)
     try have HTA := hid (show (Value.slice A' s.bets.length c').ownBlock ≠ some tb from fun e' => by have := (ho.lt _ e').1; have := HT.out.lt; omega)
     have HS := hid (HS.out.below bb); have HKB := hid (HKB.out.keep bb)
     have HX := hid (below_call HX.out bb (Nat.le_trans HBW.out HX.out.size))
     try have HT := hid (HT.out.keep bb)
     clear bb hHeld ho
     obtain ⟨X, rfl⟩ : ∃ Y, Y = X1 := ⟨X1, rfl⟩
     refine hK.out _ _ ?_ (fun hHeld => ?_); · ((try dsimp only); (exact ⟨HS.out.blk.cell 9, HKB.out.cell 0, HKB.out.cell 1⟩))
     clear hK K
     try simp only [Act.put,qA,qB,qC]
     refine st 7 rfl fun K hK => ?_
     refine step_append_lies _ rfl (.tmp 22) (.tmp 24) 147 rfl B 182 i0 (.agg #[.int .i64 0, .int .i64 0]) 2 16 TB.und hi0 hz0 hz1 hzz TB.zc TB.sz _ s.bets.length (flat s.bets) rfl HO.out ⟨tb, 0, none⟩ 1 1 (#[.int .i64 v, .int .i64 k] : Array Value).toList rfl rfl (World.news_of_block HT.out) (by simp [Value.oneCell']) (by decide) (by unfold maxLen; omega) (by omega) (Nat.le_trans HBW.out HX.out.size) _ rfl ?_
     intro g gc X1 how hgr _ _
     show K (Act.put _ (some 25) _) X1
     have HO2 := hid (show X1.ownsRow B 182 2 (.slice (some ⟨g, 0, none⟩) (s.bets.length + 1) gc) (s.bets.length + 1) (flat (s.bets ++ [(v, k)])) from by have h2 := how; unfold flat at *; rw [List.flatMap_append]; simpa using h2)
     have HS := hid (HS.out.away HO.out HAP.out.1 hgr)
     have HKB := hid (HKB.out.grown hgr (fun e' => HKA.out e'.symm))
     have HX := hid (HX.out.grown hgr (Nat.le_trans HBW.out HX.out.size) (fun k hk => (HO.out.lt k hk).1))
     clear how hgr hHeld HO HT
     obtain ⟨X, rfl⟩ : ∃ Y, Y = X1 := ⟨X1, rfl⟩
     refine hK.out _ _ ?_ (fun hHeld => ?_); · ((try dsimp only); (exact ⟨HS.out.blk.cell 9, HKB.out.cell 0, HKB.out.cell 1⟩))
     clear hK K
     try simp only [Act.put, List.setIfInBounds_toArray]
     refine tk ?_ 8 (some 6) rfl rfl ?_ ?_; rotate_left; · (intro w hSw; (try dsimp only at hSw); go_simp <;> with_reducible rfl)
     try simp only [Act.put]
     refine wpAnyH_done (by kernel_rfl) ?_ _
     go_wp2_with fail
     go_meet
     case rel => exact ⟨g, gc, rfl, HO2, HS, HKB, HX⟩
  case rest =>
   obtain ⟨g, gc, rfl, HO, HS, HKB, HX⟩ := hcut
   have k0 := HKB.out.cell 0
   have k1 := HKB.out.cell 1
   have z9 := HS.out.blk.cell 9
   simp only [stV, List.getElem?_toArray, List.getElem?_cons_zero, List.getElem?_cons_succ] at k0 k1 z9
   have he : ∀ args W, (callFunc 165 args).run Tryz.prog W = .ok (.enter 165 args) W := fun args W => enters Tryz.func165 (by kernel_rfl) rfl args W
   clear hi0 hz0 hz1 hzz
   by_cases hr1 : v < 1
   · have HM := hid (show betL s v k = (s, 2) by unfold betL; rw [if_pos (.inl hr1)])
     go_wp2
     go_ret
     rw [HM.out]
     first | exact ⟨rfl, ⟨_, HS.out⟩, HX.out⟩ | exact ⟨_, rfl, HS.out, HX.out⟩
   · by_cases hr2 : 6 < v
     · have HM := hid (show betL s v k = (s, 2) by unfold betL; rw [if_pos (.inr (.inl hr2))])
       go_wp2
       go_ret
       rw [HM.out]
       first | exact ⟨rfl, ⟨_, HS.out⟩, HX.out⟩ | exact ⟨_, rfl, HS.out, HX.out⟩
     · by_cases hr3 : 12 < k
       · have HM := hid (show betL s v k = (s, 2) by unfold betL; rw [if_pos (.inr (.inr hr3))])
         go_wp2
         go_ret
         rw [HM.out]
         first | exact ⟨rfl, ⟨_, HS.out⟩, HX.out⟩ | exact ⟨_, rfl, HS.out, HX.out⟩
       · have HNR := hid (show ¬ (v < 1 ∨ 6 < v ∨ 12 < k) by omega)
         have HCB := hid (betAny 165 [.pointer (some ⟨kb, 0, none⟩)] E s.bets.length ec s.bets (fun y => v == y.1) wc _ rfl (Sl2.of_own HS.out.bet) (fun u _ W hW => sameEv2 u kb v W (cell_keep hW (HKB.out.cell 0))) he (Nat.le_refl 1))
         go_wp2_with fail
         refine (HCB.out).mono ?_; rintro r w5 ⟨rfl, bb⟩
         have HO := hid (own_below HO.out bb)
         have HS := hid (HS.out.below bb)
         have HX := hid (below_call HX.out bb (Nat.le_trans HBW.out HX.out.size))
         clear bb k0 k1 z9 he HCB
         cases hany : s.bets.any (fun y => v == y.1) with
         | true =>
          have HM := hid (show betL s v k = (s, 5) by unfold betL; rw [if_neg HNR.out, if_pos hany])
          go_wp2
          go_ret
          rw [HM.out]
          first | exact ⟨rfl, ⟨_, HS.out⟩, HX.out⟩ | exact ⟨_, rfl, HS.out, HX.out⟩
         | false =>
          have HSO := hid (soundS (some ⟨g, 0, none⟩) (s.bets.length + 1) gc (s.bets ++ [(v, k)]) w5 (Sl2.of_own HO.out) ((HBI.out.snoc (by omega) (by omega) HK.out.2.2.1 (by omega) hany).ok (by simp)))
          unfold SoundR at HSO
          have HNA := hid hany
          clear hany
          cases hcl : cornersL (s.bets ++ [(v, k)]) with
          | nil =>
           have HM := hid (show betL s v k = (s, 5) by unfold betL; rw [if_neg HNR.out, if_neg (by rw [HNA.out]; decide), if_pos (by rw [hcl]; rfl)])
           simp only [hcl] at HSO
           clear hcl
           go_wp2_with fail
           refine (HSO.out).mono ?_; rintro r w6 ⟨rfl, bb⟩
           have HS := hid (HS.out.below bb)
           have HX := hid (below_call HX.out bb (Nat.le_trans HBW.out HX.out.size))
           clear bb HSO
           go_wp2
           go_ret
           rw [HM.out]
           first | exact ⟨rfl, ⟨_, HS.out⟩, HX.out⟩ | exact ⟨_, rfl, HS.out, HX.out⟩
          | cons q qs =>
           have HM := hid (show betL s v k = ({ s with bets := s.bets ++ [(v, k)] }, 0) by unfold betL; rw [if_neg HNR.out, if_neg (by rw [HNA.out]; decide), if_neg (by rw [hcl]; simp)])
           simp only [hcl] at HSO
           clear hcl
           go_wp2_with fail
           refine (HSO.out).mono ?_; rintro r w6 ⟨⟨gq, rfl, _, _⟩, bb⟩
           have HO := hid (own_below HO.out bb)
           have HS := hid (HS.out.below bb)
           have HX := hid (below_call HX.out bb (Nat.le_trans HBW.out HX.out.size))
           have HP := hid (HS.out.putBet (l := s.bets ++ [(v, k)]) (v' := .slice (some ⟨g, 0, none⟩) (s.bets.length + 1) gc) (grown_refl _ _) (by have h2 := HO.out; rwa [show (s.bets ++ [(v, k)]).length = s.bets.length + 1 by simp]))
           clear bb HSO
           have z9 := HP.out.1.cell 9
           have f9 := HP.out.1.free 9
           simp only [stV, List.getElem?_toArray, List.getElem?_cons_zero, List.getElem?_cons_succ] at z9
           go_wp2
           go_ret
           rw [HM.out]
           first | exact ⟨rfl, ⟨_, HP.out.2⟩, HX.out.setCell (p := ⟨b, 9, none⟩) HLO.out _⟩ | exact ⟨_, rfl, HP.out.2, HX.out.setCell (p := ⟨b, 9, none⟩) HLO.out _⟩
end
/- Walk of state.do at any text, over a contract of the change that its word names. Conditions: the text is short of the shelf's bound; the library's variables stand. -/
section
open Go.RowKit Go.Maps
theorem StO.more {w : World} {B B' b : Nat} {m u p t e : Value} {s : Bk} (h : StO w B b m u p t e s) (hb : B' ≤ B) : StO w B' b m u p t e s :=
 ⟨h.blk, own_more h.med hb, own_more h.abv hb, own_more h.pla hb, own_more h.bea hb, own_more h.bet hb, Nat.le_trans hb h.low, h.mp, h.pm, h.ut, h.tu⟩
/-- What a change does with a state of the call's own: q, if its number is 0; else that number. -/
def ChgC (k : FuncId) (s : Bk) (nm : List ByteArray) (nu : List Int) (q : Bk × Nat) : Prop :=
 ∀ (w : World) (B b : Nat) (m u p t e : Value) (A : Option Addr) (c : Nat) (D : Option Addr) (d : Nat), StO w B b m u p t e s → Sl w A nm.length c (strV nm) → Sl w D nu.length d (intV nu) →
  (∀ a, A = some a → a.block < B) → (∀ a, D = some a → a.block < B) → EnvN w → Tab w → 7 < B →
  Calls Tryz.prog k #[.pointer (some ⟨b, 0, none⟩), .agg #[.slice A nm.length c, .slice D nu.length d]] w fun r w' => ∃ m' u' p' t' e', r = .returned (.int .i64 (q.2 : Nat)) ∧ (q.2 = 0 → StO w' B b m' u' p' t' e' q.1) ∧ Below B w w'
/-- What do hands back: a state of the call's own, or the old one and a number. -/
def DoR (w : World) (sb : Nat) (q : Bk × Nat) (r : Ending) (w' : World) : Prop :=
 ((q.2 = 0 ∧ ∃ nb m u p t e, r = .returned (.tuple #[.pointer (some ⟨nb, 0, none⟩), .int .i64 0]) ∧ StO w' w.heap.size nb m u p t e q.1) ∨ (q.2 ≠ 0 ∧ r = .returned (.tuple #[.pointer (some ⟨sb, 0, none⟩), .int .i64 (q.2 : Nat)]))) ∧ Below w.heap.size w w'
set_option maxRecDepth 100000 in
set_option maxHeartbeats 4000000 in
theorem doOut (sb : Nat) (s : Bk) (x : ByteArray) (hs : x.size ≤ 100000000) (w : World) (hm : EnvN w) (hf : asS changesL (.string (wordOf x)) = none) :
 Calls Tryz.prog 53 #[.pointer (some ⟨sb, 0, none⟩), .string x] w fun r w' => DoR w sb (s, 3) r w' := by
 have HC := hid (changesF w)
 have HM := hid hm
 clear hm
 go_enter Tryz.func53, Tryz.ntmps53
 go_wp2_with fail
 refine (HC.out).mono ?_; rintro e w1 ⟨bm, rfl, hmap, hb, b1⟩
 have HB1 := hid b1
 have HF := hid (findOut bm (asS changesL) x hs w1 (HM.out.keep b1) hmap hf)
 unfold FndP at HF
 clear hmap hb b1 HC
 go_wp2_with fail
 refine (HF.out).mono ?_; rintro e w2 ⟨⟨A, c, D, d, rfl, _, _⟩, b2⟩
 have HB2 := hid (below_call HB1.out b2 HB1.out.size)
 clear b2 HF
 generalize ((readP 0 0 (parts x).tail).getD ([], [])).1.length = na at *
 generalize ((readP 0 0 (parts x).tail).getD ([], [])).2.length = nd at *
 go_wp2_with fail
 have b3 := (HB2.out.alloc HB2.out.size (.cells #[.int .i64 0, .int .i64 0, .nilFunc, .nilFunc] 122)).alloc (by have := HB2.out.size; simp; omega) (.cells #[.slice A na c, .slice D nd d] 124)
 have HB3 := hid b3
 clear b3
 go_wp2
 go_ret2
 exact ⟨.inr ⟨by simp, rfl⟩, HB3.out⟩
set_option maxRecDepth 100000 in
set_option maxHeartbeats 4000000 in
theorem doNot (r0 r1 : Nat) (k : FuncId) (hr : r0 + r1 ≤ 100) (sb : Nat) (s : Bk) (x : ByteArray) (hs : x.size ≤ 100000000) (w : World) (hm : EnvN w) (hf : asS changesL (.string (wordOf x)) = some (.agg #[.int .i64 (r0 : Nat), .int .i64 (r1 : Nat), .func (.func k) #[] #[], .nilFunc]))
 (hno : ((readP r0 r1 (parts x).tail).isSome && isLn x) = false) :
 Calls Tryz.prog 53 #[.pointer (some ⟨sb, 0, none⟩), .string x] w fun r w' => DoR w sb (s, 3) r w' := by
 have HC := hid (changesF w)
 have HM := hid hm
 clear hm
 go_enter Tryz.func53, Tryz.ntmps53
 go_wp2_with fail
 refine (HC.out).mono ?_; rintro e w1 ⟨bm, rfl, hmap, hb, b1⟩
 have HB1 := hid b1
 have HF := hid (findChg bm (asS changesL) x r0 r1 k hr hs w1 (HM.out.keep b1) hmap hf)
 rw [hno] at HF
 unfold FndP at HF
 clear hmap hb b1 HC
 go_wp2_with fail
 refine (HF.out).mono ?_; rintro e w2 ⟨⟨A, c, D, d, rfl, _, _⟩, b2⟩
 have HB2 := hid (below_call HB1.out b2 HB1.out.size)
 clear b2 HF
 generalize ((readP r0 r1 (parts x).tail).getD ([], [])).1.length = na at *
 generalize ((readP r0 r1 (parts x).tail).getD ([], [])).2.length = nd at *
 go_wp2_with fail
 have b3 := (HB2.out.alloc HB2.out.size (.cells #[.int .i64 (r0 : Nat), .int .i64 (r1 : Nat), .func (.func k) #[] #[], .nilFunc] 122)).alloc (by have := HB2.out.size; simp; omega) (.cells #[.slice A na c, .slice D nd d] 124)
 have HB3 := hid b3
 clear b3
 go_wp2
 go_ret2
 exact ⟨.inr ⟨by simp, rfl⟩, HB3.out⟩
set_option maxRecDepth 100000 in
set_option maxHeartbeats 4000000 in
theorem doYes (r0 r1 : Nat) (k : FuncId) (hr : r0 + r1 ≤ 100) (G : Nat → Prop) (sb : Nat) (s : Bk) (x : ByteArray) (nm : List ByteArray) (nu : List Int) (q : Bk × Nat) (hs : x.size ≤ 100000000) (w : World) (hm : EnvN w) (hT : Tab w) (hst : StR w G sb s) (hsm : BkS s)
 (hf : asS changesL (.string (wordOf x)) = some (.agg #[.int .i64 (r0 : Nat), .int .i64 (r1 : Nat), .func (.func k) #[] #[], .nilFunc]))
 (he : ∀ args W, (callFunc k args).run Tryz.prog W = .ok (.enter k args) W) (hrd : readP r0 r1 (parts x).tail = some (nm, nu)) (hln : isLn x = true) (hk : ChgC k s nm nu q) :
 Calls Tryz.prog 53 #[.pointer (some ⟨sb, 0, none⟩), .string x] w fun r w' => DoR w sb q r w' := by
 have HC := hid (changesF w)
 have HM := hid hm
 have HT := hid hT
 have HS := hid hst
 have HSM := hid hsm
 have HK := hid hk
 clear hm hT hst hsm hk
 go_enter Tryz.func53, Tryz.ntmps53
 go_wp2_with fail
 refine (HC.out).mono ?_; rintro e w1 ⟨bm, rfl, hmap, hb, b1⟩
 have HB1 := hid b1
 have HF := hid (findChg bm (asS changesL) x r0 r1 k hr hs w1 (HM.out.keep b1) hmap hf)
 rw [hrd, hln] at HF
 unfold FndP at HF
 simp only [Option.getD_some, Option.isSome_some, Bool.and_self] at HF
 clear hmap hb b1 HC hf hrd hln
 go_wp2_with fail
 refine (HF.out).mono ?_; rintro e w2 ⟨⟨A, c, D, d, rfl, ho, ho2⟩, b2⟩
 have HO := hid ho
 have HO2 := hid ho2
 have HB2 := hid (below_call HB1.out b2 HB1.out.size)
 clear ho ho2 b2 HF
 obtain ⟨na, hna⟩ : ∃ n, n = nm.length := ⟨_, rfl⟩
 obtain ⟨nd, hnd⟩ : ∃ n, n = nu.length := ⟨_, rfl⟩
 have HNA := hid hna
 have HND := hid hnd
 rw [← hna] at HO ⊢
 rw [← hnd] at HO2 ⊢
 clear hna hnd
 go_wp2_with fail
 have HR0 := hid ((Blk.new w2 122 #[.int .i64 (r0 : Nat), .int .i64 (r1 : Nat), .func (.func k) #[] #[], .nilFunc]).alloc (.cells #[.slice A na c, .slice D nd d] 124))
 have HL0 := hid (Blk.new_at (w2.alloc (.cells #[.int .i64 (r0 : Nat), .int .i64 (r1 : Nat), .func (.func k) #[] #[], .nilFunc] 122)) 124 #[.slice A na c, .slice D nd d] (n := w2.heap.size + 1) (by simp))
 have b3 := (HB2.out.alloc HB2.out.size (.cells #[.int .i64 (r0 : Nat), .int .i64 (r1 : Nat), .func (.func k) #[] #[], .nilFunc] 122)).alloc (by have := HB2.out.size; simp; omega) (.cells #[.slice A na c, .slice D nd d] 124)
 have HB3 := hid b3
 have HO3 := hid ((HO.out.alloc (.cells #[.int .i64 (r0 : Nat), .int .i64 (r1 : Nat), .func (.func k) #[] #[], .nilFunc] 122)).alloc (.cells #[.slice A na c, .slice D nd d] 124))
 have HO4 := hid ((HO2.out.alloc (.cells #[.int .i64 (r0 : Nat), .int .i64 (r1 : Nat), .func (.func k) #[] #[], .nilFunc] 122)).alloc (.cells #[.slice A na c, .slice D nd d] 124))
 clear HO HO2 b3
 generalize hW3 : ((w2.alloc (.cells #[.int .i64 (r0 : Nat), .int .i64 (r1 : Nat), .func (.func k) #[] #[], .nilFunc] 122)).alloc (.cells #[.slice A na c, .slice D nd d] 124)) = W3 at *
 clear hW3
 have HCL := hid (stClone G sb s W3 (HS.out.below HB3.out) HSM.out)
 refine (HCL.out).mono ?_; rintro e w4 ⟨nb, m, u, p, t, ev, rfl, hst4, b4⟩
 have HN4 := hid hst4
 have HB4 := hid (below_call HB3.out b4 HB3.out.size)
 have HA := hid (show ∀ a, A = some a → a.block < W3.heap.size from fun a e => (HO3.out.lt a.block (by rw [e]; rfl)).2)
 have HD := hid (show ∀ a, D = some a → a.block < W3.heap.size from fun a e => (HO4.out.lt a.block (by rw [e]; rfl)).2)
 have HO5 := hid (own_below HO3.out b4)
 have HO6 := hid (own_below HO4.out b4)
 have r2 := (HR0.out.keep b4).cell 2
 have l0 := (HL0.out.keep b4).cell 0
 have l1 := (HL0.out.keep b4).cell 1
 simp only [List.getElem?_toArray, List.getElem?_cons_zero, List.getElem?_cons_succ] at r2 l0 l1
 have HMD := hid (HK.out w4 W3.heap.size nb m u p t ev A c D d hst4 (by have := Sl.of_own HO5.out; rwa [← HNA.out]) (by have := Sl.of_own HO6.out; rwa [← HND.out]) HA.out HD.out (HM.out.keep HB4.out) (HT.out.below HB4.out) (Nat.lt_of_lt_of_le HT.out.pos HB3.out.size))
 rw [← HNA.out, ← HND.out] at HMD
 clear hst4 b4 HCL
 go_wp2_with fail
 refine (HMD.out).mono ?_; rintro e w5 ⟨m', u', p', t', e', rfl, hq, b5⟩
 have HQ := hid hq
 have HB5 := hid (HB4.out.trans (b5.mono HB3.out.size))
 clear hq b5 r2 l0 l1
 by_cases hz : q.2 = 0
 · rw [hz]
   have HZ := hid hz
   clear hz
   go_wp2
   go_ret2
   exact ⟨.inl ⟨HZ.out, nb, m', u', p', t', e', rfl, (HQ.out HZ.out).more HB3.out.size⟩, HB5.out⟩
 · have HZ := hid hz
   have hz2 : ¬ (q.2 : Int) = 0 := by omega
   obtain ⟨z, hzz⟩ : ∃ z, z = q.2 := ⟨_, rfl⟩
   have HZZ := hid hzz
   rw [← hzz] at hz2 ⊢
   clear hz hzz
   go_wp2
   go_ret2
   exact ⟨.inr ⟨HZ.out, by rw [← HZZ.out]; rfl⟩, HB5.out⟩
end
end Go.Proofs.YtnibidmlkbcfkaaGreatDoor
