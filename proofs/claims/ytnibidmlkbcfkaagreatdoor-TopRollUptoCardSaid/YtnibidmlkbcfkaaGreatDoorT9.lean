/- A mint's state in memory, and its clone. No condition but that its lists are short. -/
import Derived.Test.YtnibidmlkbcfkaaGreatDoorT5
import Derived.Test.YtnibidmlkbcfkaaGreatDoorT8
namespace Go.Proofs.YtnibidmlkbcfkaaGreatDoor
open Go.RowKit Go.Maps
/-- What a mint's books say. -/
structure Bk where
 medals : List ByteArray
 above : List Int
 players : List ByteArray
 beats : List Int
 both : Int
 heavy : Int
 light : Int
 good : Int
 bets : List (Int × Int)
def intV (l : List Int) : List Value := l.map (Value.int .i64)
theorem intV_one (l : List Int) : ∀ u ∈ intV l, u.oneCell' = true := by
 intro u hu
 obtain ⟨x, _, rfl⟩ := List.mem_map.1 hu
 rfl
def stV (m u p t e : Value) (s : Bk) : Array Value := #[m, u, p, t, .int .i64 s.both, .int .i64 s.heavy, .int .i64 s.light, .int .i64 s.good, .bool true, e]
/-- A state that can be read; G: the blocks that it lies in. -/
structure StR (w : World) (G : Nat → Prop) (b : Nat) (s : Bk) : Prop where
 ex : ∃ M mc U uc Q pc T tc E ec, Blk w b 149 (stV (.slice M s.medals.length mc) (.slice U s.above.length uc) (.slice Q s.players.length pc) (.slice T s.beats.length tc) (.slice E s.bets.length ec) s) ∧
  Sl w M s.medals.length mc (strV s.medals) ∧ Sl w U s.above.length uc (intV s.above) ∧ Sl w Q s.players.length pc (strV s.players) ∧ Sl w T s.beats.length tc (intV s.beats) ∧ Sl2 w E s.bets.length ec s.bets ∧
  (∀ a, M = some a → G a.block) ∧ (∀ a, U = some a → G a.block) ∧ (∀ a, Q = some a → G a.block) ∧ (∀ a, T = some a → G a.block) ∧ (∀ a, E = some a → G a.block) ∧ G b
theorem Sl.chs {S : Nat → Prop} {w w' : World} {A : Option Addr} {n c : Nat} {xs : List Value} (h : Sl w A n c xs) (k : Chs S w w') (hs : ∀ a, A = some a → ¬ S a.block) : Sl w' A n c xs :=
 ⟨h.len, h.cap, h.capm, fun hn => by
  obtain ⟨b, o, e, hl, hc⟩ := h.pos hn
  have hb := k.block b hl (hs _ e)
  exact ⟨b, o, e, Nat.lt_of_lt_of_le hl k.size, fun j u hu => (World.cell?_of_block (a := ⟨b, o + j, none⟩) hb).trans (hc j u hu)⟩⟩
theorem Sl2.chs {S : Nat → Prop} {w w' : World} {A : Option Addr} {n c : Nat} {xs : List (Int × Int)} (h : Sl2 w A n c xs) (k : Chs S w w') (hs : ∀ a, A = some a → ¬ S a.block) : Sl2 w' A n c xs :=
 ⟨h.len, h.cap, h.capm, fun hn => by
  obtain ⟨b, o, e, hl, hc⟩ := h.pos hn
  have hb := k.block b hl (hs _ e)
  exact ⟨b, o, e, Nat.lt_of_lt_of_le hl k.size, fun j u hu => ⟨(World.cell?_of_block (a := ⟨b, o + j * 2, none⟩) hb).trans (hc j u hu).1, (World.cell?_of_block (a := ⟨b, o + (j * 2 + 1), none⟩) hb).trans (hc j u hu).2⟩⟩⟩
theorem StR.chs {S G : Nat → Prop} {w w' : World} {b : Nat} {s : Bk} (h : StR w G b s) (k : Chs S w w') (hs : ∀ i, G i → ¬ S i) : StR w' G b s := by
 obtain ⟨M, mc, U, uc, Q, pc, T, tc, E, ec, h1, h2, h3, h4, h5, h6, g2, g3, g4, g5, g6, g1⟩ := h.ex
 exact ⟨M, mc, U, uc, Q, pc, T, tc, E, ec, k.blk h1 (hs b g1), h2.chs k (fun a e => hs _ (g2 a e)), h3.chs k (fun a e => hs _ (g3 a e)), h4.chs k (fun a e => hs _ (g4 a e)), h5.chs k (fun a e => hs _ (g5 a e)), h6.chs k (fun a e => hs _ (g6 a e)), g2, g3, g4, g5, g6, g1⟩
theorem StR.below {G : Nat → Prop} {w w' : World} {b : Nat} {s : Bk} (h : StR w G b s) (hb : Below w.heap.size w w') : StR w' G b s :=
 h.chs (Chs.of_below (S := fun _ => False) hb) (fun _ _ h => h)
theorem StR.mono {G G' : Nat → Prop} {w : World} {b : Nat} {s : Bk} (h : StR w G b s) (k : ∀ i, G i → G' i) : StR w G' b s := by
 obtain ⟨M, mc, U, uc, Q, pc, T, tc, E, ec, h1, h2, h3, h4, h5, h6, g2, g3, g4, g5, g6, g1⟩ := h.ex
 exact ⟨M, mc, U, uc, Q, pc, T, tc, E, ec, h1, h2, h3, h4, h5, h6, fun a e => k _ (g2 a e), fun a e => k _ (g3 a e), fun a e => k _ (g4 a e), fun a e => k _ (g5 a e), fun a e => k _ (g6 a e), k _ g1⟩
/-- Two rows of the call's own lie apart. -/
def ApV (u v : Value) : Prop := u.ownBlock = none ∨ u.ownBlock ≠ v.ownBlock
/-- A state of the call's own. -/
structure StO (w : World) (B b : Nat) (m u p t e : Value) (s : Bk) : Prop where
 blk : Blk w b 149 (stV m u p t e s)
 med : w.ownsRow B 9 1 m s.medals.length (strV s.medals)
 abv : w.ownsRow B 3 1 u s.above.length (intV s.above)
 pla : w.ownsRow B 9 1 p s.players.length (strV s.players)
 bea : w.ownsRow B 3 1 t s.beats.length (intV s.beats)
 bet : w.ownsRow B 182 2 e s.bets.length (flat s.bets)
 low : B ≤ b
 mp : ApV m p
 pm : ApV p m
 ut : ApV u t
 tu : ApV t u
theorem StO.below {w w' : World} {B b : Nat} {m u p t e : Value} {s : Bk} (h : StO w B b m u p t e s) (hb : Below w.heap.size w w') : StO w' B b m u p t e s :=
 ⟨h.blk.keep hb, own_below h.med hb, own_below h.abv hb, own_below h.pla hb, own_below h.bea hb, own_below h.bet hb, h.low, h.mp, h.pm, h.ut, h.tu⟩
/-- What lies between two heights. -/
def Iv (lo hi : Nat) (b : Nat) : Prop := lo ≤ b ∧ b < hi
theorem own_blkIv {w : World} {B n c size : Nat} {e : TypeId} {A : Option Addr} {xs : List Value} (h : w.ownsRow B e size (.slice A n c) n xs) : ∀ a, A = some a → Iv B w.heap.size a.block := by
 intro a ha
 rcases h.2 with ⟨hv, _⟩ | ⟨g, cap, cur, hv, hb, hg, _⟩
 · simp at hv
   rw [ha] at hv
   cases hv.1
 · simp at hv
   rw [ha] at hv
   obtain ⟨h1, _⟩ := hv
   cases h1
   exact ⟨hb, lt_of_block hg⟩
theorem StO.read {w : World} {B b : Nat} {m u p t e : Value} {s : Bk} (h : StO w B b m u p t e s) : StR w (Iv B w.heap.size) b s := by
 obtain ⟨M, mc, rfl⟩ := own_form h.med
 obtain ⟨U, uc, rfl⟩ := own_form h.abv
 obtain ⟨Q, pc, rfl⟩ := own_form h.pla
 obtain ⟨T, tc, rfl⟩ := own_form h.bea
 obtain ⟨E, ec, rfl⟩ := own_form h.bet
 exact ⟨M, mc, U, uc, Q, pc, T, tc, E, ec, h.blk, Sl.of_own h.med, Sl.of_own h.abv, Sl.of_own h.pla, Sl.of_own h.bea, Sl2.of_own h.bet, own_blkIv h.med, own_blkIv h.abv, own_blkIv h.pla, own_blkIv h.bea, own_blkIv h.bet, h.low, h.blk.lt⟩
/-- Lists that a mint's books keep are short. -/
def BkS (s : Bk) : Prop := s.medals.length ≤ 6 ∧ s.above.length ≤ 6 ∧ s.players.length ≤ 8 ∧ s.beats.length ≤ 8 ∧ s.bets.length ≤ 6
theorem ap_of {X Y : World} {B n n' size size' : Nat} {e e' : TypeId} {m p : Value} {xs ys : List Value} (hm : X.ownsRow B e size m n xs) (hp : Y.ownsRow X.heap.size e' size' p n' ys) : ApV m p ∧ ApV p m := by
 unfold ApV
 cases hv : m.ownBlock with
 | none =>
  refine ⟨.inl rfl, ?_⟩
  cases hq : p.ownBlock with
  | none => exact .inl rfl
  | some q => right; intro e; cases e
 | some g =>
  have h1 := (hm.lt g hv).2
  cases hq : p.ownBlock with
  | none => exact ⟨.inr (fun e => by cases e), .inl rfl⟩
  | some q =>
   have h2 := (hp.lt q hq).1
   exact ⟨.inr (fun e => by cases e; omega), .inr (fun e => by cases e; omega)⟩
set_option maxRecDepth 100000 in
set_option maxHeartbeats 4000000 in
theorem stClone (G : Nat → Prop) (sb : Nat) (s : Bk) (w : World) (h : StR w G sb s) (hsm : BkS s) :
 Calls Tryz.prog 83 #[.pointer (some ⟨sb, 0, none⟩)] w fun x w' => ∃ nb m u p t e, x = .returned (.pointer (some ⟨nb, 0, none⟩)) ∧ StO w' w.heap.size nb m u p t e s ∧ Below w.heap.size w w' := by
 obtain ⟨M, mc, U, uc, Q, pc, T, tc, E, ec, h1, h2, h3, h4, h5, h6, _⟩ := h.ex
 obtain ⟨s1, s2, s3, s4, s5⟩ := hsm
 unfold stV at h1
 have HB := hid h1
 have HM := hid fun W (hb : Below w.heap.size w W) => cloneS M s.medals.length mc (strV s.medals) (strV_one _) (by omega) W (h2.below hb)
 have HU := hid fun W (hb : Below w.heap.size w W) => cloneI U s.above.length uc (intV s.above) (intV_one _) (by omega) W (h3.below hb)
 have HQ := hid fun W (hb : Below w.heap.size w W) => cloneS Q s.players.length pc (strV s.players) (strV_one _) (by omega) W (h4.below hb)
 have HT := hid fun W (hb : Below w.heap.size w W) => cloneI T s.beats.length tc (intV s.beats) (intV_one _) (by omega) W (h5.below hb)
 have HE := hid fun W (hb : Below w.heap.size w W) => cloneB E s.bets.length ec s.bets (by omega) W (h6.below hb)
 have a0 := h1.cell 0
 have a1 := h1.cell 1
 have a2 := h1.cell 2
 have a3 := h1.cell 3
 have a4 := h1.cell 4
 have a5 := h1.cell 5
 have a6 := h1.cell 6
 have a7 := h1.cell 7
 have a8 := h1.cell 8
 have a9 := h1.cell 9
 simp only [List.getElem?_toArray, List.getElem?_cons_zero, List.getElem?_cons_succ] at a0 a1 a2 a3 a4 a5 a6 a7 a8 a9
 clear h h1 h2 h3 h4 h5 h6 s1 s2 s3 s4 s5
 go_enter Tryz.func83, Tryz.ntmps83
 have HSB := hid (HB.out.alloc (.cells #[.slice M s.medals.length mc, .slice U s.above.length uc, .slice Q s.players.length pc, .slice T s.beats.length tc, .int .i64 s.both, .int .i64 s.heavy, .int .i64 s.light, .int .i64 s.good, .bool true, .slice E s.bets.length ec] 149))
 have HN := hid (Blk.new w 149 #[.slice M s.medals.length mc, .slice U s.above.length uc, .slice Q s.players.length pc, .slice T s.beats.length tc, .int .i64 s.both, .int .i64 s.heavy, .int .i64 s.light, .int .i64 s.good, .bool true, .slice E s.bets.length ec])
 have HX := hid ((Below.refl w.heap.size w).alloc (Nat.le_refl _) (.cells #[.slice M s.medals.length mc, .slice U s.above.length uc, .slice Q s.players.length pc, .slice T s.beats.length tc, .int .i64 s.both, .int .i64 s.heavy, .int .i64 s.light, .int .i64 s.good, .bool true, .slice E s.bets.length ec] 149))
 have HNL := hid (Nat.le_refl w.heap.size)
 have HNE := hid (show ¬ sb = w.heap.size from by have := HB.out.lt; omega)
 clear HB
 go_wp2_with fail
 clear a0 a1 a2 a3 a4 a5 a6 a7 a8 a9
 generalize w.alloc (.cells #[.slice M s.medals.length mc, .slice U s.above.length uc, .slice Q s.players.length pc, .slice T s.beats.length tc, .int .i64 s.both, .int .i64 s.heavy, .int .i64 s.light, .int .i64 s.good, .bool true, .slice E s.bets.length ec] 149) = X at *
 obtain ⟨nb, hnb⟩ : ∃ n, n = w.heap.size := ⟨_, rfl⟩
 have HNB := hid hnb
 rw [← hnb] at HN HNE ⊢
 have HNL := hid (show w.heap.size ≤ nb by omega)
 clear hnb
 go_cut [3] from 7 to 18 (fun t wx => t = .pointer (some ⟨nb, 0, none⟩) ∧ ∃ M' mc' U' uc', Hid (Blk wx sb 149 #[.slice M s.medals.length mc, .slice U s.above.length uc, .slice Q s.players.length pc, .slice T s.beats.length tc, .int .i64 s.both, .int .i64 s.heavy, .int .i64 s.light, .int .i64 s.good, .bool true, .slice E s.bets.length ec]) ∧ Hid (Blk wx nb 149 #[.slice M' s.medals.length mc', .slice U' s.above.length uc', .slice Q s.players.length pc, .slice T s.beats.length tc, .int .i64 s.both, .int .i64 s.heavy, .int .i64 s.light, .int .i64 s.good, .bool true, .slice E s.bets.length ec]) ∧ Hid (Below w.heap.size w wx) ∧ Hid (wx.ownsRow w.heap.size 9 1 (.slice M' s.medals.length mc') s.medals.length (strV s.medals)) ∧ Hid (wx.ownsRow w.heap.size 3 1 (.slice U' s.above.length uc') s.above.length (intV s.above)))
 case first =>
  refine wp_region_held_drew (S := (fun X => X.cell? ⟨sb, 0, none⟩ = some (.slice M s.medals.length mc) ∧ X.cell? ⟨sb, 1, none⟩ = some (.slice U s.above.length uc))) (by kernel_rfl) (by (try dsimp only); (first | exact ⟨HSB.out.cell 0, HSB.out.cell 1⟩ | exact ⟨HSB.out.drew.cell 0, HSB.out.drew.cell 1⟩)) (fun hHeld => ?_)
  have HSB := hid HSB.out.drew; have HN := hid HN.out.drew; have HX := hid HX.out.drew
  generalize X.drew = X1 at *
  obtain ⟨X, rfl⟩ : ∃ Y, Y = X1 := ⟨X1, rfl⟩
  refine tk ?_ 0 (some 7) rfl rfl ?_ ?_; rotate_left; · (intro w hSw; (try dsimp only at hSw); go_simp <;> with_reducible rfl)
  try simp only [Act.put,qA,qB,qC]
  refine tk ?_ 1 (some 8) rfl rfl ?_ ?_; rotate_left; · (intro w hSw; (try dsimp only at hSw); go_simp <;> with_reducible rfl)
  try simp only [Act.put,qA,qB,qC]
  refine tk ?_ 2 (some 9) rfl rfl ?_ ?_; rotate_left; · (intro w hSw; (try dsimp only at hSw); go_simp <;> with_reducible rfl)
  try simp only [Act.put,qA,qB,qC]
  refine tk ?_ 3 (some 10) rfl rfl ?_ ?_; rotate_left; · (intro w hSw; (try dsimp only at hSw); go_simp <;> with_reducible rfl)
  try simp only [Act.put,qA,qB,qC]
  refine tk ?_ 5 (some 12) rfl rfl ?_ ?_; rotate_left; · (intro w hSw; (try dsimp only at hSw); go_simp <;> with_reducible rfl)
  try simp only [Act.put,qA,qB,qC]
  refine tk ?_ 6 (some 13) rfl rfl ?_ ?_; rotate_left; · (intro w hSw; (try dsimp only at hSw); go_simp <;> with_reducible rfl)
  try simp only [Act.put,qA,qB,qC]
  refine tk ?_ 7 (some 14) rfl rfl ?_ ?_; rotate_left; · (intro w hSw; (try dsimp only at hSw); go_simp <;> with_reducible rfl)
  try simp only [Act.put,qA,qB,qC]
  refine tk ?_ 8 (some 15) rfl rfl ?_ ?_; rotate_left; · (intro w hSw; (try dsimp only at hSw); go_simp <;> with_reducible rfl)
  try simp only [Act.put,qA,qB,qC]
  refine st 4 rfl fun K hK => ?_
  go_simp
  refine (HM.out _ HX.out).mono ?_; rintro e' X1 ⟨M', mc', rfl, ho, bb⟩
  have HOM := hid (own_more ho HX.out.size)
  have HSB := hid (HSB.out.keep bb)
  have HN := hid (HN.out.keep bb)
  have HX := hid (below_call HX.out bb HX.out.size)
  clear ho bb hHeld
  obtain ⟨X, rfl⟩ : ∃ Y, Y = X1 := ⟨X1, rfl⟩
  refine hK.out _ _ ?_ (fun hHeld => ?_); · ((try dsimp only); (first | exact ⟨HSB.out.cell 0, HSB.out.cell 1⟩ | exact ⟨HSB.out.drew.cell 0, HSB.out.drew.cell 1⟩))
  clear hK K
  try simp only [Act.put,qA,qB,qC]
  refine st 9 rfl fun K hK => ?_
  go_simp
  refine (HU.out _ HX.out).mono ?_; rintro e' X1 ⟨U', uc', rfl, ho, bb⟩
  have HOU := hid (own_more ho HX.out.size)
  have HSB := hid (HSB.out.keep bb)
  have HN := hid (HN.out.keep bb)
  have HX := hid (below_call HX.out bb HX.out.size)
  have HOM := hid (own_below HOM.out bb)
  clear ho bb hHeld
  obtain ⟨X, rfl⟩ : ∃ Y, Y = X1 := ⟨X1, rfl⟩
  refine hK.out _ _ ?_ (fun hHeld => ?_); · ((try dsimp only); (first | exact ⟨HSB.out.cell 0, HSB.out.cell 1⟩ | exact ⟨HSB.out.drew.cell 0, HSB.out.drew.cell 1⟩))
  clear hK K
  try simp only [Act.put,qA,qB,qC]
  refine tk ?_ 10 (some 17) rfl rfl ?_ ?_; rotate_left; · (intro w hSw; (try dsimp only at hSw); go_simp <;> with_reducible rfl)
  try simp only [Act.put,qA,qB,qC]
  refine st 11 rfl fun K hK => ?_
  have z0 := HN.out.cell 0
  have f0 := HN.out.free 0
  simp only [List.getElem?_toArray, List.getElem?_cons_zero] at z0
  go_simp
  have HOM := hid (own_grown HOM.out HN.out (by decide) (setGrown X ⟨nb, 0, none⟩ (.slice M' s.medals.length mc')))
  have HOU := hid (own_grown HOU.out HN.out (by decide) (setGrown X ⟨nb, 0, none⟩ (.slice M' s.medals.length mc')))
  have HSB := hid (HSB.out.far (p := ⟨nb, 0, none⟩) HNE.out (.slice M' s.medals.length mc'))
  have HX := hid (HX.out.setCell (p := ⟨nb, 0, none⟩) HNL.out (.slice M' s.medals.length mc'))
  have HN := hid (show Blk (X.setCell ⟨nb, 0, none⟩ (.slice M' s.medals.length mc')) nb 149 #[.slice M' s.medals.length mc', .slice U s.above.length uc, .slice Q s.players.length pc, .slice T s.beats.length tc, .int .i64 s.both, .int .i64 s.heavy, .int .i64 s.light, .int .i64 s.good, .bool true, .slice E s.bets.length ec] from HN.out.set 0 (.slice M' s.medals.length mc'))
  clear z0 f0 hHeld
  generalize X.setCell ⟨nb, 0, none⟩ (.slice M' s.medals.length mc') = X1 at *
  obtain ⟨X, rfl⟩ : ∃ Y, Y = X1 := ⟨X1, rfl⟩
  refine hK.out _ _ ?_ (fun hHeld => ?_); · ((try dsimp only); (first | exact ⟨HSB.out.cell 0, HSB.out.cell 1⟩ | exact ⟨HSB.out.drew.cell 0, HSB.out.drew.cell 1⟩))
  clear hK K
  try simp only [Act.put,qA,qB,qC]
  refine tk ?_ 12 (some 18) rfl rfl ?_ ?_; rotate_left; · (intro w hSw; (try dsimp only at hSw); go_simp <;> with_reducible rfl)
  try simp only [Act.put,qA,qB,qC]
  refine st 13 rfl fun K hK => ?_
  have z1 := HN.out.cell 1
  have f1 := HN.out.free 1
  simp only [List.getElem?_toArray, List.getElem?_cons_zero, List.getElem?_cons_succ] at z1
  go_simp
  have HOM := hid (own_grown HOM.out HN.out (by decide) (setGrown X ⟨nb, 1, none⟩ (.slice U' s.above.length uc')))
  have HOU := hid (own_grown HOU.out HN.out (by decide) (setGrown X ⟨nb, 1, none⟩ (.slice U' s.above.length uc')))
  have HSB := hid (HSB.out.far (p := ⟨nb, 1, none⟩) HNE.out (.slice U' s.above.length uc'))
  have HX := hid (HX.out.setCell (p := ⟨nb, 1, none⟩) HNL.out (.slice U' s.above.length uc'))
  have HN := hid (show Blk (X.setCell ⟨nb, 1, none⟩ (.slice U' s.above.length uc')) nb 149 #[.slice M' s.medals.length mc', .slice U' s.above.length uc', .slice Q s.players.length pc, .slice T s.beats.length tc, .int .i64 s.both, .int .i64 s.heavy, .int .i64 s.light, .int .i64 s.good, .bool true, .slice E s.bets.length ec] from HN.out.set 1 (.slice U' s.above.length uc'))
  clear z1 f1 hHeld
  generalize X.setCell ⟨nb, 1, none⟩ (.slice U' s.above.length uc') = X1 at *
  obtain ⟨X, rfl⟩ : ∃ Y, Y = X1 := ⟨X1, rfl⟩
  refine hK.out _ _ ?_ (fun hHeld => ?_); · ((try dsimp only); (first | exact ⟨HSB.out.cell 0, HSB.out.cell 1⟩ | exact ⟨HSB.out.drew.cell 0, HSB.out.drew.cell 1⟩))
  clear hK K
  try simp only [Act.put,qA,qB,qC]
  refine wpAnyH_done (by kernel_rfl) ?_ _
  go_wp2_with fail
  go_meet
  case rel => exact ⟨rfl, M', mc', U', uc', HSB, HN, HX, HOM, HOU⟩
 case rest =>
  clear HSB HN HX
  obtain ⟨rfl, M', mc', U', uc', HSB, HN, HX, HOM, HOU⟩ := hcut
  obtain ⟨X, rfl⟩ : ∃ Y, Y = wc := ⟨wc, rfl⟩
  go_wp2_with fail
  go_cut [3] from 19 to 36 (fun t wx => t = .pointer (some ⟨nb, 0, none⟩) ∧ ∃ Q' pc' T' tc' E' ec', Hid (Blk wx nb 149 #[.slice M' s.medals.length mc', .slice U' s.above.length uc', .slice Q' s.players.length pc', .slice T' s.beats.length tc', .int .i64 s.both, .int .i64 s.heavy, .int .i64 s.light, .int .i64 s.good, .bool true, .slice E' s.bets.length ec']) ∧ Hid (Below w.heap.size w wx) ∧ Hid (wx.ownsRow w.heap.size 9 1 (.slice M' s.medals.length mc') s.medals.length (strV s.medals)) ∧ Hid (wx.ownsRow w.heap.size 3 1 (.slice U' s.above.length uc') s.above.length (intV s.above)) ∧ Hid (wx.ownsRow w.heap.size 9 1 (.slice Q' s.players.length pc') s.players.length (strV s.players)) ∧ Hid (wx.ownsRow w.heap.size 3 1 (.slice T' s.beats.length tc') s.beats.length (intV s.beats)) ∧ Hid (wx.ownsRow w.heap.size 182 2 (.slice E' s.bets.length ec') s.bets.length (flat s.bets)) ∧ Hid (ApV (.slice M' s.medals.length mc') (.slice Q' s.players.length pc') ∧ ApV (.slice Q' s.players.length pc') (.slice M' s.medals.length mc')) ∧ Hid (ApV (.slice U' s.above.length uc') (.slice T' s.beats.length tc') ∧ ApV (.slice T' s.beats.length tc') (.slice U' s.above.length uc')))
  case first =>
   refine wp_region_held_drew (S := (fun X => X.cell? ⟨sb, 2, none⟩ = some (.slice Q s.players.length pc) ∧ X.cell? ⟨sb, 3, none⟩ = some (.slice T s.beats.length tc) ∧ X.cell? ⟨sb, 9, none⟩ = some (.slice E s.bets.length ec))) (by kernel_rfl) (by (try dsimp only); (first | exact ⟨HSB.out.cell 2, HSB.out.cell 3, HSB.out.cell 9⟩ | exact ⟨HSB.out.drew.cell 2, HSB.out.drew.cell 3, HSB.out.drew.cell 9⟩)) (fun hHeld => ?_)
   have HSB := hid HSB.out.drew; have HN := hid HN.out.drew; have HX := hid HX.out.drew
   have HOM := hid (own_drewN HOM.out 1); have HOU := hid (own_drewN HOU.out 1)
   have hdr : X.drewN 1 = X.drew := rfl
   rw [hdr] at HOM HOU
   clear hdr
   generalize X.drew = X1 at *
   obtain ⟨X, rfl⟩ : ∃ Y, Y = X1 := ⟨X1, rfl⟩
   refine tk ?_ 0 (some 19) rfl rfl ?_ ?_; rotate_left; · (intro w hSw; (try dsimp only at hSw); go_simp <;> with_reducible rfl)
   try simp only [Act.put,qA,qB,qC]
   refine tk ?_ 1 (some 20) rfl rfl ?_ ?_; rotate_left; · (intro w hSw; (try dsimp only at hSw); go_simp <;> with_reducible rfl)
   try simp only [Act.put,qA,qB,qC]
   refine tk ?_ 2 (some 21) rfl rfl ?_ ?_; rotate_left; · (intro w hSw; (try dsimp only at hSw); go_simp <;> with_reducible rfl)
   try simp only [Act.put,qA,qB,qC]
   refine tk ?_ 3 (some 22) rfl rfl ?_ ?_; rotate_left; · (intro w hSw; (try dsimp only at hSw); go_simp <;> with_reducible rfl)
   try simp only [Act.put,qA,qB,qC]
   refine tk ?_ 5 (some 24) rfl rfl ?_ ?_; rotate_left; · (intro w hSw; (try dsimp only at hSw); go_simp <;> with_reducible rfl)
   try simp only [Act.put,qA,qB,qC]
   refine tk ?_ 6 (some 25) rfl rfl ?_ ?_; rotate_left; · (intro w hSw; (try dsimp only at hSw); go_simp <;> with_reducible rfl)
   try simp only [Act.put,qA,qB,qC]
   refine tk ?_ 7 (some 26) rfl rfl ?_ ?_; rotate_left; · (intro w hSw; (try dsimp only at hSw); go_simp <;> with_reducible rfl)
   try simp only [Act.put,qA,qB,qC]
   refine tk ?_ 8 (some 27) rfl rfl ?_ ?_; rotate_left; · (intro w hSw; (try dsimp only at hSw); go_simp <;> with_reducible rfl)
   try simp only [Act.put,qA,qB,qC]
   refine tk ?_ 10 (some 29) rfl rfl ?_ ?_; rotate_left; · (intro w hSw; (try dsimp only at hSw); go_simp <;> with_reducible rfl)
   try simp only [Act.put,qA,qB,qC]
   refine tk ?_ 11 (some 30) rfl rfl ?_ ?_; rotate_left; · (intro w hSw; (try dsimp only at hSw); go_simp <;> with_reducible rfl)
   try simp only [Act.put,qA,qB,qC]
   refine tk ?_ 12 (some 31) rfl rfl ?_ ?_; rotate_left; · (intro w hSw; (try dsimp only at hSw); go_simp <;> with_reducible rfl)
   try simp only [Act.put,qA,qB,qC]
   refine tk ?_ 13 (some 32) rfl rfl ?_ ?_; rotate_left; · (intro w hSw; (try dsimp only at hSw); go_simp <;> with_reducible rfl)
   try simp only [Act.put,qA,qB,qC]
   refine st 4 rfl fun K hK => ?_
   go_simp
   refine (HQ.out _ HX.out).mono ?_; rintro e' X1 ⟨Q', pc', rfl, ho, bb⟩
   have HAP := hid (ap_of HOM.out ho)
   have HOQ := hid (own_more ho HX.out.size)
   have HSB := hid (HSB.out.keep bb)
   have HN := hid (HN.out.keep bb)
   have HX := hid (below_call HX.out bb HX.out.size)
   have HOM := hid (own_below HOM.out bb)
   have HOU := hid (own_below HOU.out bb)
   clear ho bb hHeld
   obtain ⟨X, rfl⟩ : ∃ Y, Y = X1 := ⟨X1, rfl⟩
   refine hK.out _ _ ?_ (fun hHeld => ?_); · ((try dsimp only); (first | exact ⟨HSB.out.cell 2, HSB.out.cell 3, HSB.out.cell 9⟩ | exact ⟨HSB.out.drew.cell 2, HSB.out.drew.cell 3, HSB.out.drew.cell 9⟩))
   clear hK K
   try simp only [Act.put,qA,qB,qC]
   refine st 9 rfl fun K hK => ?_
   go_simp
   refine (HT.out _ HX.out).mono ?_; rintro e' X1 ⟨T', tc', rfl, ho, bb⟩
   have HAT := hid (ap_of HOU.out ho)
   have HOT := hid (own_more ho HX.out.size)
   have HSB := hid (HSB.out.keep bb)
   have HN := hid (HN.out.keep bb)
   have HX := hid (below_call HX.out bb HX.out.size)
   have HOM := hid (own_below HOM.out bb)
   have HOU := hid (own_below HOU.out bb)
   have HOQ := hid (own_below HOQ.out bb)
   clear ho bb hHeld
   obtain ⟨X, rfl⟩ : ∃ Y, Y = X1 := ⟨X1, rfl⟩
   refine hK.out _ _ ?_ (fun hHeld => ?_); · ((try dsimp only); (first | exact ⟨HSB.out.cell 2, HSB.out.cell 3, HSB.out.cell 9⟩ | exact ⟨HSB.out.drew.cell 2, HSB.out.drew.cell 3, HSB.out.drew.cell 9⟩))
   clear hK K
   try simp only [Act.put,qA,qB,qC]
   refine st 14 rfl fun K hK => ?_
   go_simp
   refine (HE.out _ HX.out).mono ?_; rintro e' X1 ⟨E', ec', rfl, ho, bb⟩
   have HOE := hid (own_more ho HX.out.size)
   have HSB := hid (HSB.out.keep bb)
   have HN := hid (HN.out.keep bb)
   have HX := hid (below_call HX.out bb HX.out.size)
   have HOM := hid (own_below HOM.out bb)
   have HOU := hid (own_below HOU.out bb)
   have HOQ := hid (own_below HOQ.out bb)
   have HOT := hid (own_below HOT.out bb)
   clear ho bb hHeld
   obtain ⟨X, rfl⟩ : ∃ Y, Y = X1 := ⟨X1, rfl⟩
   refine hK.out _ _ ?_ (fun hHeld => ?_); · ((try dsimp only); (first | exact ⟨HSB.out.cell 2, HSB.out.cell 3, HSB.out.cell 9⟩ | exact ⟨HSB.out.drew.cell 2, HSB.out.drew.cell 3, HSB.out.drew.cell 9⟩))
   clear hK K
   try simp only [Act.put,qA,qB,qC]
   refine tk ?_ 15 (some 34) rfl rfl ?_ ?_; rotate_left; · (intro w hSw; (try dsimp only at hSw); go_simp <;> with_reducible rfl)
   try simp only [Act.put,qA,qB,qC]
   refine st 16 rfl fun K hK => ?_
   have z2 := HN.out.cell 2
   have f2 := HN.out.free 2
   simp only [List.getElem?_toArray, List.getElem?_cons_zero, List.getElem?_cons_succ] at z2
   go_simp
   have HOM := hid (own_grown HOM.out HN.out (by decide) (setGrown X ⟨nb, 2, none⟩ (.slice Q' s.players.length pc')))
   have HOU := hid (own_grown HOU.out HN.out (by decide) (setGrown X ⟨nb, 2, none⟩ (.slice Q' s.players.length pc')))
   have HOQ := hid (own_grown HOQ.out HN.out (by decide) (setGrown X ⟨nb, 2, none⟩ (.slice Q' s.players.length pc')))
   have HOT := hid (own_grown HOT.out HN.out (by decide) (setGrown X ⟨nb, 2, none⟩ (.slice Q' s.players.length pc')))
   have HOE := hid (own_grown HOE.out HN.out (by decide) (setGrown X ⟨nb, 2, none⟩ (.slice Q' s.players.length pc')))
   have HSB := hid (HSB.out.far (p := ⟨nb, 2, none⟩) HNE.out (.slice Q' s.players.length pc'))
   have HX := hid (HX.out.setCell (p := ⟨nb, 2, none⟩) HNL.out (.slice Q' s.players.length pc'))
   have HN := hid (show Blk (X.setCell ⟨nb, 2, none⟩ (.slice Q' s.players.length pc')) nb 149 #[.slice M' s.medals.length mc', .slice U' s.above.length uc', .slice Q' s.players.length pc', .slice T s.beats.length tc, .int .i64 s.both, .int .i64 s.heavy, .int .i64 s.light, .int .i64 s.good, .bool true, .slice E s.bets.length ec] from HN.out.set 2 (.slice Q' s.players.length pc'))
   clear z2 f2 hHeld
   generalize X.setCell ⟨nb, 2, none⟩ (.slice Q' s.players.length pc') = X1 at *
   obtain ⟨X, rfl⟩ : ∃ Y, Y = X1 := ⟨X1, rfl⟩
   refine hK.out _ _ ?_ (fun hHeld => ?_); · ((try dsimp only); (first | exact ⟨HSB.out.cell 2, HSB.out.cell 3, HSB.out.cell 9⟩ | exact ⟨HSB.out.drew.cell 2, HSB.out.drew.cell 3, HSB.out.drew.cell 9⟩))
   clear hK K
   try simp only [Act.put,qA,qB,qC]
   refine tk ?_ 17 (some 35) rfl rfl ?_ ?_; rotate_left; · (intro w hSw; (try dsimp only at hSw); go_simp <;> with_reducible rfl)
   try simp only [Act.put,qA,qB,qC]
   refine st 18 rfl fun K hK => ?_
   have z3 := HN.out.cell 3
   have f3 := HN.out.free 3
   simp only [List.getElem?_toArray, List.getElem?_cons_zero, List.getElem?_cons_succ] at z3
   go_simp
   have HOM := hid (own_grown HOM.out HN.out (by decide) (setGrown X ⟨nb, 3, none⟩ (.slice T' s.beats.length tc')))
   have HOU := hid (own_grown HOU.out HN.out (by decide) (setGrown X ⟨nb, 3, none⟩ (.slice T' s.beats.length tc')))
   have HOQ := hid (own_grown HOQ.out HN.out (by decide) (setGrown X ⟨nb, 3, none⟩ (.slice T' s.beats.length tc')))
   have HOT := hid (own_grown HOT.out HN.out (by decide) (setGrown X ⟨nb, 3, none⟩ (.slice T' s.beats.length tc')))
   have HOE := hid (own_grown HOE.out HN.out (by decide) (setGrown X ⟨nb, 3, none⟩ (.slice T' s.beats.length tc')))
   have HSB := hid (HSB.out.far (p := ⟨nb, 3, none⟩) HNE.out (.slice T' s.beats.length tc'))
   have HX := hid (HX.out.setCell (p := ⟨nb, 3, none⟩) HNL.out (.slice T' s.beats.length tc'))
   have HN := hid (show Blk (X.setCell ⟨nb, 3, none⟩ (.slice T' s.beats.length tc')) nb 149 #[.slice M' s.medals.length mc', .slice U' s.above.length uc', .slice Q' s.players.length pc', .slice T' s.beats.length tc', .int .i64 s.both, .int .i64 s.heavy, .int .i64 s.light, .int .i64 s.good, .bool true, .slice E s.bets.length ec] from HN.out.set 3 (.slice T' s.beats.length tc'))
   clear z3 f3 hHeld
   generalize X.setCell ⟨nb, 3, none⟩ (.slice T' s.beats.length tc') = X1 at *
   obtain ⟨X, rfl⟩ : ∃ Y, Y = X1 := ⟨X1, rfl⟩
   refine hK.out _ _ ?_ (fun hHeld => ?_); · ((try dsimp only); (first | exact ⟨HSB.out.cell 2, HSB.out.cell 3, HSB.out.cell 9⟩ | exact ⟨HSB.out.drew.cell 2, HSB.out.drew.cell 3, HSB.out.drew.cell 9⟩))
   clear hK K
   try simp only [Act.put,qA,qB,qC]
   refine tk ?_ 19 (some 36) rfl rfl ?_ ?_; rotate_left; · (intro w hSw; (try dsimp only at hSw); go_simp <;> with_reducible rfl)
   try simp only [Act.put,qA,qB,qC]
   refine st 20 rfl fun K hK => ?_
   have z9 := HN.out.cell 9
   have f9 := HN.out.free 9
   simp only [List.getElem?_toArray, List.getElem?_cons_zero, List.getElem?_cons_succ] at z9
   go_simp
   have HOM := hid (own_grown HOM.out HN.out (by decide) (setGrown X ⟨nb, 9, none⟩ (.slice E' s.bets.length ec')))
   have HOU := hid (own_grown HOU.out HN.out (by decide) (setGrown X ⟨nb, 9, none⟩ (.slice E' s.bets.length ec')))
   have HOQ := hid (own_grown HOQ.out HN.out (by decide) (setGrown X ⟨nb, 9, none⟩ (.slice E' s.bets.length ec')))
   have HOT := hid (own_grown HOT.out HN.out (by decide) (setGrown X ⟨nb, 9, none⟩ (.slice E' s.bets.length ec')))
   have HOE := hid (own_grown HOE.out HN.out (by decide) (setGrown X ⟨nb, 9, none⟩ (.slice E' s.bets.length ec')))
   have HSB := hid (HSB.out.far (p := ⟨nb, 9, none⟩) HNE.out (.slice E' s.bets.length ec'))
   have HX := hid (HX.out.setCell (p := ⟨nb, 9, none⟩) HNL.out (.slice E' s.bets.length ec'))
   have HN := hid (show Blk (X.setCell ⟨nb, 9, none⟩ (.slice E' s.bets.length ec')) nb 149 #[.slice M' s.medals.length mc', .slice U' s.above.length uc', .slice Q' s.players.length pc', .slice T' s.beats.length tc', .int .i64 s.both, .int .i64 s.heavy, .int .i64 s.light, .int .i64 s.good, .bool true, .slice E' s.bets.length ec'] from HN.out.set 9 (.slice E' s.bets.length ec'))
   clear z9 f9 hHeld
   generalize X.setCell ⟨nb, 9, none⟩ (.slice E' s.bets.length ec') = X1 at *
   obtain ⟨X, rfl⟩ : ∃ Y, Y = X1 := ⟨X1, rfl⟩
   refine hK.out _ _ ?_ (fun hHeld => ?_); · ((try dsimp only); (first | exact ⟨HSB.out.cell 2, HSB.out.cell 3, HSB.out.cell 9⟩ | exact ⟨HSB.out.drew.cell 2, HSB.out.drew.cell 3, HSB.out.drew.cell 9⟩))
   clear hK K
   try simp only [Act.put,qA,qB,qC]
   refine wpAnyH_done (by kernel_rfl) ?_ _
   go_wp2_with fail
   go_meet
   case rel => exact ⟨rfl, Q', pc', T', tc', E', ec', HN, HX, HOM, HOU, HOQ, HOT, HOE, HAP, HAT⟩
  case rest =>
   obtain ⟨rfl, Q', pc', T', tc', E', ec', HN, HX, HOM, HOU, HOQ, HOT, HOE, HAP, HAT⟩ := hcut
   go_wp2
   go_ret
   exact ⟨nb, _, _, _, _, _, rfl, ⟨HN.out, HOM.out, HOU.out, HOQ.out, HOT.out, HOE.out, HNL.out, HAP.out.1, HAP.out.2, HAT.out.1, HAT.out.2⟩, HX.out⟩
end Go.Proofs.YtnibidmlkbcfkaaGreatDoor
