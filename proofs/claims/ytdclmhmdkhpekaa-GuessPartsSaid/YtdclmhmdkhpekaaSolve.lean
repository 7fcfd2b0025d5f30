/- Walks of guess.solves and of the predicate in it. Conditions: the game's numbers are small; the slice reads as rising codes; the map tells the truth. -/
import Derived.Test.YtdclmhmdkhpekaaSolveK
import Derived.Deep.RegionHeld3
import Derived.BigQuiet
namespace Go.Proofs.Ytdclmhmdkhpekaa
open Go.RowKit Go.Maps

/-- A game that is searched. -/
structure Gm (p : Nat) (c : Int) (N : Nat) : Prop where
  p4 : p ≤ 10
  c1 : 1 ≤ c
  c6 : c ≤ 6
  n27 : N ≤ 27
/-- What a search has before it: its boxes, a slice of codes, the map. -/
structure Sv (w : World) (gb lb nb mb M : Nat) (p : Nat) (c : Int) (N : Nat) (A : Option Addr) (k cp : Nat) (l : List Int) (n : Nat) : Prop where
  b0 : Blk w gb 68 #[.int .i64 p, .int .i64 c, .int .i64 N]
  b1 : Blk w lb 34 #[.slice A k cp]
  b2 : Blk w nb 3 #[.int .i64 n]
  b3 : Blk w mb 75 #[.map (some M)]
  sl : Sl w A k cp (l.map (Value.int .i64))
  memo : Memo Try.prog 106 w M (OKs c p N)
  rise : Rise N l
theorem sl_grown {w w' : World} {A : Option Addr} {k cp : Nat} {xs : List Value} {M : Nat} {K : TypeId} {OK : Value → Value → Prop} (h : Sl w A k cp xs) (hm : Memo Try.prog K w M OK) (hg : w.grownBy w' (some M)) : Sl w' A k cp xs := by
  have hcell : ∀ (a : Addr) (v : Value), w.cell? a = some v → w'.cell? a = some v := fun a v hv =>
    (World.cell?_of_block (hg.block a.block (World.block_lt_of_cell? w a hv) (by simpa using hm.ne_cell hv))).trans hv
  exact ⟨h.len, h.cap, h.capm, fun hn => by
    obtain ⟨b, o, e, hb, hc⟩ := h.pos hn
    exact ⟨b, o, e, Nat.lt_of_lt_of_le hb hg.size, fun j u hu => hcell _ _ (hc j u hu)⟩⟩
theorem blk_grown {w w' : World} {b : Nat} {t : TypeId} {cs : Array Value} {M : Nat} {K : TypeId} {OK : Value → Value → Prop} (h : Blk w b t cs) (hm : Memo Try.prog K w M OK) (hg : w.grownBy w' (some M)) : Blk w' b t cs :=
  h.grown hg (by simpa using hm.ne_blk h)
section
variable {w w' : World} {gb lb nb mb M p N k cp n : Nat} {c : Int} {A : Option Addr} {l : List Int}
theorem Sv.grown (h : Sv w gb lb nb mb M p c N A k cp l n) (hg : w.grownBy w' (some M)) (hm : Memo Try.prog 106 w' M (OKs c p N)) : Sv w' gb lb nb mb M p c N A k cp l n :=
  ⟨blk_grown h.b0 h.memo hg, blk_grown h.b1 h.memo hg, blk_grown h.b2 h.memo hg, blk_grown h.b3 h.memo hg, sl_grown h.sl h.memo hg, hm, h.rise⟩
theorem Sv.below (h : Sv w gb lb nb mb M p c N A k cp l n) (hb : Below w.heap.size w w') : Sv w' gb lb nb mb M p c N A k cp l n :=
  ⟨h.b0.keep hb, h.b1.keep hb, h.b2.keep hb, h.b3.keep hb, h.sl.below hb, h.memo.keep hb, h.rise⟩
end
def SolvesTo (p : Nat) (c : Int) (N n : Nat) : Prop := ∀ (M : Nat) (A : Option Addr) (k cp : Nat) (l : List Int) (z : Int) (W : World), z = n → Sl W A k cp (l.map (Value.int .i64)) → Memo Try.prog 106 W M (OKs c p N) → Rise N l →
  Calls Try.prog 55 #[.agg #[.int .i64 p, .int .i64 c, .int .i64 N], .slice A k cp, .int .i64 z, .map (some M)] W fun e w' => e = .returned (.bool (solvesL c p N n l)) ∧ W.grownBy w' (some M) ∧ Memo Try.prog 106 w' M (OKs c p N)
/-- Is a guess good for n guesses more? -/
def goodG (c : Int) (p N n : Nat) (l : List Int) (a : Int) : Bool := l.all fun b => decide (black c a b p = p) || solvesL c p N n (partL c p l a (mrk c p a b))
theorem good_yes {c : Int} {p N n : Nat} {l : List Int} {a : Int} (h : ∀ m, partL c p l a m ≠ [] → m.1 = p ∨ solvesL c p N n (partL c p l a m) = true) : goodG c p N n l a = true := by
  unfold goodG
  rw [List.all_eq_true]
  intro b hb
  have hne : partL c p l a (mrk c p a b) ≠ [] := List.ne_nil_of_mem (mem_part.2 ⟨hb, rfl⟩)
  rcases h _ hne with h1 | h1
  · have : black c a b p = p := h1
    simp [this]
  · simp [h1]
theorem good_no {c : Int} {p N n : Nat} {l : List Int} {a : Int} {m : Int × Int} (hne : partL c p l a m ≠ []) (h1 : m.1 ≠ p) (h2 : solvesL c p N n (partL c p l a m) = false) : goodG c p N n l a = false := by
  unfold goodG
  rw [List.all_eq_false]
  obtain ⟨b, hb⟩ := List.exists_mem_of_ne_nil _ hne
  obtain ⟨hb1, rfl⟩ := mem_part.1 hb
  refine ⟨b, hb1, ?_⟩
  have : ¬ black c a b p = p := h1
  simp [this, h2]

set_option maxRecDepth 100000 in
set_option maxHeartbeats 4000000 in
theorem solves1 (p : Nat) (c : Int) (N n : Nat) (G : Gm p c N) (hn : n ≤ 500) (HT : SolvesTo p c N n) (gb lb nb mb M : Nat) (A : Option Addr) (k cp : Nat) (l : List Int) (a : Int) (ha : 0 ≤ a ∧ a < N) (W : World) (hv : Sv W gb lb nb mb M p c N A k cp l (n + 1)) :
    Calls Try.prog 84 (#[.int .i64 a] ++ #[.pointer (some ⟨gb, 0, none⟩), .pointer (some ⟨lb, 0, none⟩), .pointer (some ⟨nb, 0, none⟩), .pointer (some ⟨mb, 0, none⟩)]) W fun e w' => e = .returned (.bool (goodG c p N n l a)) ∧ W.grownBy w' (some M) ∧ Memo Try.prog 106 w' M (OKs c p N) := by
  have hlen : l.length = k := by simpa using hv.sl.len
  have hN := G.n27
  have hk : k ≤ 1000 := by have := hv.rise.le; omega
  have hp : p ≤ 10 := G.p4
  have HP := hid (partsS p c N A k cp l a W G.p4 G.c1 G.c6 hv.sl (fun x hx => by have := hv.rise.mem x hx; omega) hk (by omega))
  have HV := hid hv
  have HTT := hid HT
  have hM := hv.memo.lt
  have k0 := hv.b0.cell 0; have k1 := hv.b0.cell 1; have k2 := hv.b0.cell 2; have k3 := hv.b1.cell 0
  simp only [List.getElem?_toArray, List.getElem?_cons_zero, List.getElem?_cons_succ] at k0 k1 k2 k3
  clear hv hlen HT
  go_enter Try.func84, Try.ntmps84
  go_wp2_with fail
  refine HP.out.mono ?_; rintro e w1 ⟨rfl, hG, hb1⟩
  have HB1 := hid hb1
  have HG := hid hG
  have hz1 := hb1.size
  clear k0 k1 k2 k3 hb1 hG
  go_wp2_with (at_range; refine wpList_range_grp _ rfl _ rfl rfl HG.out (fun m => m.1 = p ∨ solvesL c p N n (partL c p l a m) = true) ?_; intro w2 cnt hrg hb2)
  go_frame
  have HM2 := hid ((HV.out.memo.keep HB1.out).keep hb2)
  have HGR := hid (gr_trans (gr_below HB1.out (r := some M)) (gr_below hb2))
  have HRG := hid hrg
  clear hb2 hrg
  go_loopg [7] cnt (fun g _ wr => Hid (Rng wr (W.heap.size + 1) w1.heap.size (W.heap.size + 1 + 1) (partL c p l a) g (fun m => m.1 = p ∨ solvesL c p N n (partL c p l a m) = true)) ∧ Hid (W.grownBy wr (some M)) ∧ Hid (Memo Try.prog 106 wr M (OKs c p N)))
  case atStart => exact ⟨HRG, HGR, HM2⟩
  case round =>
    obtain ⟨HR, HW, HM⟩ := hrel
    have hv2 := HV.out.grown HW.out HM.out
    have HV2 := hid hv2
    clear hv2
    go_wp2_with (at_next; refine wpList_next_rng _ rfl _ rfl rfl HR.out ?_ ?_)
    · intro hdone
      have HD := hid (good_yes (c := c) (p := p) (N := N) (n := n) (l := l) (a := a) fun m hm => hdone m.1 m.2 hm)
      clear hdone
      go_wp2
      go_ret
      exact ⟨by rw [HD.out]; rfl, HW.out, HM.out⟩
    · intro mx my v w3 cnt' hlt hsm hne hg3 hz3 ho3 hen hR3
      obtain ⟨A3, c3, rfl⟩ := own_form ho3
      have hWs := HW.out.size
      have HGW := hid (gr_new HW.out hg3 (by omega))
      have HM3 := hid (HM.out.grown hg3 (by simp; omega))
      have HV3 := hid (HV.out.grown HGW.out HM3.out)
      have HO := hid ho3
      have HR3 := hid hR3
      have HNE := hid hne
      have HLT := hid hlt
      have j0 := HV3.out.b0.cell 0; have j1 := HV3.out.b0.cell 1; have j2 := HV3.out.b0.cell 2; have j3 := HV3.out.b2.cell 0; have j4 := HV3.out.b3.cell 0
      simp only [List.getElem?_toArray, List.getElem?_cons_zero, List.getElem?_cons_succ] at j0 j1 j2 j3 j4
      have lg : gb < w3.heap.size := HV3.out.b0.lt
      have ln : nb < w3.heap.size := HV3.out.b2.lt
      have lm : mb < w3.heap.size := HV3.out.b3.lt
      have hsx : -1000 ≤ mx ∧ mx ≤ 1000 := hsm.1
      have HB4 := hid ((Below.refl w3.heap.size w3).alloc (Nat.le_refl _) (.cells #[.int .i64 mx, .int .i64 my] 72))
      clear hg3 hz3 ho3 hR3 hne hlt
      by_cases hb : mx < p
      · have g1 : decide (mx < (p : Int)) = true := decide_eq_true hb
        have hs4 := (Sl.of_own HO.out).below HB4.out
        have HS := hid (HTT.out M A3 (partL c p l a (mx, my)).length c3 (partL c p l a (mx, my)) (n : Int) _ rfl hs4 (HM3.out.keep HB4.out) (HV3.out.rise.filter _))
        clear hs4
        cases hsv : solvesL c p N n (partL c p l a (mx, my))
        · rw [hsv] at HS
          have HNG := hid (good_no HNE.out (by simp only; omega) hsv)
          clear hsv hb hsm
          go_wp2_with (go_at_call 55; (with_reducible refine HS.out.mono ?_); rintro e w5 ⟨rfl, g5, m5⟩; have HG5 := hid g5; have HM5 := hid m5; clear g5 m5)
          go_ret
          exact ⟨by rw [HNG.out]; rfl, gr_trans (gr_trans HGW.out (gr_below HB4.out)) HG5.out, HM5.out⟩
        · rw [hsv] at HS
          have HSV := hid hsv
          clear hsv hb hsm
          go_wp2_with (go_at_call 55; (with_reducible refine HS.out.mono ?_); rintro e w5 ⟨rfl, g5, m5⟩; have HG5 := hid g5; have HM5 := hid m5; clear g5 m5)
          go_roundg cnt'
          case measure => exact HLT.out
          case rel =>
            have hrl := HR3.out.below HB4.out
            exact ⟨hid ((hrl.keep HG5.out (by simp; omega) (by simp; omega) (by intro j hj; simp at hj; omega)).weak fun m hm => by
              rcases hm with h | rfl
              · exact h
              · exact .inr HSV.out), hid (gr_trans (gr_trans HGW.out (gr_below HB4.out)) HG5.out), HM5⟩
      · have g1 : decide (mx < (p : Int)) = false := decide_eq_false hb
        have hmp : mx = p := by
          obtain ⟨b, hbm⟩ := List.exists_mem_of_ne_nil _ HNE.out
          have h1 := (mem_part.1 hbm).2
          have h2 : black c a b p = mx := congrArg Prod.fst h1
          have := (hits_bd c a b p).2
          unfold black at h2
          omega
        have HMP := hid hmp
        clear hb hmp hsm
        go_wp2
        go_roundg cnt'
        case measure => exact HLT.out
        case rel =>
          exact ⟨hid ((HR3.out.below HB4.out).weak fun m hm => by
            rcases hm with h | rfl
            · exact h
            · exact .inl HMP.out), hid (gr_trans HGW.out (gr_below HB4.out)), hid (HM3.out.keep HB4.out)⟩
end Go.Proofs.Ytdclmhmdkhpekaa
