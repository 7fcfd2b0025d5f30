/- Walk of family.length. Conditions: the slice reads as nodes that are well formed; views of at most six elements. -/
import Derived.Test.YtjddbglbodkihaaDoorPlanM
import Derived.Test.YtjddbglbodkihaaDoorSettle
import Derived.Test.YtjddbglbodkihaaDoorProdM
import Derived.Deep.RegionHeld3
namespace Go.Proofs.YtjddbglbodkihaaDoor
open Go.RowKit
attribute [local go_sem ↓] shl_p2 shl_u or_u shr_u and_shrF shr_v and_shr andNot_v and_nn or_i

theorem then0 (a i x : Nat) (w : World) (ha : a < 64) (hi : i < 64) (hx : x ≤ 5) :
    Calls Tryd.prog 97 #[.agg #[.int .i64 a, .int .i64 i], .int .i64 x, .bool false] w fun e w' => e = .returned (.agg #[.int .i64 (ad a x : Nat), .int .i64 i]) ∧ Below w.heap.size w w' :=
  thenF a i x false w (by omega) (by omega) (by omega)
theorem then1 (a i x : Nat) (w : World) (ha : a < 64) (hi : i < 64) (hx : x ≤ 5) :
    Calls Tryd.prog 97 #[.agg #[.int .i64 a, .int .i64 i], .int .i64 x, .bool true] w fun e w' => e = .returned (.agg #[.int .i64 (ad a x : Nat), .int .i64 (ad i x : Nat)]) ∧ Below w.heap.size w w' :=
  thenF a i x true w (by omega) (by omega) (by omega)
/-- A node of a list, or none. -/
def atOk (L : Nat) (r : Int) : Prop := r = -1 ∨ (0 ≤ r ∧ r < L)
theorem goOk.atOk {j L : Nat} {z : Int} (h : goOk j L z) : atOk L z := by
  rcases h with h | h
  · exact .inl h
  · exact .inr (by omega)
/-- What length tells of the views with d elements left. -/
def LenTo (n F : Nat) (T : Option Addr) (L k : Nat) (ts : List Nd) (d : Nat) : Prop := ∀ r a i W, un n a = d → View n a i → atOk L r → Sl3 W T L k ts →
  Calls Tryd.prog 76 #[.agg #[.int .i64 n, .int .u64 F], .slice T L k, .int .i64 r, .agg #[.int .i64 a, .int .i64 i]] W fun e w' => e = .returned (.tuple #[.int .i64 (lenN n F ts r a i).1, .bool (lenN n F ts r a i).2]) ∧ Below W.heap.size W w'
theorem len_bd (n F : Nat) (ts : List Nd) : ∀ d r a i, (lenK n F ts d r a i).1 ≤ d := by
  intro d
  induction d with
  | zero => intro r a i; exact Nat.le_refl _
  | succ d ih =>
    intro r a i
    unfold lenK
    split
    · exact Nat.zero_le _
    · dsimp only
      split
      · exact Nat.zero_le _
      · split
        · exact Nat.zero_le _
        · have h1 := ih (nd ts r).zero (ad a (nd ts r).pt.toNat) i
          have h2 := ih (nd ts r).one (ad a (nd ts r).pt.toNat) (ad i (nd ts r).pt.toNat)
          dsimp only
          omega
set_option maxRecDepth 100000 in
set_option maxHeartbeats 8000000 in
theorem lenStep (n F : Nat) (T : Option Addr) (L k : Nat) (ts : List Nd) (d : Nat) (hn : n ≤ 6) (hF : F < 18446744073709551616) (hok : ∀ j u, ts[j]? = some u → ndOk n j L u) (IH : ∀ j, j + 1 = d → LenTo n F T L k ts j) : LenTo n F T L k ts d := by
  intro r a i w hd hv hr hs
  have ha := hv.lt
  have hi := hv.ilt
  have h64 := two6 hn
  have HSE := hid fun W => settledF n F a i W hn hF (by omega)
  have HB2 := hid (((Below.refl w.heap.size w).alloc (Nat.le_refl _) (.cells #[.int .i64 n, .int .u64 F] 72)).alloc (by simp) (.cells #[.int .i64 a, .int .i64 i] 87))
  have HF2 := hid ((Blk.new w 72 #[.int .i64 n, .int .u64 F]).alloc (.cells #[.int .i64 a, .int .i64 i] 87))
  have HV2 := hid (Blk.new_at (w.alloc (.cells #[.int .i64 n, .int .u64 F] 72)) 87 #[.int .i64 a, .int .i64 i] (n := w.heap.size + 1) (by simp))
  by_cases hr1 : r = -1
  · rw [len_stop (.inl hr1)]
    subst hr1
    rw [decide_eq_true rfl, Bool.true_and]
    clear hd hv hr hs IH ha hi h64 hok
    generalize settl (2 ^ n) F.testBit a i = b at *
    go_enter Tryd.func76, Tryd.ntmps76
    go_wp2_with fail
    refine (HSE.out _).mono ?_; rintro e w1 ⟨rfl, b1⟩
    have HB3 := hid (below_call HB2.out b1 HB2.out.size)
    clear b1
    go_wp2
    go_ret2
    exact ⟨rfl, HB3.out⟩
  · have q1 : (r == -1) = false := by rw [beq_eq_false_iff_ne]; exact hr1
    cases hst : settl (2 ^ n) F.testBit a i
    · obtain ⟨r, rfl⟩ := Int.eq_ofNat_of_zero_le (show 0 ≤ r by rcases hr with h | h; exact absurd h hr1; exact h.1)
      have hrL : r < L := by rcases hr with h | h; exact absurd h hr1; omega
      rw [hst] at HSE
      obtain ⟨b1, o, hTe, lb, hx, a0, a1, a2⟩ := hs.at hrL
      have hnd := hok r _ hx
      have HLG := fun h => len_go (F := F) (i := i) (ts := ts) hr1 hst h
      have hLL := hs.len_le
      have HS3 := hid hs
      generalize hnd0 : nd ts (r : Int) = u at *
      obtain ⟨pt, ze, on⟩ := u
      obtain ⟨⟨p0, p1⟩, g0, g1⟩ := hnd
      simp only at p0 p1 g0 g1 a0 a1 a2 HLG
      obtain ⟨x, rfl⟩ := Int.eq_ofNat_of_zero_le p0
      have hxn : x < n := by omega
      have HLG := hid (HLG (by rw [Int.toNat_natCast]; exact hxn))
      rw [Int.toNat_natCast] at HLG
      have z0 := g0.atOk; have z1 := g1.atOk
      clear hnd0 hx g0 g1 p0 p1 hok
      subst hTe
      have HB4 := hid (HB2.out.alloc HB2.out.size (.cells #[.int .i64 x, .int .i64 ze, .int .i64 on] 94))
      have FX : Fits (x : Int) := ⟨by omega, by omega⟩
      have e5 : ((x : Int)).toNat = x := Int.toNat_natCast x
      cases hbit : a.testBit x
      · have g := bitV_no hbit
        have HI0 := hid fun W s1 => IH (un n (ad a x)) (by have := un_ad hxn hbit; omega) ze (ad a x) i W rfl (hv.out hxn) z0 s1
        have HI1 := hid fun W s1 => IH (un n (ad a x)) (by have := un_ad hxn hbit; omega) on (ad a x) (ad i x) W rfl (hv.inn hxn) z1 s1
        rw [hbit] at HLG
        simp only [Bool.false_eq_true, if_false] at HLG
        have HT0 := hid fun W => then0 a i x W (by omega) (by omega) (by omega)
        have HT1 := hid fun W => then1 a i x W (by omega) (by omega) (by omega)
        have hb0 := len_bd n F ts (un n (ad a x)) ze (ad a x) i
        have hb1 := len_bd n F ts (un n (ad a x)) on (ad a x) (ad i x)
        have hu6 := un_le n (ad a x)
        have hb0' : (lenN n F ts ze (ad a x) i).1 ≤ 6 := by unfold lenN; omega
        have hb1' : (lenN n F ts on (ad a x) (ad i x)).1 ≤ 6 := by unfold lenN; omega
        rw [HLG.out]
        clear IH hb0 hb1 HLG
        generalize lenN n F ts ze (ad a x) i = P0 at *
        generalize lenN n F ts on (ad a x) (ad i x) = P1 at *
        obtain ⟨l0, o0⟩ := P0
        obtain ⟨l1, o1⟩ := P1
        dsimp only at hb0' hb1'
        have H4 := hid (show ∀ W, W = (w.alloc (.cells #[.int .i64 n, .int .u64 F] 72)).alloc (.cells #[.int .i64 a, .int .i64 i] 87) → True from fun _ _ => trivial)
        clear hbit hst hv hr hs ha hi h64 z0 z1 hu6 hd H4
        go_enter Tryd.func76, Tryd.ntmps76
        go_wp2_with fail
        refine (HSE.out _).mono ?_; rintro e w1 ⟨rfl, b5⟩
        have HB3 := hid (below_call HB2.out b5 HB2.out.size)
        have HF3 := hid (HF2.out.keep b5)
        have HV3 := hid (HV2.out.keep b5)
        have y0 := (HB3.out.cell (p := ⟨b1, o + r * 3, none⟩) lb).trans a0
        have y1 := (HB3.out.cell (p := ⟨b1, o + (r * 3 + 1), none⟩) lb).trans a1
        have y2 := (HB3.out.cell (p := ⟨b1, o + (r * 3 + 2), none⟩) lb).trans a2
        rw [← Nat.add_assoc] at y1 y2
        have lb3 : b1 < w1.heap.size := by have := HB3.out.size; omega
        have v0 := HV3.out.cell 0
        have vlt := HV3.out.lt
        simp only [List.getElem?_toArray, List.getElem?_cons_zero] at v0
        clear b5 a0 a1 a2 lb
        go_wp2_with fail
        have HB5 := hid (HB3.out.alloc HB3.out.size (.cells #[.int .i64 x, .int .i64 ze, .int .i64 on] 94))
        have HF5 := hid (HF3.out.alloc (.cells #[.int .i64 x, .int .i64 ze, .int .i64 on] 94))
        have HV5 := hid (HV3.out.alloc (.cells #[.int .i64 x, .int .i64 ze, .int .i64 on] 94))
        have HN5 := hid (Blk.new w1 94 #[.int .i64 x, .int .i64 ze, .int .i64 on])
        clear y0 y1 y2 lb3 v0 vlt
        refine at_world fun W5 hW5 => ?_
        rw [← hW5] at HB5 HF5 HV5 HN5
        clear hW5
        have HB5 := hid HB5.out.drew; have HF5 := hid HF5.out.drew; have HV5 := hid HV5.out.drew; have HN5 := hid HN5.out.drew
        have cs : W5.drew.cell? ⟨w.heap.size, 0, none⟩ = some (.int .i64 n) ∧ W5.drew.cell? ⟨w.heap.size, 1, none⟩ = some (.int .u64 F) ∧ W5.drew.cell? ⟨w.heap.size + 1, 0, none⟩ = some (.int .i64 a) ∧ W5.drew.cell? ⟨w.heap.size + 1, 1, none⟩ = some (.int .i64 i) ∧ W5.drew.cell? ⟨w1.heap.size, 0, none⟩ = some (.int .i64 x) ∧ W5.drew.cell? ⟨w1.heap.size, 1, none⟩ = some (.int .i64 ze) := ⟨HF5.out.cell 0, HF5.out.cell 1, HV5.out.cell 0, HV5.out.cell 1, HN5.out.cell 0, HN5.out.cell 1⟩
        obtain ⟨s1, s2, s3, s4, s5, s6⟩ := cs
        go_region_held3 (fun w' => w'.cell? ⟨w.heap.size, 0, none⟩ = some (.int .i64 n) ∧ w'.cell? ⟨w.heap.size, 1, none⟩ = some (.int .u64 F) ∧ w'.cell? ⟨w.heap.size + 1, 0, none⟩ = some (.int .i64 a) ∧ w'.cell? ⟨w.heap.size + 1, 1, none⟩ = some (.int .i64 i) ∧ w'.cell? ⟨w1.heap.size, 0, none⟩ = some (.int .i64 x) ∧ w'.cell? ⟨w1.heap.size, 1, none⟩ = some (.int .i64 ze)) (first | assumption | go_keep)
          ((first
            | (go_at_call 76; have _h := HX5.out; refine (HI0.out _ (HS3.out.below HX5.out)).mono ?_; rintro e w7 ⟨rfl, bb5⟩; have hk7 : w7.cell? ⟨w.heap.size, 0, none⟩ = some (.int .i64 n) ∧ w7.cell? ⟨w.heap.size, 1, none⟩ = some (.int .u64 F) ∧ w7.cell? ⟨w.heap.size + 1, 0, none⟩ = some (.int .i64 a) ∧ w7.cell? ⟨w.heap.size + 1, 1, none⟩ = some (.int .i64 i) ∧ w7.cell? ⟨w1.heap.size, 0, none⟩ = some (.int .i64 x) ∧ w7.cell? ⟨w1.heap.size, 1, none⟩ = some (.int .i64 ze) := ⟨cell_keep bb5 hk6.1, cell_keep bb5 hk6.2.1, cell_keep bb5 hk6.2.2.1, cell_keep bb5 hk6.2.2.2.1, cell_keep bb5 hk6.2.2.2.2.1, cell_keep bb5 hk6.2.2.2.2.2⟩; have HB7 := hid (below_call HX5.out bb5 HX5.out.size); have HF7 := hid (HFX5.out.keep bb5); have HV7 := hid (HVX5.out.keep bb5); have HN7 := hid (HNX5.out.keep bb5); clear bb5)
            | (go_at_call 97; refine (HT0.out _).mono ?_; rintro e w6 ⟨rfl, bb5⟩; have hk6 : w6.cell? ⟨w.heap.size, 0, none⟩ = some (.int .i64 n) ∧ w6.cell? ⟨w.heap.size, 1, none⟩ = some (.int .u64 F) ∧ w6.cell? ⟨w.heap.size + 1, 0, none⟩ = some (.int .i64 a) ∧ w6.cell? ⟨w.heap.size + 1, 1, none⟩ = some (.int .i64 i) ∧ w6.cell? ⟨w1.heap.size, 0, none⟩ = some (.int .i64 x) ∧ w6.cell? ⟨w1.heap.size, 1, none⟩ = some (.int .i64 ze) := ⟨cell_keep bb5 s1, cell_keep bb5 s2, cell_keep bb5 s3, cell_keep bb5 s4, cell_keep bb5 s5, cell_keep bb5 s6⟩; have HX5 := hid (below_call HB5.out bb5 HB5.out.size); have HFX5 := hid (HF5.out.keep bb5); have HVX5 := hid (HV5.out.keep bb5); have HNX5 := hid (HN5.out.keep bb5); clear bb5)))
        cases o0
        · go_wp2
          go_ret2
          exact ⟨rfl, HB7.out⟩
        · go_wp2_with fail
          have HB8 := hid HB7.out.drew; have HF8 := hid HF7.out.drew; have HV8 := hid HV7.out.drew; have HN8 := hid HN7.out.drew
          clear s1 s2 s3 s4 s5 s6 HB7 HF7 HV7 HN7 HB5 HF5 HV5 HN5
          have ct : w7.drew.cell? ⟨w.heap.size, 0, none⟩ = some (.int .i64 n) ∧ w7.drew.cell? ⟨w.heap.size, 1, none⟩ = some (.int .u64 F) ∧ w7.drew.cell? ⟨w.heap.size + 1, 0, none⟩ = some (.int .i64 a) ∧ w7.drew.cell? ⟨w.heap.size + 1, 1, none⟩ = some (.int .i64 i) ∧ w7.drew.cell? ⟨w1.heap.size, 0, none⟩ = some (.int .i64 x) ∧ w7.drew.cell? ⟨w1.heap.size, 2, none⟩ = some (.int .i64 on) := ⟨HF8.out.cell 0, HF8.out.cell 1, HV8.out.cell 0, HV8.out.cell 1, HN8.out.cell 0, HN8.out.cell 2⟩
          obtain ⟨t1, t2, t3, t4, t5, t6⟩ := ct
          go_region_held3 (fun w' => w'.cell? ⟨w.heap.size, 0, none⟩ = some (.int .i64 n) ∧ w'.cell? ⟨w.heap.size, 1, none⟩ = some (.int .u64 F) ∧ w'.cell? ⟨w.heap.size + 1, 0, none⟩ = some (.int .i64 a) ∧ w'.cell? ⟨w.heap.size + 1, 1, none⟩ = some (.int .i64 i) ∧ w'.cell? ⟨w1.heap.size, 0, none⟩ = some (.int .i64 x) ∧ w'.cell? ⟨w1.heap.size, 2, none⟩ = some (.int .i64 on)) (first | assumption | go_keep)
            ((first
              | (go_at_call 76; have _h := HX8.out; refine (HI1.out _ (HS3.out.below HX8.out)).mono ?_; rintro e w10 ⟨rfl, bb8⟩; have hk10 : w10.cell? ⟨w.heap.size, 0, none⟩ = some (.int .i64 n) ∧ w10.cell? ⟨w.heap.size, 1, none⟩ = some (.int .u64 F) ∧ w10.cell? ⟨w.heap.size + 1, 0, none⟩ = some (.int .i64 a) ∧ w10.cell? ⟨w.heap.size + 1, 1, none⟩ = some (.int .i64 i) ∧ w10.cell? ⟨w1.heap.size, 0, none⟩ = some (.int .i64 x) ∧ w10.cell? ⟨w1.heap.size, 2, none⟩ = some (.int .i64 on) := ⟨cell_keep bb8 hk9.1, cell_keep bb8 hk9.2.1, cell_keep bb8 hk9.2.2.1, cell_keep bb8 hk9.2.2.2.1, cell_keep bb8 hk9.2.2.2.2.1, cell_keep bb8 hk9.2.2.2.2.2⟩; have HB10 := hid (below_call HX8.out bb8 HX8.out.size); have HF10 := hid (HFX8.out.keep bb8); have HV10 := hid (HVX8.out.keep bb8); have HN10 := hid (HNX8.out.keep bb8); clear bb8)
              | (go_at_call 97; refine (HT1.out _).mono ?_; rintro e w9 ⟨rfl, bb8⟩; have hk9 : w9.cell? ⟨w.heap.size, 0, none⟩ = some (.int .i64 n) ∧ w9.cell? ⟨w.heap.size, 1, none⟩ = some (.int .u64 F) ∧ w9.cell? ⟨w.heap.size + 1, 0, none⟩ = some (.int .i64 a) ∧ w9.cell? ⟨w.heap.size + 1, 1, none⟩ = some (.int .i64 i) ∧ w9.cell? ⟨w1.heap.size, 0, none⟩ = some (.int .i64 x) ∧ w9.cell? ⟨w1.heap.size, 2, none⟩ = some (.int .i64 on) := ⟨cell_keep bb8 t1, cell_keep bb8 t2, cell_keep bb8 t3, cell_keep bb8 t4, cell_keep bb8 t5, cell_keep bb8 t6⟩; have HX8 := hid (below_call HB8.out bb8 HB8.out.size); have HFX8 := hid (HF8.out.keep bb8); have HVX8 := hid (HV8.out.keep bb8); have HNX8 := hid (HN8.out.keep bb8); clear bb8)))
          all_goals go_wp2
          all_goals go_ret2
          all_goals (refine ⟨?_, HB10.out⟩)
          all_goals first
            | (have e : ((1 + max l0 l1 : Nat) : Int) = 1 + (l1 : Int) := by omega
               exact congrArg (fun z => Ending.returned (Value.tuple #[.int .i64 z, .bool o1])) e.symm)
            | (have e : ((1 + max l0 l1 : Nat) : Int) = 1 + (l0 : Int) := by omega
               exact congrArg (fun z => Ending.returned (Value.tuple #[.int .i64 z, .bool o1])) e.symm)
      · have g := bitV_yes hbit
        rw [hbit] at HLG
        simp only [if_true] at HLG
        rw [HLG.out]
        clear hbit hst hv hr hs IH ha hi h64 z0 z1 HLG hd
        go_enter Tryd.func76, Tryd.ntmps76
        go_wp2_with fail
        refine (HSE.out _).mono ?_; rintro e w1 ⟨rfl, b5⟩
        have HB3 := hid (below_call HB2.out b5 HB2.out.size)
        have HV3 := hid (HV2.out.keep b5)
        have y0 := (HB3.out.cell (p := ⟨b1, o + r * 3, none⟩) lb).trans a0
        have y1 := (HB3.out.cell (p := ⟨b1, o + (r * 3 + 1), none⟩) lb).trans a1
        have y2 := (HB3.out.cell (p := ⟨b1, o + (r * 3 + 2), none⟩) lb).trans a2
        rw [← Nat.add_assoc] at y1 y2
        have lb3 : b1 < w1.heap.size := by have := HB3.out.size; omega
        have v0 := HV3.out.cell 0
        have vlt := HV3.out.lt
        simp only [List.getElem?_toArray, List.getElem?_cons_zero] at v0
        have HB6 := hid (HB3.out.alloc HB3.out.size (.cells #[.int .i64 x, .int .i64 ze, .int .i64 on] 94))
        clear b5 a0 a1 a2 lb
        go_wp2
        go_ret2
        exact ⟨rfl, HB6.out⟩
    · rw [len_stop (.inr hst), decide_eq_false hr1, Bool.false_and]
      rw [hst] at HSE
      clear hd hv hr hs IH ha hi h64 hst hok
      go_enter Tryd.func76, Tryd.ntmps76
      go_wp2_with fail
      refine (HSE.out _).mono ?_; rintro e w1 ⟨rfl, b1⟩
      have HB3 := hid (below_call HB2.out b1 HB2.out.size)
      clear b1
      go_wp2
      go_ret2
      exact ⟨rfl, HB3.out⟩
theorem lenS (n F : Nat) (T : Option Addr) (L k : Nat) (ts : List Nd) (hn : n ≤ 6) (hF : F < 18446744073709551616) (hok : ∀ j u, ts[j]? = some u → ndOk n j L u) : ∀ d, LenTo n F T L k ts d := by
  intro d
  induction d with
  | zero => exact lenStep n F T L k ts 0 hn hF hok fun j h => absurd h (by omega)
  | succ d ih =>
    refine lenStep n F T L k ts (d + 1) hn hF hok fun j h => ?_
    have e : j = d := by omega
    subst e; exact ih
end Go.Proofs.YtjddbglbodkihaaDoor
