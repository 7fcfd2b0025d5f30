/- Walk of the reference's Property. Conditions: two to four nodes; a family of their pairs. -/
import Derived.Test.YtjddbglbodkihaaDoorExM
import Derived.Test.YtjddbglbodkihaaDoorSpW
import Derived.Test.YtjddbglbodkihaaDoorRefF
namespace Go.Proofs.YtjddbglbodkihaaDoor
open Go.RowKit

theorem movP_lt {m : Nat} (h4 : m ≤ 4) : ∀ (p : List Nat) (g : Nat), (∀ k ∈ p, k < m - 1) → g < 2 ^ nP m → movP m g p < 2 ^ nP m := by
  intro p
  induction p with
  | nil => intro g _ hg; exact hg
  | cons k p ih =>
    intro g hk hg
    refine ih (movF g (toL m k)) (fun j hj => hk j (by simp [hj])) (movF_bd ?_)
    refine (exL_bd ⟨m, by omega⟩ (toL m k) ?_).2
    show toL m k ∈ exL m
    unfold exL
    exact List.mem_map.2 ⟨k, List.mem_range.2 (hk k (by simp)), rfl⟩
theorem exS_lt {m g x y : Nat} (h2 : 2 ≤ m) (h4 : m ≤ 4) (hg : g < 2 ^ nP m) (hx : x < m) (hy : y < x) : exS m g x y (pairsL m) < 2 ^ nP m := by
  rw [path_all h2 h4 hg hx hy]
  exact movP_lt h4 _ _ (fun k hk => by have := path_mem hk; omega) hg
/-- What the reference's Property has looked at: graph g, all x below X, and y below Y for X. -/
def Seen1 (m F g X Y : Nat) : Prop := (∀ x y, x < X → y < x → F.testBit (exS m g x y (pairsL m)) = true) ∧ ∀ y, y < Y → F.testBit (exS m g X y (pairsL m)) = true
theorem Later.blk {w w' : World} {b : Nat} {t : TypeId} {cs : Array Value} (h : Later w w') (k : Blk w b t cs) : Blk w' b t cs := by
  obtain ⟨q, rfl⟩ := h; exact k.drewN q
theorem Later.below {w w' : World} (h : Later w w') (B : Nat) : Below B w w' := by
  obtain ⟨q, rfl⟩ := h; exact below_drewN (Below.refl _ _) q
set_option maxRecDepth 100000 in
set_option maxHeartbeats 4000000 in
theorem refProperty (m : Nat) (A : Option Addr) (k c : Nat) (xs : List Int) (w : World) (h2 : 2 ≤ m) (h4 : m ≤ 4) (hs : Sl w A k c (xs.map (Value.int .i64))) (H : Fam (nP m : Nat) xs) :
    Calls Tryd.prog 48 #[.int .i64 m, .slice A k c] w fun e w' => (∃ b, e = .returned (.bool b) ∧ (b = true ↔ ExchA m (setF xs))) ∧ Below w.heap.size w w' := by
  have hn6 := nP_bd ⟨m, by omega⟩
  simp only at hn6
  have hle := hs.len_le
  have HPA := hid fun W => refPairs m W h2 h4
  have HTA := hid (tableF (nP m) A k c xs w hs hn6 (fun x hx => H.nlt hx))
  have HS := hid hs
  have HLX := hid hs.numlen
  have HBD := hid fun j (hj : j < xs.length) => H.nlt (at0_mem hj)
  have HEX := hid fun g x y (hy : y < x) (hx : x < m) W => exchangedS m g x y W h4 hy hx
  have HEL := hid fun g x y (hg : g < 2 ^ nP m) (hx : x < m) (hy : y < x) => exS_lt h2 h4 hg hx hy
  have HMM := hid fun j (hj : j < xs.length) => (show (setF xs).testBit (at0 xs j).toNat = true from (setF_mem (fun x hx => (H.nlt hx).1) _).2 (by rw [Int.toNat_of_nonneg (H.nlt (at0_mem hj)).1]; exact at0_mem hj))
  have HAT := hid fun g (hg : (setF xs).testBit g = true) => (show ∃ j, j < xs.length ∧ (at0 xs j).toNat = g from by
    have hm := (setF_mem (fun x hx => (H.nlt hx).1) g).1 hg
    obtain ⟨j, hj, hje⟩ := List.mem_iff_getElem.1 hm
    exact ⟨j, hj, by rw [at0_get ((List.getElem?_eq_getElem hj).trans (congrArg some hje))]; rfl⟩)
  generalize setF xs = F at *
  generalize nP m = n at *
  obtain ⟨N, hN⟩ : ∃ N, 2 ^ n = N := ⟨_, rfl⟩
  rw [hN] at HTA HBD HEL
  have hN64 : N ≤ 64 := by rw [← hN]; exact two64 hn6
  clear hs H hN
  go_enter Tryd.func48, Tryd.ntmps48
  go_wp2_with fail
  refine (HPA.out _).mono ?_; rintro e w' ⟨rfl, rfl⟩
  go_wp2_with fail
  refine (HTA.out).mono ?_; rintro e w1 ⟨rfl, hbl, hb⟩
  have HB1 := hid hb
  have HT1 := hid hbl
  clear hb hbl
  go_wp2
  go_loopg [16] k (fun gk i wr => ∃ d : Nat, gk + d = k ∧ i = .int .i64 d ∧ Hid (∀ j, j < d → Seen1 m F (at0 xs j).toNat m 0) ∧ Hid (Blk wr w.heap.size 4 (barr N F.testBit)) ∧ Hid (Below w.heap.size w wr))
  case atStart => exact ⟨0, by omega, rfl, hid fun j hj => absurd hj (by omega), HT1, HB1⟩
  case round =>
    obtain ⟨d, hd, rfl, HSE, HT, HB⟩ := hrel
    have HD := hid hd
    by_cases hlt : d < k
    · have HLT := hid hlt
      obtain ⟨b, o, rfl, lb, hdx, c1⟩ := (HS.out.below HB.out).num hlt
      obtain ⟨m0, m1⟩ := HBD.out d hdx
      obtain ⟨g, hg⟩ := Int.eq_ofNat_of_zero_le m0
      have HMX := hid (HMM.out d hdx)
      rw [hg] at c1 m1
      have HG := hid hg
      have hgN : g < N := by omega
      clear hd hdx m0 m1 hg lb
      go_wp2
      go_loopg [21] m (fun gx i wr => ∃ x : Nat, gx + x = m ∧ i = .int .i64 x ∧ Hid (Seen1 m F g x 0) ∧ Hid (Blk wr w.heap.size 4 (barr N F.testBit)) ∧ Hid (Below w.heap.size w wr))
      case atStart => exact ⟨0, by omega, rfl, hid ⟨fun x y h => absurd h (by omega), fun y h => absurd h (by omega)⟩, HT, HB⟩
      case round =>
        obtain ⟨x, hx, rfl, HS1, HT, HB⟩ := hrel
        have HX := hid hx
        by_cases hlx : x < m
        · have HLX1 := hid hlx
          clear hx
          go_wp2
          go_loopg [25] x (fun gy i wr => ∃ y : Nat, gy + y = x ∧ i = .int .i64 y ∧ Hid (Seen1 m F g x y) ∧ Hid (Blk wr w.heap.size 4 (barr N F.testBit)) ∧ Hid (Below w.heap.size w wr))
          case atStart => exact ⟨0, by omega, rfl, HS1, HT, HB⟩
          case round =>
            obtain ⟨y, hy, rfl, HS2, HT, HB⟩ := hrel
            have HY := hid hy
            by_cases hly : y < x
            · have HLY := hid hly
              have HC := hid (HEX.out g x y hly hlx wr)
              have hel := HEL.out g x y hgN hlx hly
              have HS3 := HS2.out
              have hnx : F.testBit (exS m g x y (pairsL m)) = true → Seen1 m F g x (y + 1) := fun he => ⟨HS3.1, fun z hz => by
                by_cases e : z = y
                · subst e; exact he
                · exact HS3.2 z (by omega)⟩
              have hbad : F.testBit (exS m g x y (pairsL m)) = false → ¬ ExchA m F := fun he h => by
                have := h g (by have := HMX.out; rw [HG.out, Int.toNat_natCast] at this; exact this) x y hlx hly
                rw [he] at this; cases this
              have HNX := hid hnx
              have HBAD := hid hbad
              have HEI := hid hel
              generalize exS m g x y (pairsL m) = ev at *
              cases hv : F.testBit ev
              · have HBA := hid (HBAD.out hv)
                clear hy hnx hbad HS3
                go_wp2_with fail
                refine (HC.out).mono ?_; rintro e w5 ⟨rfl, hlat⟩
                have HB5 := hid (below_call HB.out (hlat.below wr.heap.size) HB.out.size)
                have f0 := (hlat.blk HT.out).cell ev
                rw [barr_get HEI.out, hv] at f0
                clear hlat hv
                go_wp2
                go_ret
                exact ⟨⟨false, rfl, ⟨fun h => (by cases h), fun h => absurd h HBA.out⟩⟩, HB5.out⟩
              · have HNA := hid (HNX.out hv)
                clear hy hnx hbad HS3
                go_wp2_with fail
                refine (HC.out).mono ?_; rintro e w5 ⟨rfl, hlat⟩
                have HB5 := hid (below_call HB.out (hlat.below wr.heap.size) HB.out.size)
                have HT5 := hid (hlat.blk HT.out)
                have f0 := HT5.out.cell ev
                rw [barr_get HEI.out, hv] at f0
                clear hlat hv
                go_wp2
                go_roundg (gk - 1)
                case measure => have := HY.out; have := HLY.out; omega
                case rel => exact ⟨y + 1, by have := HY.out; have := HLY.out; omega, by go_num, HNA, HT5, HB5⟩
            · obtain rfl : y = x := by have := HY.out; omega
              have HS4 := hid (show Seen1 m F g (y + 1) 0 from ⟨fun a b ha hb => by
                by_cases e : a = y
                · subst e; exact HS2.out.2 b hb
                · exact HS2.out.1 a b (by omega) hb, fun z h => absurd h (by omega)⟩)
              clear hy hly
              go_wp2
              go_roundg (m - y - 1)
              case measure => have := HX.out; have := HLX1.out; omega
              case rel => exact ⟨y + 1, by have := HLX1.out; omega, by go_num, HS4, HT, HB⟩
        · obtain rfl : x = m := by have := HX.out; omega
          have HSN := hid (show ∀ j, j < d + 1 → Seen1 x F (at0 xs j).toNat x 0 from fun j hj => by
            by_cases e : j = d
            · subst e; rw [HG.out, Int.toNat_natCast]; exact HS1.out
            · exact HSE.out j (by omega))
          clear hx hlx
          go_wp2
          go_roundg (k - d - 1)
          case measure => have := HD.out; have := HLT.out; omega
          case rel => exact ⟨d + 1, by have := HD.out; have := HLT.out; omega, by go_num, HSN, HT, HB⟩
    · obtain rfl : d = k := by have := HD.out; omega
      have HR := hid (show ExchA m F from fun g hg x y hx hy => by
        obtain ⟨j, hj, hje⟩ := HAT.out g hg
        have := (HSE.out j (by have := HLX.out; omega)).1 x y hx hy
        rwa [hje] at this)
      clear hd hlt
      go_wp2
      go_ret
      exact ⟨⟨true, rfl, ⟨fun _ => HR.out, fun _ => rfl⟩⟩, HB.out⟩
end Go.Proofs.YtjddbglbodkihaaDoor
