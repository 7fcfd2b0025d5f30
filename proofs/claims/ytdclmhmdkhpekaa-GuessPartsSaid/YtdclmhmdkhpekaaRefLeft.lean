/- Walks of the reference's Left and Need. Conditions: the numbers are a game; the history's guesses are codes. -/
import Derived.Test.YtdclmhmdkhpekaaTri
import Derived.Test.YtdclmhmdkhpekaaEnough
import Derived.Test.YtdclmhmdkhpekaaNeedP
namespace Go.Proofs.Ytdclmhmdkhpekaa
open Go.RowKit Go.Maps

/-- Is a code left by a history? The codes that are. -/
def fits (c : Int) (p : Nat) (hs : List Tri) (b : Int) : Bool := hs.all fun x => decide (black c x.1 b p = x.2.1) && decide (white c x.1 b p = x.2.2)
def leftL (c : Int) (p N : Nat) (hs : List Tri) : List Int := (upto N).filter (fits c p hs)
theorem left_rise (c : Int) (p N : Nat) (hs : List Tri) : Rise N (leftL c p N hs) := (rise_upto N).filter _
theorem left_nil (c : Int) (p N : Nat) : leftL c p N [] = upto N := by
  unfold leftL fits
  simp
def leftTo (c : Int) (p : Nat) (hs : List Tri) (k : Nat) : List Int := (upto k).filter (fits c p hs)
theorem leftTo_succ (c : Int) (p : Nat) (hs : List Tri) (k : Nat) : leftTo c p hs (k + 1) = leftTo c p hs k ++ (if fits c p hs k = true then [(k : Int)] else []) := by
  unfold leftTo
  rw [upto_succ, List.filter_append]
  congr 1
  cases h : fits c p hs (k : Int) <;> simp [h]
theorem leftTo_len (c : Int) (p : Nat) (hs : List Tri) (k : Nat) : (leftTo c p hs k).length ≤ k := by
  unfold leftTo
  exact Nat.le_trans (List.length_filter_le _ _) (by rw [upto_len]; omega)
theorem fits_take {c : Int} {p : Nat} {hs : List Tri} {b : Int} {j : Nat} {x : Tri} (hx : hs[j]? = some x) : fits c p (hs.take (j + 1)) b = (fits c p (hs.take j) b && (decide (black c x.1 b p = x.2.1) && decide (white c x.1 b p = x.2.2))) := by
  have e : hs.take (j + 1) = hs.take j ++ [x] := by rw [List.take_add_one, hx]; rfl
  unfold fits
  rw [e, List.all_append]
  simp

set_option maxRecDepth 100000 in
set_option maxHeartbeats 4000000 in
theorem refLeft (p : Nat) (c : Int) (N : Nat) (A : Option Addr) (n cp : Nat) (hs : List Tri) (W : World) (hp : p ≤ 4) (hc1 : 1 ≤ c) (hc2 : c ≤ 6) (hN : N ≤ 256) (hC : codes p c = N) (hsl : Slt W A n cp hs) (hb : ∀ x ∈ hs, 0 ≤ x.1 ∧ x.1 ≤ 1000) (hn : n ≤ 1000) :
    Calls Try.prog 45 #[.int .i64 p, .int .i64 c, .slice A n cp] W fun e w' => ∃ A' c', e = .returned (.slice A' (leftL c p N hs).length c') ∧ w'.ownsRow W.heap.size 3 1 (.slice A' (leftL c p N hs).length c') (leftL c p N hs).length ((leftL c p N hs).map (Value.int .i64)) ∧ Below W.heap.size W w' := by
  have HREF := hid fun W => (show Calls Try.prog 23 #[.int .i64 p, .int .i64 c] W fun e w' => e = .returned (.int .i64 N) ∧ W = w' from by rw [← hC]; exact refCodes p c W)
  have HLN := hid hsl.len; have HS := hid hsl; have HBD := hid hb
  clear hsl hb hC
  go_enter Try.func45, Try.ntmps45
  go_wp2_with (go_at_call 23; refine (HREF.out _).mono ?_; rintro e w' ⟨rfl, rfl⟩)
  go_loopg [7, 17] N (fun g v i wr => ∃ j : Nat, g + j = N ∧ i = .int .i64 j ∧ (∃ A' c', v = .slice A' (leftTo c p hs j).length c' ∧ wr.ownsRow W.heap.size 3 1 (.slice A' (leftTo c p hs j).length c') (leftTo c p hs j).length ((leftTo c p hs j).map (Value.int .i64))) ∧ Below W.heap.size W wr)
  case atStart => exact ⟨0, by omega, rfl, ⟨none, 0, rfl, World.ownsRow_nil _ _ _ _⟩, Below.refl _ _⟩
  case round =>
    obtain ⟨j, hj, rfl, ⟨A', c', rfl, ho⟩, hb⟩ := hrel
    have HJ := hid hj
    have HO := hid ho
    have hz := hb.size
    by_cases hlt : j < N
    · clear hj ho
      go_wp2
      obtain ⟨gO, rfl⟩ : ∃ g, g = gk := ⟨_, rfl⟩
      obtain ⟨wO, rfl⟩ : ∃ w, w = wr := ⟨_, rfl⟩
      go_loopg [9, 22] n (fun g ok i wx => ∃ q : Nat, g + q = n ∧ i = .int .i64 q ∧ ok = .bool (fits c p (hs.take q) (j : Int)) ∧ Hid (Below wO.heap.size wO wx))
      case atStart => exact ⟨0, by omega, rfl, by simp [fits], hid (Below.refl _ _)⟩
      case round =>
        obtain ⟨q, hq, rfl, rfl, hbx⟩ := hrel
        have HQ := hid hq
        have hzx := hbx.out.size
        by_cases hqn : q < n
        · obtain ⟨b, o, u, rfl, lb, hx, a0, a1, a2⟩ := ((HS.out.below hb).below hbx.out).at hqn
          have HFT := hid (fits_take (c := c) (p := p) (b := (j : Int)) hx)
          have hur := HBD.out u (List.mem_of_getElem? hx)
          obtain ⟨u0, u1, u2⟩ := u
          simp only at a0 a1 a2 hur
          have h0 : wr.cell? ⟨b, o + q * 3, none⟩ = some (.int .i64 u0) := a0
          have h1 : wr.cell? ⟨b, o + q * 3 + 1, none⟩ = some (.int .i64 u1) := a1
          have h2 : wr.cell? ⟨b, o + q * 3 + 2, none⟩ = some (.int .i64 u2) := a2
          have HM := hid fun W => refMarks p c u0 (j : Int) (by omega) hc1 hc2 hur.1 hur.2 (by omega) (by omega) W
          have hba := hid ((Below.refl wr.heap.size wr).alloc (Nat.le_refl _) (.cells #[.int .i64 u0, .int .i64 u1, .int .i64 u2] 65))
          have e1 : ((black c u0 (j : Int) p == u1) = true ∧ Hid (decide (black c u0 (j : Int) p = u1) = true)) ∨ ((black c u0 (j : Int) p == u1) = false ∧ Hid (decide (black c u0 (j : Int) p = u1) = false)) := by
            by_cases e : black c u0 (j : Int) p = u1
            · exact .inl ⟨by rw [beq_iff_eq]; exact e, hid (decide_eq_true e)⟩
            · exact .inr ⟨by rw [beq_eq_false_iff_ne]; exact e, hid (decide_eq_false e)⟩
          have e2 : ((white c u0 (j : Int) p == u2) = true ∧ Hid (decide (white c u0 (j : Int) p = u2) = true)) ∨ ((white c u0 (j : Int) p == u2) = false ∧ Hid (decide (white c u0 (j : Int) p = u2) = false)) := by
            by_cases e : white c u0 (j : Int) p = u2
            · exact .inl ⟨by rw [beq_iff_eq]; exact e, hid (decide_eq_true e)⟩
            · exact .inr ⟨by rw [beq_eq_false_iff_ne]; exact e, hid (decide_eq_false e)⟩
          clear hq hx a0 a1 a2
          cases hok : fits c p (hs.take q) (j : Int)
          · rw [hok] at HFT
            clear hok e1 e2
            go_wp2_with (go_at_call 21; refine (HM.out _).mono ?_; rintro e w2 ⟨rfl, hb2⟩; have HB2 := hid (hba.out.trans (hb2.mono (by simp))); clear hb2)
            go_roundg (gk - 1)
            case measure => have := HQ.out; omega
            case rel => exact ⟨q + 1, by have := HQ.out; omega, by go_num, by rw [HFT.out]; rfl, hid (below_call hbx.out HB2.out hzx)⟩
          · rw [hok] at HFT
            clear hok
            rcases e1 with ⟨e1, E1⟩ | ⟨e1, E1⟩
            · rcases e2 with ⟨e2, E2⟩ | ⟨e2, E2⟩
              all_goals
                go_wp2_with (go_at_call 21; refine (HM.out _).mono ?_; rintro e w2 ⟨rfl, hb2⟩; have hk : w2.cell? ⟨wr.heap.size, 1, none⟩ = some (.int .i64 u1) ∧ w2.cell? ⟨wr.heap.size, 2, none⟩ = some (.int .i64 u2) := ⟨cell_keep hb2 (by simp [go_sem]), cell_keep hb2 (by simp [go_sem])⟩; have hk1 := hk.1; have hk2 := hk.2; have HB2 := hid (hba.out.trans (hb2.mono (by simp))); clear hb2 hk)
                go_roundg (gk - 1)
                case measure => have := HQ.out; omega
                case rel => exact ⟨q + 1, by have := HQ.out; omega, by go_num, by rw [HFT.out]; rw [E1.out, E2.out]; rfl, hid (below_call hbx.out HB2.out hzx)⟩
            · clear e2
              go_wp2_with (go_at_call 21; refine (HM.out _).mono ?_; rintro e w2 ⟨rfl, hb2⟩; have hk : w2.cell? ⟨wr.heap.size, 1, none⟩ = some (.int .i64 u1) ∧ w2.cell? ⟨wr.heap.size, 2, none⟩ = some (.int .i64 u2) := ⟨cell_keep hb2 (by simp [go_sem]), cell_keep hb2 (by simp [go_sem])⟩; have hk1 := hk.1; have hk2 := hk.2; have HB2 := hid (hba.out.trans (hb2.mono (by simp))); clear hb2 hk)
              go_roundg (gk - 1)
              case measure => have := HQ.out; omega
              case rel => exact ⟨q + 1, by have := HQ.out; omega, by go_num, by rw [HFT.out]; rw [E1.out]; rfl, hid (below_call hbx.out HB2.out hzx)⟩
        · obtain rfl : q = n := by omega
          have et : hs.take q = hs := List.take_of_length_le (by have := HLN.out; omega)
          have HLS := hid (leftTo_succ c p hs j)
          have HLL := hid (leftTo_len c p hs j)
          have HBX := hid (below_call hb hbx.out hz)
          have HO2 := hid (own_below HO.out hbx.out)
          rw [et]
          clear hq et
          cases hok : fits c p hs (j : Int)
          · rw [hok] at HLS
            clear hok
            go_wp2
            go_roundg (gO - 1)
            case measure => have := HJ.out; omega
            case rel =>
              refine ⟨j + 1, by have := HJ.out; omega, by go_num, ⟨A', c', ?_, ?_⟩, HBX.out⟩
              · rw [HLS.out]; simp
              · rw [HLS.out]; simpa using HO2.out
          · rw [hok] at HLS
            clear hok
            have hlen := HLL.out
            have hz2 := HBX.out.size
            go_wp2_with (at_builtin; refine push1 TI wr #[.int .i64 (j : Int)] _ _ _ _ HO2.out _ _ rfl rfl rfl rfl rfl (by simp [Value.oneCell']) (by omega) (by omega) hz2 ?_; intro v1 w3 hown1 hgr; have hb1 : Below W.heap.size W w3 := below_push HBX.out HO2.out hgr hz2 (Nat.le_refl _); obtain ⟨A1, c1, rfl⟩ := own_form hown1; have HO3 := hid hown1; clear hown1 hgr)
            go_roundg (gO - 1)
            case measure => have := HJ.out; omega
            case rel =>
              have hl2 : (leftTo c p hs (j + 1)).length = (leftTo c p hs j).length + 1 := by rw [HLS.out]; simp
              refine ⟨j + 1, by have := HJ.out; omega, by go_num, ⟨A1, c1, by rw [hl2], ?_⟩, hb1⟩
              rw [hl2, HLS.out]
              simpa using HO3.out
    · obtain rfl : j = N := by omega
      clear hj
      go_wp2
      go_ret
      exact ⟨A', c', rfl, ho, hb⟩

set_option maxRecDepth 100000 in
set_option maxHeartbeats 4000000 in
theorem refNeed (p : Nat) (c : Int) (N : Nat) (w : World) (hp : 0 < codes p c) (hN : codes p c = N) (h27 : N ≤ 27) :
    Calls Try.prog 24 #[.int .i64 p, .int .i64 c] w fun e w' => (∃ n : Nat, e = .returned (.int .i64 n) ∧ Needs c p N n) ∧ Below w.heap.size w w' := by
  obtain ⟨G, hp1, hp4, hN1⟩ := game_of hp hN
  have HL := hid fun W => (show Calls Try.prog 45 #[.int .i64 p, .int .i64 c, .slice none 0 0] W fun e w' => ∃ A' c', e = .returned (.slice A' N c') ∧ Sl w' A' N c' ((upto N).map (Value.int .i64)) ∧ Below W.heap.size W w' from by
    refine (refLeft p c N none 0 0 [] W hp4 G.c1 G.c6 (by omega) hN (Slt.nil W) (by simp) (by omega)).mono ?_
    rintro e w' ⟨A', c', rfl, ho, hb⟩
    rw [left_nil, upto_len] at ho ⊢
    exact ⟨A', c', rfl, Sl.of_own ho, hb⟩)
  have HE := hid (enoughAll p c N hp4 G.c1 G.c6 (by omega) hN)
  have HG := hid G
  clear G hp hN
  go_enter Try.func24, Try.ntmps24
  go_wp2
  go_loopg [5] N (fun g i wr => ∃ j : Nat, g + j = N + 1 ∧ 1 ≤ j ∧ i = .int .i64 j ∧ (∀ q, 1 ≤ q → q < j → solvesL c p N q (upto N) = false) ∧ Hid (Below w.heap.size w wr))
  case atStart => exact ⟨1, rfl, by omega, rfl, fun q h1 h2 => by omega, hid (Below.refl _ _)⟩
  case round =>
    obtain ⟨j, hj, hj1, rfl, hno, hW⟩ := hrel
    have HJ := hid hj; have HNO := hid hno
    have hjN : j ≤ 60 := by
      rcases Nat.lt_or_ge N j with g | g
      · omega
      · omega
    have hwz := hW.out.size
    cases hs : solvesL c p N j (upto N)
    · have HSV := hid hs
      have hjlt : j < N := by
        rcases Nat.lt_or_ge j N with g | g
        · exact g
        · have h1 := HG.out.all_solved j (upto N) (rise_upto N) (by rw [upto_len]; exact g)
          rw [hs] at h1; cases h1
      clear hj hno hs
      go_wp2_with (first
        | (go_at_call 45; refine (HL.out _).mono ?_; rintro e w2 ⟨A2, c2, rfl, hs2, hb2⟩; have HS2 := hid hs2; have HB2 := hid hb2; clear hs2 hb2)
        | (go_at_call 57; have hcall := HE.out j (by omega) A2 N c2 (upto N) w2 HS2.out (rise_upto N); rw [HG.out.solves_eq j _ (rise_upto N), HSV.out] at hcall; refine hcall.mono ?_; clear hcall; rintro e w3 ⟨rfl, hb3⟩; have HB3 := hid hb3; clear hb3))
      go_roundg (gk - 1)
      case measure => have := HJ.out; omega
      case rel =>
        refine ⟨j + 1, by have := HJ.out; omega, by omega, by go_num, fun q h1 h2 => ?_, hid (below_call (below_call hW.out HB2.out hwz) HB3.out (Nat.le_trans hwz HB2.out.size))⟩
        rcases Nat.lt_or_ge q j with g | g
        · exact HNO.out q h1 g
        · have : q = j := by omega
          subst this; exact HSV.out
    · have HSV := hid hs
      clear hj hno hs
      go_wp2_with (first
        | (go_at_call 45; refine (HL.out _).mono ?_; rintro e w2 ⟨A2, c2, rfl, hs2, hb2⟩; have HS2 := hid hs2; have HB2 := hid hb2; clear hs2 hb2)
        | (go_at_call 57; have hcall := HE.out j (by omega) A2 N c2 (upto N) w2 HS2.out (rise_upto N); rw [HG.out.solves_eq j _ (rise_upto N), HSV.out] at hcall; refine hcall.mono ?_; clear hcall; rintro e w3 ⟨rfl, hb3⟩; have HB3 := hid hb3; clear hb3))
      go_ret
      exact ⟨⟨j, rfl, hj1, HSV.out, HNO.out⟩, below_call (below_call hW.out HB2.out hwz) HB3.out (Nat.le_trans hwz HB2.out.size)⟩
end Go.Proofs.Ytdclmhmdkhpekaa
