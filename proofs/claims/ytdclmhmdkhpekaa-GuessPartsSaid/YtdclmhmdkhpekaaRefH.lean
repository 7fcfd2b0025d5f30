/- Walks of the reference's History and Next. Conditions: the numbers are a game; the slices read as lists. -/
import Derived.Test.YtdclmhmdkhpekaaLeftP
import Derived.Test.YtdclmhmdkhpekaaWorstP
namespace Go.Proofs.Ytdclmhmdkhpekaa
open Go.RowKit Go.Maps

theorem hist_len {p N : Nat} {hs : List Tri} (h : ∀ x ∈ hs, triOk p N x) : histOk p N hs = decide (hs.length ≤ 10) := by
  by_cases h10 : hs.length ≤ 10
  · rw [decide_eq_true h10]; exact hist_iff.2 ⟨h10, h⟩
  · rw [decide_eq_false h10]
    cases e : histOk p N hs
    · rfl
    · exact absurd (hist_iff.1 e).1 h10
theorem hist_bad {p N : Nat} {hs : List Tri} {x : Tri} (hx : x ∈ hs) (h : ¬ triOk p N x) : histOk p N hs = false := by
  cases e : histOk p N hs
  · rfl
  · exact absurd ((hist_iff.1 e).2 x hx) h

set_option maxRecDepth 100000 in
set_option maxHeartbeats 4000000 in
theorem refHist (p : Nat) (c : Int) (N : Nat) (A : Option Addr) (n cp : Nat) (hs : List Tri) (W : World) (hp : p ≤ 4) (hC : codes p c = N) (hsl : Slt W A n cp hs) :
    Calls Try.prog 44 #[.int .i64 p, .int .i64 c, .slice A n cp] W fun e w' => e = .returned (.bool (histOk p N hs)) ∧ Below W.heap.size W w' := by
  have HREF := hid fun W => (show Calls Try.prog 23 #[.int .i64 p, .int .i64 c] W fun e w' => e = .returned (.int .i64 N) ∧ W = w' from by rw [← hC]; exact refCodes p c W)
  have HLN := hid hsl.len; have HS := hid hsl
  have hnm := hsl.len_le
  clear hsl hC
  go_enter Try.func44, Try.ntmps44
  go_wp2
  go_loopg [11] n (fun g i wr => ∃ j : Nat, g + j = n ∧ i = .int .i64 j ∧ Hid (∀ x ∈ hs.take j, triOk p N x) ∧ Hid (Below W.heap.size W wr))
  case atStart => exact ⟨0, by omega, rfl, hid (by simp), hid (Below.refl _ _)⟩
  case round =>
    obtain ⟨j, hj, rfl, hALL, hb⟩ := hrel
    have HJ := hid hj
    have hz := hb.out.size
    by_cases hlt : j < n
    · obtain ⟨b, o, u, rfl, lb, hx, a0, a1, a2⟩ := (HS.out.below hb.out).at hlt
      have HX := hid hx
      obtain ⟨u0, u1, u2⟩ := u
      simp only at a0 a1 a2
      have h0 : wr.cell? ⟨b, o + j * 3, none⟩ = some (.int .i64 u0) := a0
      have h1 : wr.cell? ⟨b, o + j * 3 + 1, none⟩ = some (.int .i64 u1) := a1
      have h2 : wr.cell? ⟨b, o + j * 3 + 2, none⟩ = some (.int .i64 u2) := a2
      have HBX := hid (hb.out.alloc (show W.heap.size ≤ wr.heap.size by omega) (.cells #[.int .i64 u0, .int .i64 u1, .int .i64 u2] 65))
      by_cases hu : triOk p N (u0, u1, u2)
      · have HU := hid hu
        simp only [triOk] at hu
        have t0 : decide (u0 < 0) = false := decide_eq_false (by omega)
        have t1 : decide ((N : Int) ≤ u0) = false := decide_eq_false (by omega)
        have t2 : decide (u1 < 0) = false := decide_eq_false (by omega)
        have t3 : decide ((p : Int) < u1) = false := decide_eq_false (by omega)
        have t4 : decide (u2 < 0) = false := decide_eq_false (by omega)
        have t5 : decide ((p : Int) < u2) = false := decide_eq_false (by omega)
        clear hj hx a0 a1 a2 hu
        go_wp2_with fail
        go_quiet ((go_at_call 23; with_reducible exact quiet_same2 (HREF.out _)))
        go_wp2
        go_roundg (gk - 1)
        case measure => have := HJ.out; omega
        case rel =>
          refine ⟨j + 1, by have := HJ.out; omega, by go_num, hid ?_, hid (below_drewN HBX.out _)⟩
          rw [List.take_add_one, HX.out]
          intro x hx
          rcases List.mem_append.1 hx with h | h
          · exact hALL.out x h
          · simp at h; subst h; exact HU.out
      · have HF := hid (hist_bad (List.mem_of_getElem? hx) hu)
        simp only [triOk] at hu
        have hcase : (u0 < 0) ∨ (¬ u0 < 0 ∧ (N : Int) ≤ u0) ∨ (¬ u0 < 0 ∧ ¬ (N : Int) ≤ u0 ∧ u1 < 0) ∨ (¬ u0 < 0 ∧ ¬ (N : Int) ≤ u0 ∧ ¬ u1 < 0 ∧ (p : Int) < u1) ∨ (¬ u0 < 0 ∧ ¬ (N : Int) ≤ u0 ∧ ¬ u1 < 0 ∧ ¬ (p : Int) < u1 ∧ u2 < 0) ∨ (¬ u0 < 0 ∧ ¬ (N : Int) ≤ u0 ∧ ¬ u1 < 0 ∧ ¬ (p : Int) < u1 ∧ ¬ u2 < 0 ∧ (p : Int) < u2) := by omega
        clear hj hx a0 a1 a2 hu
        rcases hcase with q | ⟨q1, q⟩ | ⟨q1, q2, q⟩ | ⟨q1, q2, q3, q⟩ | ⟨q1, q2, q3, q4, q⟩ | ⟨q1, q2, q3, q4, q5, q⟩
        · have q' := decide_eq_true q
          clear q
          go_wp2_with fail
          go_quiet ((go_at_call 23; with_reducible exact quiet_same2 (HREF.out _)))
          go_wp2
          go_ret
          exact ⟨by rw [HF.out]; rfl, below_drewN HBX.out _⟩
        · have q' := decide_eq_true q
          have t1 := decide_eq_false q1
          clear q q1
          go_wp2_with fail
          go_quiet ((go_at_call 23; with_reducible exact quiet_same2 (HREF.out _)))
          go_wp2
          go_ret
          exact ⟨by rw [HF.out]; rfl, below_drewN HBX.out _⟩
        · have q' := decide_eq_true q
          have t1 := decide_eq_false q1
          have t2 := decide_eq_false q2
          clear q q1 q2
          go_wp2_with fail
          go_quiet ((go_at_call 23; with_reducible exact quiet_same2 (HREF.out _)))
          go_wp2
          go_ret
          exact ⟨by rw [HF.out]; rfl, below_drewN HBX.out _⟩
        · have q' := decide_eq_true q
          have t1 := decide_eq_false q1
          have t2 := decide_eq_false q2
          have t3 := decide_eq_false q3
          clear q q1 q2 q3
          go_wp2_with fail
          go_quiet ((go_at_call 23; with_reducible exact quiet_same2 (HREF.out _)))
          go_wp2
          go_ret
          exact ⟨by rw [HF.out]; rfl, below_drewN HBX.out _⟩
        · have q' := decide_eq_true q
          have t1 := decide_eq_false q1
          have t2 := decide_eq_false q2
          have t3 := decide_eq_false q3
          have t4 := decide_eq_false q4
          clear q q1 q2 q3 q4
          go_wp2_with fail
          go_quiet ((go_at_call 23; with_reducible exact quiet_same2 (HREF.out _)))
          go_wp2
          go_ret
          exact ⟨by rw [HF.out]; rfl, below_drewN HBX.out _⟩
        · have q' := decide_eq_true q
          have t1 := decide_eq_false q1
          have t2 := decide_eq_false q2
          have t3 := decide_eq_false q3
          have t4 := decide_eq_false q4
          have t5 := decide_eq_false q5
          clear q q1 q2 q3 q4 q5
          go_wp2_with fail
          go_quiet ((go_at_call 23; with_reducible exact quiet_same2 (HREF.out _)))
          go_wp2
          go_ret
          exact ⟨by rw [HF.out]; rfl, below_drewN HBX.out _⟩
    · obtain rfl : j = n := by omega
      have et : hs.take j = hs := List.take_of_length_le (by have := HLN.out; omega)
      rw [et] at hALL
      have HE := hid (hist_len hALL.out)
      have hl := HLN.out
      clear hj et
      go_wp2
      go_ret
      exact ⟨by rw [HE.out, hl]; simp; omega, hb.out⟩

set_option maxRecDepth 100000 in
set_option maxHeartbeats 4000000 in
theorem refNext (p : Nat) (c : Int) (N : Nat) (A : Option Addr) (n cp : Nat) (l : List Int) (W : World) (hp : p ≤ 4) (hc1 : 1 ≤ c) (hc2 : c ≤ 6) (hN1 : 1 ≤ N) (hN : N ≤ 256) (hC : codes p c = N) (hs : Sl W A n cp (l.map (Value.int .i64))) (hr : Rise N l) :
    Calls Try.prog 46 #[.int .i64 p, .int .i64 c, .slice A n cp] W fun e w' => e = .returned (.int .i64 (nextL c p N l)) ∧ Below W.heap.size W w' := by
  have HREF := hid fun W => (show Calls Try.prog 23 #[.int .i64 p, .int .i64 c] W fun e w' => e = .returned (.int .i64 N) ∧ W = w' from by rw [← hC]; exact refCodes p c W)
  have hlen : l.length = n := by simpa using hs.len
  have hln := hr.le
  have HLN := hid hlen; have HS := hid hs; have HR := hid hr
  have HW := hid fun (a : Nat) (w1 : World) (ha : a < N) (hb : Below W.heap.size W w1) => refWorst p c A n cp l (a : Int) w1 hp hc1 hc2 (hs.below hb) (fun x hx => by have := hr.mem x hx; omega) (by omega) (by omega)
  have HLE := hid (least_one (c := c) (p := p) (l := l) (s := 257) (s' := l.length + 1) (by omega) (by omega) (k := N) (by omega))
  have HWL := hid (worst_le c p l)
  have hn256 : n ≤ 256 := by omega
  have HPOS := hid (best_pos (c := c) (p := p) (l := l) (s := 257) (N := N) (by omega) (by omega))
  clear hlen hs hr hC hln
  go_enter Try.func46, Try.ntmps46
  go_wp2_with (go_at_call 23; refine (HREF.out _).mono ?_; rintro e w' ⟨rfl, rfl⟩)
  go_loopg [7, 16] N (fun g o i wr => ∃ j : Nat, g + j = N ∧ i = .int .i64 j ∧ o = .int .i64 (leastTo c p l 257 j) ∧ leastTo c p l 257 j ≤ 257 ∧ Hid (Below W.heap.size W wr))
  case atStart => exact ⟨0, by omega, rfl, rfl, by simp [leastTo], hid (Below.refl _ _)⟩
  case round =>
    obtain ⟨j, hj, rfl, rfl, hle, hb⟩ := hrel
    have HJ := hid hj
    have hz := hb.out.size
    by_cases hlt : j < N
    · have hcall := HW.out j wr hlt hb.out
      have hstep : leastTo c p l 257 (j + 1) = min (leastTo c p l 257 j) (worstL c p l j) := rfl
      have HST := hid hstep
      have hwl := HWL.out (j : Int)
      have HCA := hid hcall
      have hl0 := HLN.out
      clear hj hcall hstep
      generalize worstL c p l (j : Int) = k at *
      generalize leastTo c p l 257 j = m at *
      have hc : (k < m) ∨ (m ≤ k) := by omega
      rcases hc with hc | hc
      all_goals
        have g1 : decide ((k : Int) < (m : Int)) = decide (k < m) := by simp
        go_wp2_with (go_at_call 47; refine HCA.out.mono ?_; rintro e w2 ⟨rfl, hb2⟩; have HB2 := hid (below_call hb.out hb2 hz); clear hb2)
        all_goals (try omega)
        go_roundg (gk - 1)
        case measure => have := HJ.out; omega
        case rel => exact ⟨j + 1, by have := HJ.out; omega, by go_num, by rw [HST.out]; congr 2; omega, by rw [HST.out]; omega, HB2⟩
    · obtain rfl : j = N := by omega
      have HM := hid (show nextL c p j l = pickL (bestTo c p l (leastTo c p l 257 j) j) l by unfold nextL; rw [HLE.out])
      have HPO := hid HPOS.out
      clear hj
      generalize hm : leastTo c p l 257 j = m at *
      have HB0 := hb
      clear hb hm
      go_wp2_with (go_at_call 23; refine (HREF.out _).mono ?_; rintro e w' ⟨rfl, rfl⟩)
      go_loopg [9, 30] j (fun g f i wx => ∃ q : Nat, g + q = j ∧ i = .int .i64 q ∧ (∃ f0 : Int, f = .int .i64 f0 ∧ Hid ((f0 = -1 ∧ bestTo c p l m q = []) ∨ (0 ≤ f0 ∧ bestTo c p l m q ≠ [] ∧ (bestTo c p l m q).headD 0 = f0))) ∧ Hid (∀ a ∈ bestTo c p l m q, a ∉ l) ∧ Hid (Below W.heap.size W wx))
      case atStart => exact ⟨0, by omega, rfl, ⟨-1, rfl, hid (.inl ⟨rfl, rfl⟩)⟩, hid (by simp [bestTo, upto]), HB0⟩
      case round =>
        obtain ⟨q, hq, rfl, ⟨f0, rfl, hF⟩, hno, hbx⟩ := hrel
        have HQ := hid hq
        have hzx := hbx.out.size
        by_cases hlt2 : q < j
        · have HCA := hid (HW.out q wr hlt2 hbx.out)
          have hwl := HWL.out (q : Int)
          have hl0 := HLN.out
          generalize hk : worstL c p l (q : Int) = k at *
          have HK := hid hk
          clear hq hk
          by_cases he : k = m
          · subst he
            have g1 : ((k : Int) == (k : Int)) = true := by simp
            have HB : Hid (bestTo c p l k (q + 1) = bestTo c p l k q ++ [(q : Int)]) := hid (best_hit HK.out)
            have hf : (decide (f0 < 0) = true ∧ Hid (bestTo c p l k q = [])) ∨ (decide (f0 < 0) = false ∧ Hid (0 ≤ f0 ∧ bestTo c p l k q ≠ [] ∧ (bestTo c p l k q).headD 0 = f0)) := by
              rcases hF.out with ⟨h1, h2⟩ | h
              · exact .inl ⟨decide_eq_true (by omega), hid h2⟩
              · exact .inr ⟨decide_eq_false (by have := h.1; omega), hid h⟩
            have key : (decide (f0 < 0) = true ∧ Hid (((q : Int) = -1 ∧ bestTo c p l k (q + 1) = []) ∨ (0 ≤ (q : Int) ∧ bestTo c p l k (q + 1) ≠ [] ∧ (bestTo c p l k (q + 1)).headD 0 = (q : Int)))) ∨ (decide (f0 < 0) = false ∧ Hid ((f0 = -1 ∧ bestTo c p l k (q + 1) = []) ∨ (0 ≤ f0 ∧ bestTo c p l k (q + 1) ≠ [] ∧ (bestTo c p l k (q + 1)).headD 0 = f0))) := by
              rcases hf with ⟨h1, h2⟩ | ⟨h1, h2⟩
              · exact .inl ⟨h1, hid (.inr ⟨by omega, by rw [HB.out]; simp, by rw [HB.out, h2.out]; rfl⟩)⟩
              · refine .inr ⟨h1, hid (.inr ⟨h2.out.1, by rw [HB.out]; simp, ?_⟩)⟩
                rw [HB.out, ← h2.out.2.2]
                have h3 := h2.out.2.1
                cases hbb : bestTo c p l k q with
                | nil => exact absurd hbb h3
                | cons a t => rfl
            clear hf hF
            rcases key with ⟨hf3, HF1⟩ | ⟨hf3, HF1⟩
            all_goals
              go_wp2_with (go_at_call 47; refine HCA.out.mono ?_; rintro e w2 ⟨rfl, hb2⟩; have HB2 := hid (below_call hbx.out hb2 hzx); clear hb2)
              obtain ⟨gO, rfl⟩ : ∃ g, g = gk := ⟨_, rfl⟩
              have hz2 := HB2.out.size
              go_loopg [45] n (fun g i wy => ∃ t : Nat, g + t = n ∧ i = .int .i64 t ∧ Hid (∀ x ∈ l.take t, x ≠ (q : Int)) ∧ w2 = wy)
              case atStart => exact ⟨0, by omega, rfl, hid (by simp), rfl⟩
              case round =>
                obtain ⟨t, ht, rfl, hne, rfl⟩ := hrel
                have HTT := hid ht
                by_cases htn : t < n
                · obtain ⟨b, o, u, rfl, lb, hx, hcl⟩ := HS.out.at2 HB2.out htn
                  rw [List.getElem?_map] at hx
                  obtain ⟨x, hxl, rfl⟩ := Option.map_eq_some_iff.1 hx
                  have HX := hid hxl
                  clear ht hx hxl
                  by_cases hxq : x = (q : Int)
                  · have g2 : (x == (q : Int)) = true := beq_iff_eq.2 hxq
                    have HA : Hid (nextL c p j l = q) := hid (by rw [HM.out]; exact pick_hit hlt2 HK.out hno.out (by rw [← hxq]; exact List.mem_of_getElem? HX.out))
                    clear hxq
                    go_wp2
                    go_ret
                    exact ⟨by rw [HA.out]; rfl, HB2.out⟩
                  · have g2 : (x == (q : Int)) = false := beq_eq_false_iff_ne.2 hxq
                    have HNE := hid hxq
                    clear hxq
                    go_wp2
                    go_roundg (gk - 1)
                    case measure => have := HTT.out; omega
                    case rel =>
                      refine ⟨t + 1, by have := HTT.out; omega, by go_num, hid ?_, rfl⟩
                      rw [List.take_add_one, HX.out]
                      intro y hy
                      rcases List.mem_append.1 hy with h | h
                      · exact hne.out y h
                      · simp at h; subst h; exact HNE.out
                · obtain rfl : t = n := by omega
                  have et : l.take t = l := List.take_of_length_le (by omega)
                  rw [et] at hne
                  clear ht et
                  go_wp2
                  go_roundg (gO - 1)
                  case measure => have := HQ.out; omega
                  case rel => exact ⟨q + 1, by have := HQ.out; omega, by go_num, ⟨_, rfl, HF1⟩, hid (by
                    rw [HB.out]
                    intro a ha hal
                    rcases List.mem_append.1 ha with h | h
                    · exact hno.out a h hal
                    · simp at h; subst h; exact hne.out _ hal rfl), HB2⟩
          · have g1 : ((k : Int) == (m : Int)) = false := beq_eq_false_iff_ne.2 (by omega)
            have HB : Hid (bestTo c p l m (q + 1) = bestTo c p l m q) := hid (best_miss (by rw [HK.out]; exact he))
            clear he
            go_wp2_with (go_at_call 47; refine HCA.out.mono ?_; rintro e w2 ⟨rfl, hb2⟩; have HB2 := hid (below_call hbx.out hb2 hzx); clear hb2)
            go_roundg (gk - 1)
            case measure => have := HQ.out; omega
            case rel => exact ⟨q + 1, by have := HQ.out; omega, by go_num, ⟨f0, rfl, by rw [HB.out]; exact hF⟩, by rw [HB.out]; exact hno, HB2⟩
        · obtain rfl : q = j := by omega
          have HA : Hid (nextL c p q l = f0) := hid (by
            rw [HM.out, pick_none hno.out]
            rcases hF.out with ⟨_, h⟩ | ⟨_, _, h⟩
            · exact absurd h HPO.out
            · exact h)
          clear hq
          go_wp2
          go_ret
          exact ⟨by rw [HA.out]; rfl, hbx.out⟩
end Go.Proofs.Ytdclmhmdkhpekaa
