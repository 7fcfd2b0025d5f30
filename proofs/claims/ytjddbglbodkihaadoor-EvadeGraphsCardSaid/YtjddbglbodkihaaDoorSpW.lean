/- Walk of family.spread. Conditions: two to four nodes; a family of their pairs; the table of the library stands. -/
import Derived.Test.YtjddbglbodkihaaDoorSpM
import Derived.Test.YtjddbglbodkihaaDoorExW
import Derived.Test.YtjddbglbodkihaaDoorClose
import Derived.Test.YtjddbglbodkihaaDoorList
namespace Go.Proofs.YtjddbglbodkihaaDoor
open Go.RowKit

theorem eq72 (a b c d : Int) (w : World) : (Op.equalIn 10000 72 (.agg #[.int .i64 a, .int .u64 b]) (.agg #[.int .i64 c, .int .u64 d])).run Tryd.prog w = .ok (a == c && b == d) w := by
  have u3 := Tryd.underlying3
  have a3 := Tryd.isAgg3
  have z3 := Tryd.sizeOf3
  have u70 := Tryd.underlying70
  have a70 := Tryd.isAgg70
  have z70 := Tryd.sizeOf70
  have hS : Tryd.prog.underlying 72 = some (.struct (Tryd.prog.fieldsOf 72)) := by kernel_rfl
  have hp : Tryd.prog.stoodInHeld 72 = false := by kernel_rfl
  rw [show (10000 : Nat) = 9999 + 1 from rfl, run_equalIn_agg w 9999 72 _ _ hS hp]
  simp only [Program.fieldsOf, Tryd.underlying72]
  go_simp
  by_cases h1 : a = c <;> by_cases h2 : b = d <;> simp [h1, h2]
attribute [local go_sem] eq72
attribute [local go_sem ↓] shl_p2 shl_u or_u shr_u and_shrF
theorem LL.setCell {w : World} {base : Nat} {vs : List Value} {ls : List (List Int)} (h : LL w base vs ls) {a : Addr} (ha : a.block < base) (u : Value) : LL (w.setCell a u) base vs ls :=
  ⟨h.1, fun j v l h1 h2 => ownsRow_setCell_below (h.2 j v l h1 h2) ha u⟩
theorem LL.drewN {w : World} {base : Nat} {vs : List Value} {ls : List (List Int)} (h : LL w base vs ls) (k : Nat) : LL (w.drewN k) base vs ls := h
theorem LL.drew {w : World} {base : Nat} {vs : List Value} {ls : List (List Int)} (h : LL w base vs ls) : LL w.drew base vs ls := h
theorem exL_bd : ∀ m : Fin 5, ∀ l ∈ exL m.val, l.length = nP m.val ∧ ∀ x ∈ l, 0 ≤ x ∧ x < nP m.val := by decide
theorem nP_bd : ∀ m : Fin 5, nP m.val ≤ 6 := by decide
theorem exL_len (m : Nat) : (exL m).length = m - 1 := by unfold exL; simp
theorem movF_bd {n s : Nat} : ∀ {tt : List Int}, (∀ x ∈ tt, 0 ≤ x ∧ x < (n : Nat)) → movF s tt < 2 ^ n := by
  intro tt h
  apply lt_of_bits
  suffices hh : ∀ (l : List (Int × Nat)) (o : Nat), (∀ p ∈ l, 0 ≤ p.1 ∧ p.1 < n) → (∀ i, o.testBit i = true → i < n) → ∀ i, (l.foldl (fun o p => o ||| ((s.testBit p.2).toNat <<< p.1.toNat)) o).testBit i = true → i < n by
    exact hh _ 0 (fun p hp => h _ (List.fst_mem_of_mem_zipIdx hp)) (fun i hi => by simp at hi)
  intro l
  induction l with
  | nil => intro o _ h2 i hi; exact h2 i hi
  | cons p l ih =>
    intro o h1 h2 i hi
    rw [List.foldl_cons] at hi
    refine ih _ (fun q hq => h1 q (List.mem_cons_of_mem _ hq)) (fun j hj => ?_) i hi
    rw [Nat.testBit_or] at hj
    rcases orE hj with hj | hj
    · exact h2 j hj
    · have hp := h1 p (by simp)
      cases hb : s.testBit p.2
      · rw [hb] at hj; simp at hj
      · rw [hb] at hj
        have e : (true.toNat <<< p.1.toNat) = 1 <<< p.1.toNat := rfl
        rw [e, Nat.one_shiftLeft, Nat.testBit_two_pow] at hj
        have := of_decide_eq_true hj
        omega
set_option maxRecDepth 100000 in
set_option maxHeartbeats 4000000 in
theorem spreadF (m F : Nat) (w : World) (hm2 : 2 ≤ m) (hm : m ≤ 4) (hF : F < 2 ^ (2 ^ nP m)) (hT : Tab w) :
    Calls Tryd.prog 83 #[.agg #[.int .i64 (nP m : Nat), .int .u64 F], .int .i64 m] w fun e w' => (∃ G : Nat, e = .returned (.agg #[.int .i64 (nP m : Nat), .int .u64 G]) ∧ Spr m F G) ∧ Below w.heap.size w w' := by
  have hn6 := nP_bd ⟨m, by omega⟩
  have HEL := hid (exL_len m)
  have HEB := hid (exL_bd ⟨m, by omega⟩)
  simp only at hn6 HEB
  have HCL := hid fun G W (h : G < 2 ^ (2 ^ nP m)) => closedF (nP m) G W hn6 h
  have HLI := hid fun G W (h : G < 2 ^ (2 ^ nP m)) (hb : Below w.heap.size w W) => listF (nP m : Nat) G W (fam64 hn6 h) (hT.below hb)
  have HEX := hid fun W => exchangesS m W hm hm2
  have HB0 := hid (((Below.refl w.heap.size w).alloc (Nat.le_refl _) (.cells #[.int .i64 (nP m : Nat), .int .u64 F] 72)).alloc (by simp) (.cells #[.int .i64 0, .int .u64 0] 72))
  have HK0 := hid ((Blk.new w 72 #[.int .i64 (nP m : Nat), .int .u64 F]).alloc (.cells #[.int .i64 0, .int .u64 0] 72))
  have HK1 := hid (Blk.new_at (w.alloc (.cells #[.int .i64 (nP m : Nat), .int .u64 F] 72)) 72 #[.int .i64 0, .int .u64 0] (n := w.heap.size + 1) (by simp))
  have h64 := two64 hn6
  have HN64 := hid h64
  have HFB := hid fun G (h : G < 2 ^ (2 ^ nP m)) => fam64 hn6 h
  have HF := hid hF
  have HSA := hid fun (Fc G : Nat) (hc : Clo (nP m) Fc G) (hs : SubF F Fc) (h : SpS m F G (famL 64 G.testBit) Fc (famL 64 G.testBit).length 0) => SpS.same hc hs h hn6
  clear hT hF
  generalize hnn : nP m = n at *
  go_enter Tryd.func83, Tryd.ntmps83
  go_wp2
  go_loopg [5] (18446744073709551616 - F) (fun gk t5 wr => ∃ (Fc : Nat), gk = 18446744073709551616 - Fc ∧ Fc < 2 ^ (2 ^ n) ∧ SubF F Fc ∧ Lst m F Fc ∧ Hid (Blk wr w.heap.size 72 #[.int .i64 n, .int .u64 Fc]) ∧ Hid (Blk wr (w.heap.size + 1) 72 #[.int .i64 0, .int .u64 0]) ∧ Hid (Below w.heap.size w wr))
  case atStart => exact ⟨F, rfl, HF.out, SubF.refl _, fun S h _ _ _ => h, HK0, HK1, HB0⟩
  case round =>
    obtain ⟨Fc, hgk, hFc, hsub, hlst, HA, HC, HB⟩ := hrel
    have HGK := hid hgk
    have f0 := HA.out.cell 0; have f1 := HA.out.cell 1
    simp only [List.getElem?_toArray, List.getElem?_cons_zero, List.getElem?_cons_succ] at f0 f1
    clear hgk
    go_wp2_with fail
    refine (HCL.out Fc _ hFc).mono ?_; rintro e w2 ⟨⟨G, rfl, hclo⟩, hb⟩
    have HB2 := hid ((below_call HB.out hb HB.out.size).alloc (below_call HB.out hb HB.out.size).size (.cells #[.int .i64 n, .int .u64 G] 72))
    have HA2 := hid ((HA.out.keep hb).alloc (.cells #[.int .i64 n, .int .u64 G] 72))
    have HC2 := hid ((HC.out.keep hb).alloc (.cells #[.int .i64 n, .int .u64 G] 72))
    have HX2 := hid (Blk.new w2 72 #[.int .i64 n, .int .u64 G])
    have HBX := hid (show w.heap.size + 1 < w2.heap.size from (HC.out.keep hb).lt)
    have hX1 : w2.heap.size + 1 = (w2.alloc (.cells #[.int .i64 n, .int .u64 G] 72)).heap.size := by simp
    have HX1 := hid hX1
    clear hb f0 f1 hX1
    go_wp2_with fail
    generalize w2.alloc (.cells #[.int .i64 n, .int .u64 G] 72) = W2 at *
    refine (HLI.out G _ hclo.lt HB2.out).mono ?_; rintro e w3 ⟨A3, c3, rfl, ho, hb⟩
    have HB3 := hid (below_call HB2.out hb HB2.out.size)
    have HA3 := hid (HA2.out.keep hb)
    have HC3 := hid (HC2.out.keep hb)
    have HX3 := hid (HX2.out.keep hb)
    have HL3 := hid (own_more ho (show w2.heap.size + 1 ≤ W2.heap.size from Nat.le_of_eq HX1.out))
    have HM := hid fun d (hd : d < (famL 64 G.testBit).length) => mem_famL.1 (at0_mem hd)
    have HGL := hid hclo.lt
    have hll := famL_len 64 G.testBit
    have HS3 := hid (sp_start (l := famL 64 G.testBit) (by rw [hnn]; exact hclo) hlst)
    have HSAM := hid fun (h : SpS m F G (famL 64 G.testBit) Fc (famL 64 G.testBit).length 0) => HSA.out Fc G hclo hsub h
    have HCLO := hid hclo
    generalize hl : famL 64 G.testBit = l at *
    generalize w2.heap.size = X at *
    clear hb ho HA2 HC2 HX2 HB2 HX1 hl hclo
    go_wp2
    go_loopg [15] l.length (fun gj i wr => ∃ (d N : Nat), gj + d = l.length ∧ i = .int .i64 d ∧ Hid (SpS m F G l N d 0) ∧ Hid (Blk wr w.heap.size 72 #[.int .i64 n, .int .u64 Fc]) ∧ Hid (Blk wr (w.heap.size + 1) 72 #[.int .i64 0, .int .u64 0]) ∧ Hid (Blk wr X 72 #[.int .i64 n, .int .u64 N]) ∧ Hid (Below w.heap.size w wr) ∧ Hid (wr.ownsRow (X + 1) 3 1 (.slice A3 l.length c3) l.length (l.map (Value.int .i64))))
    case atStart => exact ⟨0, G, by omega, rfl, HS3, HA3, HC3, HX3, HB3, HL3⟩
    case round =>
      obtain ⟨d, N, hd, rfl, HS, HA, HC, HX, HB, HL⟩ := hrel
      have HD := hid hd
      by_cases hlt : d < l.length
      · have HLT := hid hlt
        obtain ⟨b, o, hA3, lb, hdx, c1⟩ := (Sl.of_own HL.out).num hlt
        obtain ⟨m0, m1, mG⟩ := HM.out d hlt
        obtain ⟨x, hx⟩ := Int.eq_ofNat_of_zero_le m0
        rw [hx] at c1 mG m1
        have HXE := hid hx
        have HGX := hid mG
        subst hA3
        clear hd hdx m0 m1 mG hx lb
        go_wp2_with fail
        refine (HEX.out _).mono ?_; rintro e w4 ⟨A4, c4, vs, rfl, ho, hll4, hb⟩
        have HB4 := hid (below_call HB.out hb HB.out.size)
        have HA4 := hid (HA.out.keep hb)
        have HC4 := hid (HC.out.keep hb)
        have HX4 := hid (HX.out.keep hb)
        have HL4 := hid (own_below HL.out hb)
        have hxw : X + 1 ≤ wr.heap.size := HX.out.lt
        have HO4 := hid (own_more ho hxw)
        have HLL4 : Hid (LL w4 (X + 1) vs (exL m)) := hid ⟨hll4.1, fun j v l h1 h2 => own_more (hll4.2 j v l h1 h2) hxw⟩
        clear hb ho hll4 hxw c1
        go_wp2
        go_loopg [22] (m - 1) (fun gq i wr => ∃ (q N : Nat), gq + q = m - 1 ∧ i = .int .i64 q ∧ Hid (SpS m F G l N d q) ∧ Hid (Blk wr w.heap.size 72 #[.int .i64 n, .int .u64 Fc]) ∧ Hid (Blk wr (w.heap.size + 1) 72 #[.int .i64 0, .int .u64 0]) ∧ Hid (Blk wr X 72 #[.int .i64 n, .int .u64 N]) ∧ Hid (Below w.heap.size w wr) ∧ Hid (wr.ownsRow (X + 1) 3 1 (.slice (some ⟨b, o, none⟩) l.length c3) l.length (l.map (Value.int .i64))) ∧ Hid (wr.ownsRow (X + 1) 22 1 (.slice A4 (m - 1) c4) (m - 1) vs) ∧ Hid (LL wr (X + 1) vs (exL m)))
        case atStart => exact ⟨0, N, by omega, rfl, HS, HA4, HC4, HX4, HB4, HL4, HO4, HLL4⟩
        case round =>
          obtain ⟨q, N, hq, rfl, HS, HA, HC, HX, HB, HL, HO, HLL⟩ := hrel
          have HQ := hid hq
          by_cases hltq : q < m - 1
          · have HLQ := hid hltq
            obtain ⟨b2, o2, u, hA4, lb2, hu, ca⟩ := (Sl.of_own HO.out).at hltq
            have hql : q < (exL m).length := by rw [HEL.out]; exact hltq
            obtain ⟨tt, htt⟩ : ∃ tt, (exL m)[q]? = some tt := ⟨_, List.getElem?_eq_getElem hql⟩
            have hown := HLL.out.2 q u tt hu htt
            obtain ⟨A5, c5, rfl⟩ := own_form hown
            obtain ⟨htl, htb⟩ := HEB.out tt (List.mem_of_getElem? htt)
            have hsl := Sl.of_own hown
            have hsd : Sl wr.drew A5 tt.length c5 (tt.map (Value.int .i64)) := ⟨hsl.len, hsl.cap, hsl.capm, hsl.pos⟩
            have HMV := hid (movedS x A5 tt.length c5 tt wr.drew hsd (fun y hy => by have := htb y hy; omega) (by omega))
            have hmv := movF_bd (s := x) htb
            have HSN := hid (HS.out.step htt (by rw [HXE.out]; exact HGX.out) (by rw [HXE.out, Int.toNat_natCast, hnn]; exact hmv))
            rw [HXE.out, Int.toNat_natCast] at HSN
            have hNl := HS.out.lt
            rw [hnn] at hNl
            have OR : OrF N ((movF x tt : Nat) : Int) := ⟨HFB.out N hNl, by omega, by omega⟩
            have FR : FitF ((movF x tt : Nat) : Int) := ⟨by omega, by omega⟩
            have HOI : Hid (orI N ((movF x tt : Nat) : Int) = N ||| (1 <<< movF x tt)) := hid (by unfold orI; rw [Int.toNat_natCast])
            subst hA4
            have f0 := HX.out.cell 0; have f1 := HX.out.cell 1
            have z0 := HX.out.free 0; have z1 := HX.out.free 1
            simp only [List.getElem?_toArray, List.getElem?_cons_zero, List.getElem?_cons_succ] at f0 f1
            generalize hmm : movF x tt = mv at *
            clear hq hu hql htt hown htl htb hsl hsd hmv hNl hmm
            go_wp2_with fail
            rw [← HOI.out] at HSN
            have hx1 : w.heap.size ≠ X := by have := HBX.out; omega
            have hx2 : w.heap.size + 1 ≠ X := by have := HBX.out; omega
            have hx3 : w.heap.size ≤ X := by have := HBX.out; omega
            have HA9 := hid ((HA.out.far (p := ⟨X, 1, none⟩) hx1 (.int .u64 ((orI N ((mv : Nat) : Int) : Nat) : Int))).drew)
            have HC9 := hid ((HC.out.far (p := ⟨X, 1, none⟩) hx2 (.int .u64 ((orI N ((mv : Nat) : Int) : Nat) : Int))).drew)
            have HX9 := hid ((HX.out.set 1 (.int .u64 ((orI N ((mv : Nat) : Int) : Nat) : Int))).drew)
            have HB9 := hid ((HB.out.setCell (p := ⟨X, 1, none⟩) hx3 (.int .u64 ((orI N ((mv : Nat) : Int) : Nat) : Int))).drew)
            have HL9 := hid ((ownsRow_setCell_below HL.out (a := ⟨X, 1, none⟩) (Nat.lt_succ_self _) (.int .u64 ((orI N ((mv : Nat) : Int) : Nat) : Int))).drew)
            have HO9 := hid ((ownsRow_setCell_below HO.out (a := ⟨X, 1, none⟩) (Nat.lt_succ_self _) (.int .u64 ((orI N ((mv : Nat) : Int) : Nat) : Int))).drew)
            have HLL9 := hid ((HLL.out.setCell (a := ⟨X, 1, none⟩) (Nat.lt_succ_self _) (.int .u64 ((orI N ((mv : Nat) : Int) : Nat) : Int))).drew)
            clear hx1 hx2 hx3
            go_region_with (go_at_call 99; refine (HMV.out).mono ?_; rintro e w' ⟨rfl, rfl⟩)
            all_goals go_wp2
            all_goals go_roundg (gk - 1)
            any_goals (case measure => have := HQ.out; have := HLQ.out; omega)
            all_goals exact ⟨q + 1, orI N ((mv : Nat) : Int), by have := HQ.out; have := HLQ.out; omega, by go_num, HSN, HA9, HC9, HX9, HB9, HL9, HO9, HLL9⟩
          · obtain rfl : q = m - 1 := by have := HQ.out; omega
            have HSN := hid (show SpS m F G l N (d + 1) 0 from by
              have := HS.out
              rw [← HEL.out] at this
              exact this.next)
            clear hq hltq
            go_wp2
            go_roundg (l.length - d - 1)
            case measure => have := HD.out; have := HLT.out; omega
            case rel => exact ⟨d + 1, N, by have := HD.out; have := HLT.out; omega, by go_num, HSN, HA, HC, HX, HB, HL⟩
      · obtain rfl : d = l.length := by have := HD.out; omega
        have f0 := HA.out.cell 0; have f1 := HA.out.cell 1
        have z0 := HA.out.free 0; have z1 := HA.out.free 1
        have p0 := HX.out.cell 0; have p1 := HX.out.cell 1
        have r0 := HC.out.cell 0; have r1 := HC.out.cell 1
        have y0 := HC.out.free 0; have y1 := HC.out.free 1
        simp only [List.getElem?_toArray, List.getElem?_cons_zero, List.getElem?_cons_succ] at f0 f1 p0 p1 r0 r1
        by_cases he : N = Fc
        · subst he
          have HR := hid (HSAM.out HS.out)
          have ge : ((n : Int) == n && (N : Int) == N) = true := by simp
          have B1 := hid ((HC.out.set 0 (.int .i64 n)).set 1 (.int .u64 N))
          have HB9 := hid ((HB.out.setCell (p := ⟨w.heap.size + 1, 0, none⟩) (by simp) (.int .i64 n)).setCell (p := ⟨w.heap.size + 1, 1, none⟩) (by simp) (.int .u64 N))
          clear hd hlt
          go_wp2
          refine bodyPost_ret (results_cell_row rfl _ _ (w.heap.size + 1) 72 #[.int .i64 n, .int .u64 N] (0, 0) _ rfl B1.out Tryd.underlying72 rfl (by kernel_rfl)) rfl ⟨⟨N, rfl, HR.out⟩, ?_⟩
          exact HB9.out
        · have gn : ((N : Int) == Fc) = false := by rw [beq_eq_false_iff_ne]; omega
          have gn2 : (N == Fc) = false := by rw [beq_eq_false_iff_ne]; exact he
          have ge : ((n : Int) == n && (N : Int) == Fc) = false := by rw [gn]; simp
          have hNl := HS.out.lt
          rw [hnn] at hNl
          have hsn : SubF Fc N := fun u hu => HS.out.up u (HCLO.out.up u hu)
          have hle := hsn.le
          have h64n := HFB.out N hNl
          have HNL := hid hNl
          have HSB := hid (hsub.trans hsn)
          have HLE := hid (And.intro (show Fc < N by omega) h64n)
          have HA9 := hid ((HA.out.set 0 (.int .i64 n)).set 1 (.int .u64 N))
          have HC9 := hid ((HC.out.far (p := ⟨w.heap.size, 0, none⟩) (by simp) (.int .i64 n)).far (p := ⟨w.heap.size, 1, none⟩) (by simp) (.int .u64 N))
          have HB9 := hid ((HB.out.setCell (p := ⟨w.heap.size, 0, none⟩) (Nat.le_refl _) (.int .i64 n)).setCell (p := ⟨w.heap.size, 1, none⟩) (Nat.le_refl _) (.int .u64 N))
          clear hd hlt hNl hsn hle h64n
          go_wp2
          go_roundg (18446744073709551616 - N)
          case measure => have := HGK.out; have := HLE.out; omega
          case rel => exact ⟨N, rfl, HNL.out, HSB.out, HS.out.least, HA9, HC9, HB9⟩
end Go.Proofs.YtjddbglbodkihaaDoor
