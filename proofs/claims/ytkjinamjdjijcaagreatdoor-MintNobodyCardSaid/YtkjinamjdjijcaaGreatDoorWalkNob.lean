/- Walk of MintNobody. Conditions: the library's table of 64 numbers and MaxLen stand in their variables. -/
import Derived.Test.YtkjinamjdjijcaaGreatDoorNobA
import Derived.Test.YtkjinamjdjijcaaGreatDoorPar
import Derived.Deep.RegionHeld3
namespace Go.Proofs.YtkjinamjdjijcaaGreatDoor
open Go.RowKit Go.Maps

set_option maxRecDepth 100000 in
set_option maxHeartbeats 8000000 in
theorem mintNobody_walk (w : World) (hT : Tab w) (hm : MaxL w) (line : ByteArray) (n k : Int) (hk : -9223372036854775808 ≤ k ∧ k ≤ 9223372036854775807) :
    Calls Tryz.prog 4 #[.string line, .int .i64 n, .int .i64 k] w fun e w' => e = .returned (.bool true) ∧ Below w.heap.size w w' := by
  have HC := hid (copies5 w)
  have HT := hid hT
  have HM := hid hm
  have HK := hid hk
  clear hT hm hk
  go_enter Tryz.func4, Tryz.ntmps4
  go_wp2_with fail
  refine (HC.out).mono ?_; rintro e w1 ⟨a, r, rfl, ⟨L, M, h1, h2, h3, h4, h5⟩, b1⟩
  obtain ⟨A, c, rfl⟩ := own_form h1
  have HB1 := hid b1
  have HL := hid h3
  have HLEN := hid (show L.length = 5 from by have := h1.1; simpa [ptrs] using this)
  have HO := hid h1
  clear h1 h2 h3 h4 h5 b1 HC
  have HS := hid (show NbS w ((w1.alloc (.cells #[.map none, .int .i64 0, .bool false] 36)).alloc (.cells #[.pointer none, .pointer (some ⟨w1.heap.size, 0, none⟩)] 33)) w1.heap.size A c L from
    ⟨(HO.out.alloc _).alloc _, (HL.out.keep ((Below.refl _ _).alloc (Nat.le_refl _) _)).keep ((Below.refl _ _).alloc (Nat.le_refl _) _), (Blk.new w1 _ _).alloc _, by
      have := Sl.new (w1.alloc (.cells #[.map none, .int .i64 0, .bool false] 36)) #[.pointer none, .pointer (some ⟨w1.heap.size, 0, none⟩)] 33 (n := 2) rfl (by decide)
      simpa using this, (HB1.out.alloc HB1.out.size _).alloc (by have := HB1.out.size; simp; omega) _⟩)
  clear HO HL
  go_wp2_with fail
  generalize ((w1.alloc (.cells #[.map none, .int .i64 0, .bool false] 36)).alloc (.cells #[.pointer none, .pointer (some ⟨w1.heap.size, 0, none⟩)] 33)) = G at *
  go_loopg [42] 2 (fun gk i wr => ∃ d : Nat, gk + d = 2 ∧ i = .int .i64 d ∧ Hid (NbS w wr w1.heap.size A c L))
  case atStart => exact ⟨0, by omega, rfl, HS⟩
  case round =>
    clear HS
    obtain ⟨d, hd, rfl, HS⟩ := hrel
    have HD := hid hd
    by_cases hlt : d < 2
    · have HLT := hid hlt
      obtain ⟨b2, o2, v, hA2, lb2, e2, ca2⟩ := HS.out.two.at hlt
      cases hA2
      have hno : ∀ W, NbS w W w1.heap.size A c L → NoC W v := fun W hW => by
        rcases (show d = 0 ∨ d = 1 by omega) with rfl | rfl
        · simp at e2; subst e2; exact noC_nil W
        · simp at e2; subst e2; exact noC_empty hW.emp
      have HNO := hid hno
      obtain ⟨va, rfl, _⟩ := hno wr HS.out
      rw [Nat.zero_add] at ca2
      clear hd e2 lb2 hno
      have H1 := hid (reachN _ true wr (HNO.out wr HS.out))
      have H2 := hid (getN _ n wr (HNO.out wr HS.out))
      have H3 := hid (markN _ wr (HNO.out wr HS.out))
      have H4 := hid (promiseN _ n wr (HNO.out wr HS.out))
      have H5 := hid (putN _ n n line wr (HNO.out wr HS.out))
      go_wp2_with fail
      refine (H1.out).mono ?_; rintro e w' ⟨rfl, rfl⟩
      go_wp2_with fail
      refine (H2.out).mono ?_; rintro e w' ⟨rfl, rfl⟩
      go_wp2_with fail
      refine (H3.out).mono ?_; rintro e w' ⟨rfl, rfl⟩
      go_wp2_with fail
      refine (H4.out).mono ?_; rintro e w' ⟨rfl, rfl⟩
      go_wp2_with fail
      refine (H5.out).mono ?_; rintro e w' ⟨rfl, rfl⟩
      clear H1 H2 H3 H4 H5 ca2
      go_wp2_with fail
      go_loopg [92] 5 (fun gk i wr2 => ∃ j : Nat, gk + j = 5 ∧ i = .int .i64 j ∧ Hid (NbS w wr2 w1.heap.size A c L))
      case atStart => exact ⟨0, by omega, rfl, HS⟩
      case round =>
        clear HS
        obtain ⟨j, hj, rfl, HS⟩ := hrel
        have HJ := hid hj
        by_cases hlt2 : j < 5
        · have HLT2 := hid hlt2
          have HCL := hid (cloneC A 5 c _ (ptrs_one _) (by omega) wr HS.out.sl)
          clear hj
          go_wp2_with fail
          refine (HCL.out).mono ?_; rintro e w3 ⟨A3, c3, rfl, ho3, b3⟩
          obtain ⟨g3, rfl⟩ := own_addr ho3 (by omega)
          have HO3 := hid ho3
          have HS3 := hid (HS.out.keep b3)
          have hc3 := ho3.cellAt j (by omega)
          rw [List.getElem?_eq_getElem (show j < (ptrs (L.map (·.1))).length by simp [ptrs, HLEN.out]; omega)] at hc3
          have hf3 := ho3.frozenAt j
          have HB3 := hid b3
          clear ho3 b3 HCL
          have ST := HO3.out.stored j (.pointer va)
          have HO4 := hid ST.1
          have B4 := hid (show Below wr.heap.size wr (w3.setCell ⟨g3, j, none⟩ (.pointer va)) from HB3.out.setCell (p := ⟨g3, j, none⟩) (by have := (HO3.out.lt g3 rfl).1; simpa using this) _)
          have HS4 := hid (HS.out.keep B4.out)
          clear ST
          have hjm : j % 2 = 0 ∨ j % 2 = 1 := by omega
          rcases hjm with hjm | hjm
          · have p2 : ((j : Int) % 2 == 0) = true := by rw [beq_iff_eq]; omega
            have p1 : ((j : Int).tmod 2 == 0) = true := by rw [Int.tmod_eq_emod_of_nonneg (by omega)]; exact p2
            have p3 : (j % 2 == 0) = true := by rw [beq_iff_eq]; omega
            clear hjm
            obtain ⟨b5, o5, u5, hA5, lb5, e5, ca5⟩ := HS4.out.sl.at (k := 0) (by omega)
            cases hA5
            obtain ⟨y5, hy5, rfl⟩ := Option.map_eq_some_iff.1 (show ((L.map (·.1))[0]?).map (fun b => Value.pointer (some ⟨b, 0, none⟩)) = some u5 by rw [← List.getElem?_map]; exact e5)
            rw [List.getElem?_map] at hy5
            obtain ⟨p0, hp0, rfl⟩ := Option.map_eq_some_iff.1 hy5
            have HP0 := hid hp0
            have hs4 : (w3.setCell ⟨g3, j, none⟩ (.pointer va)).heap.size = w3.heap.size := by simp
            have HZ4 := hid hs4
            have hcapA := HS4.out.sl.cap
            rw [Nat.add_zero] at ca5
            clear e5 hy5 hp0 lb5 hs4
            go_wp2_with (first
              | (at_builtin; refine push1P TC (w3.setCell ⟨g3, j, none⟩ (.pointer va)) #[.pointer (some ⟨p0.1, 0, none⟩)] wr.heap.size _ _ _ HO4.out _ _ w3.heap.size HZ4.out rfl rfl rfl rfl rfl (by simp [Value.oneCell']) (by omega) (by omega) B4.out.size ?_; intro v1 w8 hown1 hgr; obtain ⟨A8, c8, rfl⟩ := own_form hown1; have B8 := hid (below_push B4.out HO4.out hgr B4.out.size (Nat.le_refl _)); have HS8 := hid (HS.out.keep B8.out); have HO8 := hid hown1; have HOP := hid (openNil A8 6 c8 _ _ w8 (Sl.of_own HO8.out) (nob_list HS8.out HLEN.out (HNO.out _ HS8.out) HLT2.out _ (Or.inr ⟨p0, HP0.out, rfl⟩)) ⟨j, by have := HLT2.out; omega, by simp⟩); clear hown1 hgr)
              | (go_at_call 15; refine (HOP.out).mono ?_; rintro e w' ⟨rfl, rfl⟩))
            go_roundg (gk - 1)
            case measure => have := HJ.out; have := HLT2.out; omega
            case rel => exact ⟨j + 1, by have := HJ.out; have := HLT2.out; omega, by go_num, HS8⟩
          · have p2 : ((j : Int) % 2 == 0) = false := by rw [beq_eq_false_iff_ne]; omega
            have p1 : ((j : Int).tmod 2 == 0) = false := by rw [Int.tmod_eq_emod_of_nonneg (by omega)]; exact p2
            have p3 : (j % 2 == 0) = false := by rw [beq_eq_false_iff_ne]; omega
            clear hjm
            have HOP := hid (openNil (some ⟨g3, 0, none⟩) 5 c3 _ _ (w3.setCell ⟨g3, j, none⟩ (.pointer va)) (Sl.of_own HO4.out) (by have := nob_list HS4.out HLEN.out (HNO.out _ HS4.out) HLT2.out [] (Or.inl rfl); rwa [List.append_nil] at this) ⟨j, by omega, by simp⟩)
            go_wp2_with fail
            refine (HOP.out).mono ?_; rintro e w' ⟨rfl, rfl⟩
            go_wp2
            go_roundg (gk - 1)
            case measure => have := HJ.out; have := HLT2.out; omega
            case rel => exact ⟨j + 1, by have := HJ.out; have := HLT2.out; omega, by go_num, HS4⟩
        · obtain rfl : j = 5 := by have := HJ.out; omega
          clear hj hlt2
          go_wp2
          go_roundg (2 - (d + 1))
          case measure => have := HD.out; have := HLT.out; omega
          case rel => exact ⟨d + 1, by have := HLT.out; omega, by go_num, HS⟩
    · obtain rfl : d = 2 := by have := HD.out; omega
      clear hd hlt
      obtain ⟨q, hq8, hqe⟩ : ∃ q : Nat, q < 8 ∧ wrap64 ((IntKind.u64.wrap k).tmod 8) = (q : Int) := by
        have h0 : 0 ≤ IntKind.u64.wrap k := by rw [IntKind.wrap_u64]; omega
        refine ⟨((IntKind.u64.wrap k).tmod 8).toNat, ?_, ?_⟩
        · rw [Int.tmod_eq_emod_of_nonneg h0]; omega
        · rw [Int.tmod_eq_emod_of_nonneg h0]
          have : 0 ≤ IntKind.u64.wrap k % 8 ∧ IntKind.u64.wrap k % 8 < 8 := by omega
          generalize IntKind.u64.wrap k % 8 = z at *
          simp only [wrap64]
          omega
      go_wp2
      rw [hqe]
      clear hqe
      have HQ := hid hq8
      generalize wr = G3 at *
      go_loopg [20, 128] q (fun gk x i wx => ∃ (j : Nat) (A' : Option Addr) (c' : Nat), gk + j = q ∧ i = .int .i64 j ∧ x = .slice A' j c' ∧ Hid (Below G3.heap.size G3 wx) ∧ Hid (wx.ownsRow G3.heap.size 33 1 (.slice A' j c') j (ptrs (rnd5 (L.map (·.1)) j))))
      case atStart => exact ⟨0, none, 0, by omega, rfl, rfl, hid (Below.refl _ _), hid (World.ownsRow_nil _ _ _ _)⟩
      case round =>
        obtain ⟨j, A', c', hj, rfl, rfl, HBX, HOX⟩ := hrel
        have HJ := hid hj
        by_cases hlt : j < q
        · have HLT := hid hlt
          have HSX := hid (HS.out.keep HBX.out)
          obtain ⟨b5, o5, u5, hA5, lb5, e5, ca5⟩ := HSX.out.sl.at (k := j % 5) (by omega)
          cases hA5
          obtain ⟨y5, hy5, rfl⟩ := Option.map_eq_some_iff.1 (show ((L.map (·.1))[j % 5]?).map (fun b => Value.pointer (some ⟨b, 0, none⟩)) = some u5 by rw [← List.getElem?_map]; exact e5)
          have HY := hid (show (L.map (·.1)).getD (j % 5) 0 = y5 by rw [List.getD, hy5]; rfl)
          have hcapA := HSX.out.sl.cap
          have r1 : (j : Int).tmod 5 = ((j % 5 : Nat) : Int) := by rw [Int.tmod_eq_emod_of_nonneg (by omega)]; omega
          have r2 : j % 5 < 5 := by omega
          clear e5 hy5 lb5 hj
          generalize hj5 : j % 5 = j5 at *
          have HE5 := hid hj5
          clear hj5
          go_wp2_with (at_builtin; refine push1P TC wr #[.pointer (some ⟨y5, 0, none⟩)] G3.heap.size _ _ _ HOX.out _ _ wr.heap.size rfl rfl rfl rfl rfl rfl (by simp [Value.oneCell']) (by omega) (by omega) HBX.out.size ?_; intro v1 w8 hown1 hgr; obtain ⟨A8, c8, rfl⟩ := own_form hown1; have B8 := hid (below_push HBX.out HOX.out hgr HBX.out.size (Nat.le_refl _)); have HO8 := hid hown1; clear hown1 hgr)
          go_roundg (gk - 1)
          case measure => have := HJ.out; have := HLT.out; omega
          case rel => exact ⟨j + 1, A8, c8, by have := HJ.out; have := HLT.out; omega, by go_num, rfl, B8, hid (by rw [rnd5_succ, ptrs_snoc, HE5.out, HY.out]; exact HO8.out)⟩
        · obtain rfl : j = q := by have := HJ.out; omega
          have HOP := hid (openRnd (HS.out.keep HBX.out) HLEN.out j A' c' (Sl.of_own HOX.out))
          clear hj hlt HS HBX HOX
          go_wp2_with fail
          refine (HOP.out).mono ?_; rintro e w5 ⟨m, rr, rfl, hmr, hnt⟩
          have HN := hid hnt
          clear hnt HOP
          obtain ⟨gA, rfl⟩ := own_addr HN.out.own (by omega)
          have hca : ∀ i, i < 5 → w5.cell? ⟨gA, i, none⟩ = (ptrs (L.map (·.1)))[i]? := fun i hi => HN.out.own.cellAt i (by omega)
          obtain ⟨p0, p1, p2, p3, p4, rfl⟩ : ∃ p0 p1 p2 p3 p4, L = [p0, p1, p2, p3, p4] := by
            have := HLEN.out
            match L, this with
            | [p0, p1, p2, p3, p4], _ => exact ⟨_, _, _, _, _, rfl⟩
          have c0 := hca 0 (by omega)
          have c1 := hca 1 (by omega)
          have c2 := hca 2 (by omega)
          have c3 := hca 3 (by omega)
          have c4 := hca 4 (by omega)
          simp only [ptrs, List.map_cons, List.map_nil, List.getElem?_cons_zero, List.getElem?_cons_succ] at c0 c1 c2 c3 c4
          have hcapL := (Sl.of_own HN.out.own).cap
          clear hca
          rcases (show (j ≠ 3 ∧ j ≠ 5) ∨ j = 3 ∨ j = 5 by omega) with h35 | rfl | rfl
          · obtain ⟨rfl, rfl⟩ := hmr h35
            have q1 : ((j : Int) != 3) = true := by rw [bne_iff_ne]; omega
            have q2 : (j != 3) = true := by rw [bne_iff_ne]; omega
            have q3 : ((j : Int) != 5) = true := by rw [bne_iff_ne]; omega
            have q4 : (j != 5) = true := by rw [bne_iff_ne]; omega
            clear h35 hmr
            go_wp2_with fail
            refine wp_region_held_drew (S := (fun w' => w'.cell? ⟨gA, 0, none⟩ = some (.pointer (some ⟨p0.1, 0, none⟩)) ∧ w'.cell? ⟨gA, 1, none⟩ = some (.pointer (some ⟨p1.1, 0, none⟩)) ∧ w'.cell? ⟨gA, 2, none⟩ = some (.pointer (some ⟨p2.1, 0, none⟩)) ∧ w'.cell? ⟨gA, 3, none⟩ = some (.pointer (some ⟨p3.1, 0, none⟩)) ∧ w'.cell? ⟨gA, 4, none⟩ = some (.pointer (some ⟨p4.1, 0, none⟩)))) (by as_aux_lemma => kernel_rfl) (by (try dsimp only); (exact ⟨c0, c1, c2, c3, c4⟩)) (fun hHeld => ?_)
            refine takeD (i := 0) (v := ?_) (some 159) rfl rfl (by as_aux_lemma => kernel_rfl) (by as_aux_lemma => kernel_rfl) (by as_aux_lemma => kernel_rfl) (fun _ _ _ h => h) (Or.inl ⟨by rfl, ?_⟩) (by assumption) ?_
            rotate_left
            · intro w hSw
              (try dsimp only at hSw)
              first
                | (go_simp; done)
                | (go_simp; with_reducible rfl)
            try simp only [Act.put, List.setIfInBounds_toArray, List.set_cons_zero, List.set_cons_succ]
            refine takeD (i := 1) (v := ?_) (some 160) rfl rfl (by as_aux_lemma => kernel_rfl) (by as_aux_lemma => kernel_rfl) (by as_aux_lemma => kernel_rfl) (fun _ _ _ h => h) (Or.inl ⟨by rfl, ?_⟩) (by assumption) ?_
            rotate_left
            · intro w hSw
              (try dsimp only at hSw)
              first
                | (go_simp; done)
                | (go_simp; with_reducible rfl)
            try simp only [Act.put, List.setIfInBounds_toArray, List.set_cons_zero, List.set_cons_succ]
            refine takeD (i := 2) (v := ?_) (some 161) rfl rfl (by as_aux_lemma => kernel_rfl) (by as_aux_lemma => kernel_rfl) (by as_aux_lemma => kernel_rfl) (fun _ _ _ h => h) (Or.inl ⟨by rfl, ?_⟩) (by assumption) ?_
            rotate_left
            · intro w hSw
              (try dsimp only at hSw)
              first
                | (go_simp; done)
                | (go_simp; with_reducible rfl)
            try simp only [Act.put, List.setIfInBounds_toArray, List.set_cons_zero, List.set_cons_succ]
            refine takeD (i := 3) (v := ?_) (some 162) rfl rfl (by as_aux_lemma => kernel_rfl) (by as_aux_lemma => kernel_rfl) (by as_aux_lemma => kernel_rfl) (fun _ _ _ h => h) (Or.inl ⟨by rfl, ?_⟩) (by assumption) ?_
            rotate_left
            · intro w hSw
              (try dsimp only at hSw)
              first
                | (go_simp; done)
                | (go_simp; with_reducible rfl)
            try simp only [Act.put, List.setIfInBounds_toArray, List.set_cons_zero, List.set_cons_succ]
            refine takeD (i := 4) (v := ?_) (some 163) rfl rfl (by as_aux_lemma => kernel_rfl) (by as_aux_lemma => kernel_rfl) (by as_aux_lemma => kernel_rfl) (fun _ _ _ h => h) (Or.inl ⟨by rfl, ?_⟩) (by assumption) ?_
            rotate_left
            · intro w hSw
              (try dsimp only at hSw)
              first
                | (go_simp; done)
                | (go_simp; with_reducible rfl)
            try simp only [Act.put, List.setIfInBounds_toArray, List.set_cons_zero, List.set_cons_succ]
            refine takeD (i := 5) (v := ?_) (some 164) rfl rfl (by as_aux_lemma => kernel_rfl) (by as_aux_lemma => kernel_rfl) (by as_aux_lemma => kernel_rfl) (fun _ _ _ h => h) (Or.inl ⟨by rfl, ?_⟩) (by assumption) ?_
            rotate_left
            · intro w hSw
              (try dsimp only at hSw)
              first
                | (go_simp; done)
                | (go_simp; with_reducible rfl)
            try simp only [Act.put, List.setIfInBounds_toArray, List.set_cons_zero, List.set_cons_succ]
            refine takeD (i := 6) (v := ?_) (some 165) rfl rfl (by as_aux_lemma => kernel_rfl) (by as_aux_lemma => kernel_rfl) (by as_aux_lemma => kernel_rfl) (fun _ _ _ h => h) (Or.inl ⟨by rfl, ?_⟩) (by assumption) ?_
            rotate_left
            · intro w hSw
              (try dsimp only at hSw)
              first
                | (go_simp; done)
                | (go_simp; with_reducible rfl)
            try simp only [Act.put, List.setIfInBounds_toArray, List.set_cons_zero, List.set_cons_succ]
            refine takeD (i := 7) (v := ?_) (some 166) rfl rfl (by as_aux_lemma => kernel_rfl) (by as_aux_lemma => kernel_rfl) (by as_aux_lemma => kernel_rfl) (fun _ _ _ h => h) (Or.inl ⟨by rfl, ?_⟩) (by assumption) ?_
            rotate_left
            · intro w hSw
              (try dsimp only at hSw)
              first
                | (go_simp; done)
                | (go_simp; with_reducible rfl)
            try simp only [Act.put, List.setIfInBounds_toArray, List.set_cons_zero, List.set_cons_succ]
            refine takeD (i := 8) (v := ?_) (some 167) rfl rfl (by as_aux_lemma => kernel_rfl) (by as_aux_lemma => kernel_rfl) (by as_aux_lemma => kernel_rfl) (fun _ _ _ h => h) (Or.inl ⟨by rfl, ?_⟩) (by assumption) ?_
            rotate_left
            · intro w hSw
              (try dsimp only at hSw)
              first
                | (go_simp; done)
                | (go_simp; with_reducible rfl)
            try simp only [Act.put, List.setIfInBounds_toArray, List.set_cons_zero, List.set_cons_succ]
            refine takeD (i := 10) (v := ?_) (some 169) rfl rfl (by as_aux_lemma => kernel_rfl) (by as_aux_lemma => kernel_rfl) (by as_aux_lemma => kernel_rfl) (fun _ _ _ h => h) (Or.inl ⟨by rfl, ?_⟩) (by assumption) ?_
            rotate_left
            · intro w hSw
              (try dsimp only at hSw)
              first
                | (go_simp; done)
                | (go_simp; with_reducible rfl)
            try simp only [Act.put, List.setIfInBounds_toArray, List.set_cons_zero, List.set_cons_succ]
            refine takeD (i := 11) (v := ?_) (some 170) rfl rfl (by as_aux_lemma => kernel_rfl) (by as_aux_lemma => kernel_rfl) (by as_aux_lemma => kernel_rfl) (fun _ _ _ h => h) (Or.inl ⟨by rfl, ?_⟩) (by assumption) ?_
            rotate_left
            · intro w hSw
              (try dsimp only at hSw)
              first
                | (go_simp; done)
                | (go_simp; with_reducible rfl)
            try simp only [Act.put, List.setIfInBounds_toArray, List.set_cons_zero, List.set_cons_succ]
            refine takeD (i := 12) (v := ?_) (some 171) rfl rfl (by as_aux_lemma => kernel_rfl) (by as_aux_lemma => kernel_rfl) (by as_aux_lemma => kernel_rfl) (fun _ _ _ h => h) (Or.inl ⟨by rfl, ?_⟩) (by assumption) ?_
            rotate_left
            · intro w hSw
              (try dsimp only at hSw)
              first
                | (go_simp; done)
                | (go_simp; with_reducible rfl)
            try simp only [Act.put, List.setIfInBounds_toArray, List.set_cons_zero, List.set_cons_succ]
            refine takeD (i := 13) (v := ?_) (some 172) rfl rfl (by as_aux_lemma => kernel_rfl) (by as_aux_lemma => kernel_rfl) (by as_aux_lemma => kernel_rfl) (fun _ _ _ h => h) (Or.inl ⟨by rfl, ?_⟩) (by assumption) ?_
            rotate_left
            · intro w hSw
              (try dsimp only at hSw)
              first
                | (go_simp; done)
                | (go_simp; with_reducible rfl)
            try simp only [Act.put, List.setIfInBounds_toArray, List.set_cons_zero, List.set_cons_succ]
            refine takeD (i := 14) (v := ?_) (some 173) rfl rfl (by as_aux_lemma => kernel_rfl) (by as_aux_lemma => kernel_rfl) (by as_aux_lemma => kernel_rfl) (fun _ _ _ h => h) (Or.inl ⟨by rfl, ?_⟩) (by assumption) ?_
            rotate_left
            · intro w hSw
              (try dsimp only at hSw)
              first
                | (go_simp; done)
                | (go_simp; with_reducible rfl)
            try simp only [Act.put, List.setIfInBounds_toArray, List.set_cons_zero, List.set_cons_succ]
            refine takeD (i := 15) (v := ?_) (some 174) rfl rfl (by as_aux_lemma => kernel_rfl) (by as_aux_lemma => kernel_rfl) (by as_aux_lemma => kernel_rfl) (fun _ _ _ h => h) (Or.inl ⟨by rfl, ?_⟩) (by assumption) ?_
            rotate_left
            · intro w hSw
              (try dsimp only at hSw)
              first
                | (go_simp; done)
                | (go_simp; with_reducible rfl)
            try simp only [Act.put, List.setIfInBounds_toArray, List.set_cons_zero, List.set_cons_succ]
            refine takeD (i := 16) (v := ?_) (some 175) rfl rfl (by as_aux_lemma => kernel_rfl) (by as_aux_lemma => kernel_rfl) (by as_aux_lemma => kernel_rfl) (fun _ _ _ h => h) (Or.inl ⟨by rfl, ?_⟩) (by assumption) ?_
            rotate_left
            · intro w hSw
              (try dsimp only at hSw)
              first
                | (go_simp; done)
                | (go_simp; with_reducible rfl)
            try simp only [Act.put, List.setIfInBounds_toArray, List.set_cons_zero, List.set_cons_succ]
            refine takeD (i := 17) (v := ?_) (some 176) rfl rfl (by as_aux_lemma => kernel_rfl) (by as_aux_lemma => kernel_rfl) (by as_aux_lemma => kernel_rfl) (fun _ _ _ h => h) (Or.inl ⟨by rfl, ?_⟩) (by assumption) ?_
            rotate_left
            · intro w hSw
              (try dsimp only at hSw)
              first
                | (go_simp; done)
                | (go_simp; with_reducible rfl)
            try simp only [Act.put, List.setIfInBounds_toArray, List.set_cons_zero, List.set_cons_succ]
            refine takeD (i := 18) (v := ?_) (some 177) rfl rfl (by as_aux_lemma => kernel_rfl) (by as_aux_lemma => kernel_rfl) (by as_aux_lemma => kernel_rfl) (fun _ _ _ h => h) (Or.inl ⟨by rfl, ?_⟩) (by assumption) ?_
            rotate_left
            · intro w hSw
              (try dsimp only at hSw)
              first
                | (go_simp; done)
                | (go_simp; with_reducible rfl)
            try simp only [Act.put, List.setIfInBounds_toArray, List.set_cons_zero, List.set_cons_succ]
            refine takeD (i := 20) (v := ?_) (some 179) rfl rfl (by as_aux_lemma => kernel_rfl) (by as_aux_lemma => kernel_rfl) (by as_aux_lemma => kernel_rfl) (fun _ _ _ h => h) (Or.inl ⟨by rfl, ?_⟩) (by assumption) ?_
            rotate_left
            · intro w hSw
              (try dsimp only at hSw)
              first
                | (go_simp; done)
                | (go_simp; with_reducible rfl)
            try simp only [Act.put, List.setIfInBounds_toArray, List.set_cons_zero, List.set_cons_succ]
            refine takeD (i := 21) (v := ?_) (some 180) rfl rfl (by as_aux_lemma => kernel_rfl) (by as_aux_lemma => kernel_rfl) (by as_aux_lemma => kernel_rfl) (fun _ _ _ h => h) (Or.inl ⟨by rfl, ?_⟩) (by assumption) ?_
            rotate_left
            · intro w hSw
              (try dsimp only at hSw)
              first
                | (go_simp; done)
                | (go_simp; with_reducible rfl)
            try simp only [Act.put, List.setIfInBounds_toArray, List.set_cons_zero, List.set_cons_succ]
            refine takeD (i := 22) (v := ?_) (some 181) rfl rfl (by as_aux_lemma => kernel_rfl) (by as_aux_lemma => kernel_rfl) (by as_aux_lemma => kernel_rfl) (fun _ _ _ h => h) (Or.inl ⟨by rfl, ?_⟩) (by assumption) ?_
            rotate_left
            · intro w hSw
              (try dsimp only at hSw)
              first
                | (go_simp; done)
                | (go_simp; with_reducible rfl)
            try simp only [Act.put, List.setIfInBounds_toArray, List.set_cons_zero, List.set_cons_succ]
            refine takeD (i := 23) (v := ?_) (some 182) rfl rfl (by as_aux_lemma => kernel_rfl) (by as_aux_lemma => kernel_rfl) (by as_aux_lemma => kernel_rfl) (fun _ _ _ h => h) (Or.inl ⟨by rfl, ?_⟩) (by assumption) ?_
            rotate_left
            · intro w hSw
              (try dsimp only at hSw)
              first
                | (go_simp; done)
                | (go_simp; with_reducible rfl)
            try simp only [Act.put, List.setIfInBounds_toArray, List.set_cons_zero, List.set_cons_succ]
            refine takeD (i := 24) (v := ?_) (some 183) rfl rfl (by as_aux_lemma => kernel_rfl) (by as_aux_lemma => kernel_rfl) (by as_aux_lemma => kernel_rfl) (fun _ _ _ h => h) (Or.inl ⟨by rfl, ?_⟩) (by assumption) ?_
            rotate_left
            · intro w hSw
              (try dsimp only at hSw)
              first
                | (go_simp; done)
                | (go_simp; with_reducible rfl)
            try simp only [Act.put, List.setIfInBounds_toArray, List.set_cons_zero, List.set_cons_succ]
            refine takeD (i := 25) (v := ?_) (some 184) rfl rfl (by as_aux_lemma => kernel_rfl) (by as_aux_lemma => kernel_rfl) (by as_aux_lemma => kernel_rfl) (fun _ _ _ h => h) (Or.inl ⟨by rfl, ?_⟩) (by assumption) ?_
            rotate_left
            · intro w hSw
              (try dsimp only at hSw)
              first
                | (go_simp; done)
                | (go_simp; with_reducible rfl)
            try simp only [Act.put, List.setIfInBounds_toArray, List.set_cons_zero, List.set_cons_succ]
            refine takeD (i := 26) (v := ?_) (some 185) rfl rfl (by as_aux_lemma => kernel_rfl) (by as_aux_lemma => kernel_rfl) (by as_aux_lemma => kernel_rfl) (fun _ _ _ h => h) (Or.inl ⟨by rfl, ?_⟩) (by assumption) ?_
            rotate_left
            · intro w hSw
              (try dsimp only at hSw)
              first
                | (go_simp; done)
                | (go_simp; with_reducible rfl)
            try simp only [Act.put, List.setIfInBounds_toArray, List.set_cons_zero, List.set_cons_succ]
            refine takeD (i := 27) (v := ?_) (some 186) rfl rfl (by as_aux_lemma => kernel_rfl) (by as_aux_lemma => kernel_rfl) (by as_aux_lemma => kernel_rfl) (fun _ _ _ h => h) (Or.inl ⟨by rfl, ?_⟩) (by assumption) ?_
            rotate_left
            · intro w hSw
              (try dsimp only at hSw)
              first
                | (go_simp; done)
                | (go_simp; with_reducible rfl)
            try simp only [Act.put, List.setIfInBounds_toArray, List.set_cons_zero, List.set_cons_succ]
            refine takeD (i := 28) (v := ?_) (some 187) rfl rfl (by as_aux_lemma => kernel_rfl) (by as_aux_lemma => kernel_rfl) (by as_aux_lemma => kernel_rfl) (fun _ _ _ h => h) (Or.inl ⟨by rfl, ?_⟩) (by assumption) ?_
            rotate_left
            · intro w hSw
              (try dsimp only at hSw)
              first
                | (go_simp; done)
                | (go_simp; with_reducible rfl)
            try simp only [Act.put, List.setIfInBounds_toArray, List.set_cons_zero, List.set_cons_succ]
            refine takeD (i := 30) (v := ?_) (some 189) rfl rfl (by as_aux_lemma => kernel_rfl) (by as_aux_lemma => kernel_rfl) (by as_aux_lemma => kernel_rfl) (fun _ _ _ h => h) (Or.inl ⟨by rfl, ?_⟩) (by assumption) ?_
            rotate_left
            · intro w hSw
              (try dsimp only at hSw)
              first
                | (go_simp; done)
                | (go_simp; with_reducible rfl)
            try simp only [Act.put, List.setIfInBounds_toArray, List.set_cons_zero, List.set_cons_succ]
            refine takeD (i := 31) (v := ?_) (some 190) rfl rfl (by as_aux_lemma => kernel_rfl) (by as_aux_lemma => kernel_rfl) (by as_aux_lemma => kernel_rfl) (fun _ _ _ h => h) (Or.inl ⟨by rfl, ?_⟩) (by assumption) ?_
            rotate_left
            · intro w hSw
              (try dsimp only at hSw)
              first
                | (go_simp; done)
                | (go_simp; with_reducible rfl)
            try simp only [Act.put, List.setIfInBounds_toArray, List.set_cons_zero, List.set_cons_succ]
            refine takeD (i := 32) (v := ?_) (some 191) rfl rfl (by as_aux_lemma => kernel_rfl) (by as_aux_lemma => kernel_rfl) (by as_aux_lemma => kernel_rfl) (fun _ _ _ h => h) (Or.inl ⟨by rfl, ?_⟩) (by assumption) ?_
            rotate_left
            · intro w hSw
              (try dsimp only at hSw)
              first
                | (go_simp; done)
                | (go_simp; with_reducible rfl)
            try simp only [Act.put, List.setIfInBounds_toArray, List.set_cons_zero, List.set_cons_succ]
            refine takeD (i := 33) (v := ?_) (some 192) rfl rfl (by as_aux_lemma => kernel_rfl) (by as_aux_lemma => kernel_rfl) (by as_aux_lemma => kernel_rfl) (fun _ _ _ h => h) (Or.inl ⟨by rfl, ?_⟩) (by assumption) ?_
            rotate_left
            · intro w hSw
              (try dsimp only at hSw)
              first
                | (go_simp; done)
                | (go_simp; with_reducible rfl)
            try simp only [Act.put, List.setIfInBounds_toArray, List.set_cons_zero, List.set_cons_succ]
            refine takeD (i := 34) (v := ?_) (some 193) rfl rfl (by as_aux_lemma => kernel_rfl) (by as_aux_lemma => kernel_rfl) (by as_aux_lemma => kernel_rfl) (fun _ _ _ h => h) (Or.inl ⟨by rfl, ?_⟩) (by assumption) ?_
            rotate_left
            · intro w hSw
              (try dsimp only at hSw)
              first
                | (go_simp; done)
                | (go_simp; with_reducible rfl)
            try simp only [Act.put, List.setIfInBounds_toArray, List.set_cons_zero, List.set_cons_succ]
            refine takeD (i := 35) (v := ?_) (some 194) rfl rfl (by as_aux_lemma => kernel_rfl) (by as_aux_lemma => kernel_rfl) (by as_aux_lemma => kernel_rfl) (fun _ _ _ h => h) (Or.inl ⟨by rfl, ?_⟩) (by assumption) ?_
            rotate_left
            · intro w hSw
              (try dsimp only at hSw)
              first
                | (go_simp; done)
                | (go_simp; with_reducible rfl)
            try simp only [Act.put, List.setIfInBounds_toArray, List.set_cons_zero, List.set_cons_succ]
            refine takeD (i := 36) (v := ?_) (some 195) rfl rfl (by as_aux_lemma => kernel_rfl) (by as_aux_lemma => kernel_rfl) (by as_aux_lemma => kernel_rfl) (fun _ _ _ h => h) (Or.inl ⟨by rfl, ?_⟩) (by assumption) ?_
            rotate_left
            · intro w hSw
              (try dsimp only at hSw)
              first
                | (go_simp; done)
                | (go_simp; with_reducible rfl)
            try simp only [Act.put, List.setIfInBounds_toArray, List.set_cons_zero, List.set_cons_succ]
            refine takeD (i := 37) (v := ?_) (some 196) rfl rfl (by as_aux_lemma => kernel_rfl) (by as_aux_lemma => kernel_rfl) (by as_aux_lemma => kernel_rfl) (fun _ _ _ h => h) (Or.inl ⟨by rfl, ?_⟩) (by assumption) ?_
            rotate_left
            · intro w hSw
              (try dsimp only at hSw)
              first
                | (go_simp; done)
                | (go_simp; with_reducible rfl)
            try simp only [Act.put, List.setIfInBounds_toArray, List.set_cons_zero, List.set_cons_succ]
            refine takeD (i := 38) (v := ?_) (some 197) rfl rfl (by as_aux_lemma => kernel_rfl) (by as_aux_lemma => kernel_rfl) (by as_aux_lemma => kernel_rfl) (fun _ _ _ h => h) (Or.inl ⟨by rfl, ?_⟩) (by assumption) ?_
            rotate_left
            · intro w hSw
              (try dsimp only at hSw)
              first
                | (go_simp; done)
                | (go_simp; with_reducible rfl)
            try simp only [Act.put, List.setIfInBounds_toArray, List.set_cons_zero, List.set_cons_succ]
            refine takeD (i := 39) (v := ?_) (some 198) rfl rfl (by as_aux_lemma => kernel_rfl) (by as_aux_lemma => kernel_rfl) (by as_aux_lemma => kernel_rfl) (fun _ _ _ h => h) (Or.inl ⟨by rfl, ?_⟩) (by assumption) ?_
            rotate_left
            · intro w hSw
              (try dsimp only at hSw)
              first
                | (go_simp; done)
                | (go_simp; with_reducible rfl)
            try simp only [Act.put, List.setIfInBounds_toArray, List.set_cons_zero, List.set_cons_succ]
            refine takeD (i := 40) (v := ?_) (some 199) rfl rfl (by as_aux_lemma => kernel_rfl) (by as_aux_lemma => kernel_rfl) (by as_aux_lemma => kernel_rfl) (fun _ _ _ h => h) (Or.inl ⟨by rfl, ?_⟩) (by assumption) ?_
            rotate_left
            · intro w hSw
              (try dsimp only at hSw)
              first
                | (go_simp; done)
                | (go_simp; with_reducible rfl)
            try simp only [Act.put, List.setIfInBounds_toArray, List.set_cons_zero, List.set_cons_succ]
            refine takeD (i := 41) (v := ?_) (some 200) rfl rfl (by as_aux_lemma => kernel_rfl) (by as_aux_lemma => kernel_rfl) (by as_aux_lemma => kernel_rfl) (fun _ _ _ h => h) (Or.inl ⟨by rfl, ?_⟩) (by assumption) ?_
            rotate_left
            · intro w hSw
              (try dsimp only at hSw)
              first
                | (go_simp; done)
                | (go_simp; with_reducible rfl)
            try simp only [Act.put, List.setIfInBounds_toArray, List.set_cons_zero, List.set_cons_succ]
            refine takeD (i := 42) (v := ?_) (some 201) rfl rfl (by as_aux_lemma => kernel_rfl) (by as_aux_lemma => kernel_rfl) (by as_aux_lemma => kernel_rfl) (fun _ _ _ h => h) (Or.inl ⟨by rfl, ?_⟩) (by assumption) ?_
            rotate_left
            · intro w hSw
              (try dsimp only at hSw)
              first
                | (go_simp; done)
                | (go_simp; with_reducible rfl)
            try simp only [Act.put, List.setIfInBounds_toArray, List.set_cons_zero, List.set_cons_succ]
            refine takeD (i := 43) (v := ?_) (some 202) rfl rfl (by as_aux_lemma => kernel_rfl) (by as_aux_lemma => kernel_rfl) (by as_aux_lemma => kernel_rfl) (fun _ _ _ h => h) (Or.inl ⟨by rfl, ?_⟩) (by assumption) ?_
            rotate_left
            · intro w hSw
              (try dsimp only at hSw)
              first
                | (go_simp; done)
                | (go_simp; with_reducible rfl)
            try simp only [Act.put, List.setIfInBounds_toArray, List.set_cons_zero, List.set_cons_succ]
            refine takeD (i := 44) (v := ?_) (some 203) rfl rfl (by as_aux_lemma => kernel_rfl) (by as_aux_lemma => kernel_rfl) (by as_aux_lemma => kernel_rfl) (fun _ _ _ h => h) (Or.inl ⟨by rfl, ?_⟩) (by assumption) ?_
            rotate_left
            · intro w hSw
              (try dsimp only at hSw)
              first
                | (go_simp; done)
                | (go_simp; with_reducible rfl)
            try simp only [Act.put, List.setIfInBounds_toArray, List.set_cons_zero, List.set_cons_succ]
            refine takeD (i := 46) (v := ?_) (some 205) rfl rfl (by as_aux_lemma => kernel_rfl) (by as_aux_lemma => kernel_rfl) (by as_aux_lemma => kernel_rfl) (fun _ _ _ h => h) (Or.inl ⟨by rfl, ?_⟩) (by assumption) ?_
            rotate_left
            · intro w hSw
              (try dsimp only at hSw)
              first
                | (go_simp; done)
                | (go_simp; with_reducible rfl)
            try simp only [Act.put, List.setIfInBounds_toArray, List.set_cons_zero, List.set_cons_succ]
            refine takeD (i := 47) (v := ?_) (some 206) rfl rfl (by as_aux_lemma => kernel_rfl) (by as_aux_lemma => kernel_rfl) (by as_aux_lemma => kernel_rfl) (fun _ _ _ h => h) (Or.inl ⟨by rfl, ?_⟩) (by assumption) ?_
            rotate_left
            · intro w hSw
              (try dsimp only at hSw)
              first
                | (go_simp; done)
                | (go_simp; with_reducible rfl)
            try simp only [Act.put, List.setIfInBounds_toArray, List.set_cons_zero, List.set_cons_succ]
            refine takeD (i := 48) (v := ?_) (some 207) rfl rfl (by as_aux_lemma => kernel_rfl) (by as_aux_lemma => kernel_rfl) (by as_aux_lemma => kernel_rfl) (fun _ _ _ h => h) (Or.inl ⟨by rfl, ?_⟩) (by assumption) ?_
            rotate_left
            · intro w hSw
              (try dsimp only at hSw)
              first
                | (go_simp; done)
                | (go_simp; with_reducible rfl)
            try simp only [Act.put, List.setIfInBounds_toArray, List.set_cons_zero, List.set_cons_succ]
            refine takeD (i := 49) (v := ?_) (some 208) rfl rfl (by as_aux_lemma => kernel_rfl) (by as_aux_lemma => kernel_rfl) (by as_aux_lemma => kernel_rfl) (fun _ _ _ h => h) (Or.inl ⟨by rfl, ?_⟩) (by assumption) ?_
            rotate_left
            · intro w hSw
              (try dsimp only at hSw)
              first
                | (go_simp; done)
                | (go_simp; with_reducible rfl)
            try simp only [Act.put, List.setIfInBounds_toArray, List.set_cons_zero, List.set_cons_succ]
            refine takeD (i := 50) (v := ?_) (some 209) rfl rfl (by as_aux_lemma => kernel_rfl) (by as_aux_lemma => kernel_rfl) (by as_aux_lemma => kernel_rfl) (fun _ _ _ h => h) (Or.inl ⟨by rfl, ?_⟩) (by assumption) ?_
            rotate_left
            · intro w hSw
              (try dsimp only at hSw)
              first
                | (go_simp; done)
                | (go_simp; with_reducible rfl)
            try simp only [Act.put, List.setIfInBounds_toArray, List.set_cons_zero, List.set_cons_succ]
            refine takeD (i := 51) (v := ?_) (some 210) rfl rfl (by as_aux_lemma => kernel_rfl) (by as_aux_lemma => kernel_rfl) (by as_aux_lemma => kernel_rfl) (fun _ _ _ h => h) (Or.inl ⟨by rfl, ?_⟩) (by assumption) ?_
            rotate_left
            · intro w hSw
              (try dsimp only at hSw)
              first
                | (go_simp; done)
                | (go_simp; with_reducible rfl)
            try simp only [Act.put, List.setIfInBounds_toArray, List.set_cons_zero, List.set_cons_succ]
            refine takeD (i := 52) (v := ?_) (some 211) rfl rfl (by as_aux_lemma => kernel_rfl) (by as_aux_lemma => kernel_rfl) (by as_aux_lemma => kernel_rfl) (fun _ _ _ h => h) (Or.inl ⟨by rfl, ?_⟩) (by assumption) ?_
            rotate_left
            · intro w hSw
              (try dsimp only at hSw)
              first
                | (go_simp; done)
                | (go_simp; with_reducible rfl)
            try simp only [Act.put, List.setIfInBounds_toArray, List.set_cons_zero, List.set_cons_succ]
            refine takeD (i := 53) (v := ?_) (some 212) rfl rfl (by as_aux_lemma => kernel_rfl) (by as_aux_lemma => kernel_rfl) (by as_aux_lemma => kernel_rfl) (fun _ _ _ h => h) (Or.inl ⟨by rfl, ?_⟩) (by assumption) ?_
            rotate_left
            · intro w hSw
              (try dsimp only at hSw)
              first
                | (go_simp; done)
                | (go_simp; with_reducible rfl)
            try simp only [Act.put, List.setIfInBounds_toArray, List.set_cons_zero, List.set_cons_succ]
            refine takeD (i := 54) (v := ?_) (some 213) rfl rfl (by as_aux_lemma => kernel_rfl) (by as_aux_lemma => kernel_rfl) (by as_aux_lemma => kernel_rfl) (fun _ _ _ h => h) (Or.inl ⟨by rfl, ?_⟩) (by assumption) ?_
            rotate_left
            · intro w hSw
              (try dsimp only at hSw)
              first
                | (go_simp; done)
                | (go_simp; with_reducible rfl)
            try simp only [Act.put, List.setIfInBounds_toArray, List.set_cons_zero, List.set_cons_succ]
            refine takeD (i := 55) (v := ?_) (some 214) rfl rfl (by as_aux_lemma => kernel_rfl) (by as_aux_lemma => kernel_rfl) (by as_aux_lemma => kernel_rfl) (fun _ _ _ h => h) (Or.inl ⟨by rfl, ?_⟩) (by assumption) ?_
            rotate_left
            · intro w hSw
              (try dsimp only at hSw)
              first
                | (go_simp; done)
                | (go_simp; with_reducible rfl)
            try simp only [Act.put, List.setIfInBounds_toArray, List.set_cons_zero, List.set_cons_succ]
            refine takeD (i := 56) (v := ?_) (some 215) rfl rfl (by as_aux_lemma => kernel_rfl) (by as_aux_lemma => kernel_rfl) (by as_aux_lemma => kernel_rfl) (fun _ _ _ h => h) (Or.inl ⟨by rfl, ?_⟩) (by assumption) ?_
            rotate_left
            · intro w hSw
              (try dsimp only at hSw)
              first
                | (go_simp; done)
                | (go_simp; with_reducible rfl)
            try simp only [Act.put, List.setIfInBounds_toArray, List.set_cons_zero, List.set_cons_succ]
            refine takeD (i := 57) (v := ?_) (some 216) rfl rfl (by as_aux_lemma => kernel_rfl) (by as_aux_lemma => kernel_rfl) (by as_aux_lemma => kernel_rfl) (fun _ _ _ h => h) (Or.inl ⟨by rfl, ?_⟩) (by assumption) ?_
            rotate_left
            · intro w hSw
              (try dsimp only at hSw)
              first
                | (go_simp; done)
                | (go_simp; with_reducible rfl)
            try simp only [Act.put, List.setIfInBounds_toArray, List.set_cons_zero, List.set_cons_succ]
            refine takeD (i := 58) (v := ?_) (some 217) rfl rfl (by as_aux_lemma => kernel_rfl) (by as_aux_lemma => kernel_rfl) (by as_aux_lemma => kernel_rfl) (fun _ _ _ h => h) (Or.inl ⟨by rfl, ?_⟩) (by assumption) ?_
            rotate_left
            · intro w hSw
              (try dsimp only at hSw)
              first
                | (go_simp; done)
                | (go_simp; with_reducible rfl)
            try simp only [Act.put, List.setIfInBounds_toArray, List.set_cons_zero, List.set_cons_succ]
            refine takeD (i := 59) (v := ?_) (some 218) rfl rfl (by as_aux_lemma => kernel_rfl) (by as_aux_lemma => kernel_rfl) (by as_aux_lemma => kernel_rfl) (fun _ _ _ h => h) (Or.inl ⟨by rfl, ?_⟩) (by assumption) ?_
            rotate_left
            · intro w hSw
              (try dsimp only at hSw)
              first
                | (go_simp; done)
                | (go_simp; with_reducible rfl)
            try simp only [Act.put, List.setIfInBounds_toArray, List.set_cons_zero, List.set_cons_succ]
            refine takeD (i := 60) (v := ?_) (some 219) rfl rfl (by as_aux_lemma => kernel_rfl) (by as_aux_lemma => kernel_rfl) (by as_aux_lemma => kernel_rfl) (fun _ _ _ h => h) (Or.inl ⟨by rfl, ?_⟩) (by assumption) ?_
            rotate_left
            · intro w hSw
              (try dsimp only at hSw)
              first
                | (go_simp; done)
                | (go_simp; with_reducible rfl)
            try simp only [Act.put, List.setIfInBounds_toArray, List.set_cons_zero, List.set_cons_succ]
            refine takeD (i := 64) (v := ?_) (some 223) rfl rfl (by as_aux_lemma => kernel_rfl) (by as_aux_lemma => kernel_rfl) (by as_aux_lemma => kernel_rfl) (fun _ _ _ h => h) (Or.inl ⟨by rfl, ?_⟩) (by assumption) ?_
            rotate_left
            · intro w hSw
              (try dsimp only at hSw)
              first
                | (go_simp; done)
                | (go_simp; with_reducible rfl)
            try simp only [Act.put, List.setIfInBounds_toArray, List.set_cons_zero, List.set_cons_succ]
            generalize ha0 : (Act.mk _ _) = a0
            have e161 : a0.tmps[161]? = some (.pointer (some ⟨p0.1, 0, none⟩)) := by rw [← ha0]; rfl
            have e164 : a0.tmps[164]? = some (.pointer (some ⟨p0.1, 0, none⟩)) := by rw [← ha0]; rfl
            have e167 : a0.tmps[167]? = some (.pointer (some ⟨p1.1, 0, none⟩)) := by rw [← ha0]; rfl
            have e171 : a0.tmps[171]? = some (.pointer (some ⟨p0.1, 0, none⟩)) := by rw [← ha0]; rfl
            have e174 : a0.tmps[174]? = some (.pointer (some ⟨p1.1, 0, none⟩)) := by rw [← ha0]; rfl
            have e177 : a0.tmps[177]? = some (.pointer (some ⟨p0.1, 0, none⟩)) := by rw [← ha0]; rfl
            have e181 : a0.tmps[181]? = some (.pointer (some ⟨p1.1, 0, none⟩)) := by rw [← ha0]; rfl
            have e184 : a0.tmps[184]? = some (.pointer (some ⟨p0.1, 0, none⟩)) := by rw [← ha0]; rfl
            have e187 : a0.tmps[187]? = some (.pointer (some ⟨p0.1, 0, none⟩)) := by rw [← ha0]; rfl
            have e191 : a0.tmps[191]? = some (.pointer (some ⟨p0.1, 0, none⟩)) := by rw [← ha0]; rfl
            have e194 : a0.tmps[194]? = some (.pointer (some ⟨p1.1, 0, none⟩)) := by rw [← ha0]; rfl
            have e197 : a0.tmps[197]? = some (.pointer (some ⟨p2.1, 0, none⟩)) := by rw [← ha0]; rfl
            have e200 : a0.tmps[200]? = some (.pointer (some ⟨p3.1, 0, none⟩)) := by rw [← ha0]; rfl
            have e203 : a0.tmps[203]? = some (.pointer (some ⟨p0.1, 0, none⟩)) := by rw [← ha0]; rfl
            have e207 : a0.tmps[207]? = some (.pointer (some ⟨p0.1, 0, none⟩)) := by rw [← ha0]; rfl
            have e210 : a0.tmps[210]? = some (.pointer (some ⟨p1.1, 0, none⟩)) := by rw [← ha0]; rfl
            have e213 : a0.tmps[213]? = some (.pointer (some ⟨p2.1, 0, none⟩)) := by rw [← ha0]; rfl
            have e216 : a0.tmps[216]? = some (.pointer (some ⟨p3.1, 0, none⟩)) := by rw [← ha0]; rfl
            have e219 : a0.tmps[219]? = some (.pointer (some ⟨p3.1, 0, none⟩)) := by rw [← ha0]; rfl
            refine (show wpAnyH _ .any _ _ _ 7 #[true, true, true, true, true, true, true, true, true, false, true, true, true, true, true, true, true, true, true, false, true, true, true, true, true, true, true, true, true, false, true, true, true, true, true, true, true, true, true, true, true, true, true, true, true, false, true, true, true, true, true, true, true, true, true, true, true, true, true, true, true, false, false, false, true] a0 _ from ?_)
            refine par5_start a0 168 178 188 204 220 (by decide) [9, 19, 29, 45, 61] #[true, true, true, true, true, true, true, true, true, false, true, true, true, true, true, true, true, true, true, false, true, true, true, true, true, true, true, true, true, false, true, true, true, true, true, true, true, true, true, true, true, true, true, true, true, false, true, true, true, true, true, true, true, true, true, true, true, true, true, true, true, false, false, false, true] 2 (fun s W => P5 w W (some ⟨gA, 0, none⟩) c [p0, p1, p2, p3, p4] (ls5 p0.1 p1.1 p2.1 p3.1) s) (by as_aux_lemma => kernel_rfl) ?step ?done _ ⟨HN.out.keep (Below.refl _ w5).drew, fun k v h => by cases h⟩ (by assumption)
            case step =>
              intro kk hk s W K hn hJ hS hK
              have h161 : (frm a0 [168, 178, 188, 204, 220] s).tmps[161]? = some (.pointer (some ⟨p0.1, 0, none⟩)) := (frm_tmps a0 _ s 161 (not_at (by decide))).trans e161
              have h164 : (frm a0 [168, 178, 188, 204, 220] s).tmps[164]? = some (.pointer (some ⟨p0.1, 0, none⟩)) := (frm_tmps a0 _ s 164 (not_at (by decide))).trans e164
              have h167 : (frm a0 [168, 178, 188, 204, 220] s).tmps[167]? = some (.pointer (some ⟨p1.1, 0, none⟩)) := (frm_tmps a0 _ s 167 (not_at (by decide))).trans e167
              have h171 : (frm a0 [168, 178, 188, 204, 220] s).tmps[171]? = some (.pointer (some ⟨p0.1, 0, none⟩)) := (frm_tmps a0 _ s 171 (not_at (by decide))).trans e171
              have h174 : (frm a0 [168, 178, 188, 204, 220] s).tmps[174]? = some (.pointer (some ⟨p1.1, 0, none⟩)) := (frm_tmps a0 _ s 174 (not_at (by decide))).trans e174
              have h177 : (frm a0 [168, 178, 188, 204, 220] s).tmps[177]? = some (.pointer (some ⟨p0.1, 0, none⟩)) := (frm_tmps a0 _ s 177 (not_at (by decide))).trans e177
              have h181 : (frm a0 [168, 178, 188, 204, 220] s).tmps[181]? = some (.pointer (some ⟨p1.1, 0, none⟩)) := (frm_tmps a0 _ s 181 (not_at (by decide))).trans e181
              have h184 : (frm a0 [168, 178, 188, 204, 220] s).tmps[184]? = some (.pointer (some ⟨p0.1, 0, none⟩)) := (frm_tmps a0 _ s 184 (not_at (by decide))).trans e184
              have h187 : (frm a0 [168, 178, 188, 204, 220] s).tmps[187]? = some (.pointer (some ⟨p0.1, 0, none⟩)) := (frm_tmps a0 _ s 187 (not_at (by decide))).trans e187
              have h191 : (frm a0 [168, 178, 188, 204, 220] s).tmps[191]? = some (.pointer (some ⟨p0.1, 0, none⟩)) := (frm_tmps a0 _ s 191 (not_at (by decide))).trans e191
              have h194 : (frm a0 [168, 178, 188, 204, 220] s).tmps[194]? = some (.pointer (some ⟨p1.1, 0, none⟩)) := (frm_tmps a0 _ s 194 (not_at (by decide))).trans e194
              have h197 : (frm a0 [168, 178, 188, 204, 220] s).tmps[197]? = some (.pointer (some ⟨p2.1, 0, none⟩)) := (frm_tmps a0 _ s 197 (not_at (by decide))).trans e197
              have h200 : (frm a0 [168, 178, 188, 204, 220] s).tmps[200]? = some (.pointer (some ⟨p3.1, 0, none⟩)) := (frm_tmps a0 _ s 200 (not_at (by decide))).trans e200
              have h203 : (frm a0 [168, 178, 188, 204, 220] s).tmps[203]? = some (.pointer (some ⟨p0.1, 0, none⟩)) := (frm_tmps a0 _ s 203 (not_at (by decide))).trans e203
              have h207 : (frm a0 [168, 178, 188, 204, 220] s).tmps[207]? = some (.pointer (some ⟨p0.1, 0, none⟩)) := (frm_tmps a0 _ s 207 (not_at (by decide))).trans e207
              have h210 : (frm a0 [168, 178, 188, 204, 220] s).tmps[210]? = some (.pointer (some ⟨p1.1, 0, none⟩)) := (frm_tmps a0 _ s 210 (not_at (by decide))).trans e210
              have h213 : (frm a0 [168, 178, 188, 204, 220] s).tmps[213]? = some (.pointer (some ⟨p2.1, 0, none⟩)) := (frm_tmps a0 _ s 213 (not_at (by decide))).trans e213
              have h216 : (frm a0 [168, 178, 188, 204, 220] s).tmps[216]? = some (.pointer (some ⟨p3.1, 0, none⟩)) := (frm_tmps a0 _ s 216 (not_at (by decide))).trans e216
              have h219 : (frm a0 [168, 178, 188, 204, 220] s).tmps[219]? = some (.pointer (some ⟨p3.1, 0, none⟩)) := (frm_tmps a0 _ s 219 (not_at (by decide))).trans e219
              generalize frm a0 [168, 178, 188, 204, 220] s = a at *
              rcases (show kk = 0 ∨ kk = 1 ∨ kk = 2 ∨ kk = 3 ∨ kk = 4 by omega) with rfl | rfl | rfl | rfl | rfl
              · refine wpOp_step rfl (fun K' hK' => ?_)
                go_simp
                exact hK' _ _ (hK _ _ (hJ.step 0 rfl) (S5_keep hS ((Below.refl _ W).alloc (Nat.le_refl _) _)))
              · refine wpOp_step rfl (fun K' hK' => ?_)
                go_simp
                exact hK' _ _ (hK _ _ (hJ.step 1 rfl) (S5_keep hS ((Below.refl _ W).alloc (Nat.le_refl _) _)))
              · refine wpOp_step rfl (fun K' hK' => ?_)
                go_simp
                exact hK' _ _ (hK _ _ (hJ.step 2 rfl) (S5_keep hS ((Below.refl _ W).alloc (Nat.le_refl _) _)))
              · refine wpOp_step rfl (fun K' hK' => ?_)
                go_simp
                exact hK' _ _ (hK _ _ (hJ.step 3 rfl) (S5_keep hS ((Below.refl _ W).alloc (Nat.le_refl _) _)))
              · refine wpOp_step rfl (fun K' hK' => ?_)
                go_simp
                exact hK' _ _ (hK _ _ (hJ.step 4 rfl) (S5_keep hS ((Below.refl _ W).alloc (Nat.le_refl _) _)))
            case done =>
              intro s W hs hJ hS
              obtain ⟨bl, hbl⟩ := hJ.done hs
              have HT5 := hid (hJ.made bl hbl)
              have g0 : s 0 = some (.slice (some ⟨bl 0, 0, none⟩) 3 3) := (hbl 0 (by decide)).1
              have g1 : s 1 = some (.slice (some ⟨bl 1, 0, none⟩) 3 3) := (hbl 1 (by decide)).1
              have g2 : s 2 = some (.slice (some ⟨bl 2, 0, none⟩) 3 3) := (hbl 2 (by decide)).1
              have g3 : s 3 = some (.slice (some ⟨bl 3, 0, none⟩) 5 5) := (hbl 3 (by decide)).1
              have g4 : s 4 = some (.slice (some ⟨bl 4, 0, none⟩) 5 5) := (hbl 4 (by decide)).1
              simp only [frm, put1, g0, g1, g2, g3, g4, List.getElem?_cons_zero, List.getElem?_cons_succ]
              clear hbl g0 g1 g2 g3 g4 hs hJ e161 e164 e167 e171 e174 e177 e181 e184 e187 e191 e194 e197 e200 e203 e207 e210 e213 e216 e219
              subst ha0
              try simp only [Act.put, List.setIfInBounds_toArray, List.set_cons_zero, List.set_cons_succ]
              refine wpAnyH_ready (rs := [62]) (by as_aux_lemma => kernel_rfl) (by simp) ?_
              refine AllReadyH.cons rfl (fun K hK => ?_) AllReadyH.nil
              go_simp
              refine hK.out _ _ (S5_keep hS ((Below.refl _ W).alloc (Nat.le_refl _) _)) (fun hHeld => ?_)
              clear hK K hS
              try simp only [Act.put, List.setIfInBounds_toArray, List.set_cons_zero, List.set_cons_succ]
              refine takeD (i := 63) (v := ?_) (some 222) rfl rfl (by as_aux_lemma => kernel_rfl) (by as_aux_lemma => kernel_rfl) (by as_aux_lemma => kernel_rfl) (fun _ _ _ h => h) (Or.inl ⟨by rfl, ?_⟩) (by assumption) ?_
              rotate_left
              · intro w hSw
                (try dsimp only at hSw)
                first
                  | (go_simp; done)
                  | (go_simp; with_reducible rfl)
              try simp only [Act.put, List.setIfInBounds_toArray, List.set_cons_zero, List.set_cons_succ]
              refine wpAnyH_done (by as_aux_lemma => kernel_rfl) ?_ _
              clear hHeld
              generalize (W.alloc (.cells #[.slice (some ⟨bl 0, 0, none⟩) 3 3, .slice (some ⟨bl 1, 0, none⟩) 3 3, .slice (some ⟨bl 2, 0, none⟩) 3 3, .slice (some ⟨bl 3, 0, none⟩) 5 5, .slice (some ⟨bl 4, 0, none⟩) 5 5] 23)) = W5 at *
              generalize W.heap.size = bs at *
              go_wp2_with fail
              go_loopg [223] 5 (fun gk i wr => ∃ d : Nat, gk + d = 5 ∧ i = .int .i64 d ∧ Hid (T5 w wr (some ⟨gA, 0, none⟩) c [p0, p1, p2, p3, p4] bs))
              case atStart => exact ⟨0, by omega, rfl, HT5⟩
              case round =>
                clear HT5
                obtain ⟨d, hd, rfl, HT5⟩ := hrel
                have HD := hid hd
                by_cases hlt : d < 5
                · obtain ⟨b, n5, ca, hn5, ho⟩ := HT5.out.dup d hlt
                  have HLT := hid hlt
                  have HOP := hid ho
                  clear hd ho
                  go_wp2_with fail
                  refine (HOP.out).mono ?_; rintro e w' ⟨rfl, rfl⟩
                  go_wp2_with fail
                  go_roundg (gk - 1)
                  case measure => have := HD.out; have := HLT.out; omega
                  case rel => exact ⟨d + 1, by have := HD.out; have := HLT.out; omega, by go_num, HT5⟩
                · obtain rfl : d = 5 := by have := HD.out; omega
                  clear hd hlt
                  go_wp2_with fail
                  have HM5 := hid (MnS.made HT5.out.nt.low)
                  generalize ((wr.alloc (.cells #[.slice none 0 0, .int .i64 0, .pointer none, .slice none 0 0, .bool false] 55)).alloc (.cells #[.pointer none, .pointer (some ⟨wr.heap.size, 0, none⟩)] 46)) = G5 at *
                  generalize wr.heap.size = g5 at *
                  clear HT5
                  go_loopg [243] 2 (fun gk i wr => ∃ d : Nat, gk + d = 2 ∧ i = .int .i64 d ∧ Hid (MnS w wr g5))
                  case atStart => exact ⟨0, by omega, rfl, HM5⟩
                  case round =>
                    clear HM5
                    obtain ⟨d, hd, rfl, HM5⟩ := hrel
                    have HD := hid hd
                    by_cases hlt : d < 2
                    · obtain ⟨va, ca, hno⟩ := HM5.out.at hlt
                      have HLT := hid hlt
                      clear hd
                      have H1 := hid (doN _ line wr hno)
                      have H2 := hid (askN _ line wr hno)
                      have H3 := hid (journalN _ wr hno)
                      have H4 := hid (stateN _ wr hno)
                      have H5 := hid (outN _ wr hno)
                      clear hno
                      go_wp2_with fail
                      refine (H1.out).mono ?_; rintro e w' ⟨rfl, rfl⟩
                      go_wp2_with fail
                      refine (H2.out).mono ?_; rintro e w' ⟨rfl, rfl⟩
                      go_wp2_with fail
                      refine (H3.out).mono ?_; rintro e w' ⟨rfl, rfl⟩
                      go_wp2_with fail
                      refine (H4.out).mono ?_; rintro e w' ⟨rfl, rfl⟩
                      go_wp2_with fail
                      refine (H5.out).mono ?_; rintro e w' ⟨rfl, rfl⟩
                      clear H1 H2 H3 H4 H5 ca
                      go_wp2
                      go_roundg (gk - 1)
                      case measure => have := HD.out; have := HLT.out; omega
                      case rel => exact ⟨d + 1, by have := HD.out; have := HLT.out; omega, by go_num, HM5⟩
                    · obtain rfl : d = 2 := by have := HD.out; omega
                      clear hd hlt
                      have HAW := hid (awakeF wr (HT.out.below HM5.out.low) (HM.out.keep HM5.out.low))
                      go_wp2_with fail
                      refine (HAW.out).mono ?_; rintro e w6 ⟨rfl, hb6⟩
                      have HB6 := hid hb6
                      clear hb6
                      go_wp2
                      go_ret
                      exact ⟨rfl, below_call HM5.out.low HB6.out HM5.out.low.size⟩
          · clear hmr
            go_wp2_with fail
            refine wp_region_held_drew (S := (fun w' => w'.cell? ⟨gA, 0, none⟩ = some (.pointer (some ⟨p0.1, 0, none⟩)) ∧ w'.cell? ⟨gA, 1, none⟩ = some (.pointer (some ⟨p1.1, 0, none⟩)) ∧ w'.cell? ⟨gA, 2, none⟩ = some (.pointer (some ⟨p2.1, 0, none⟩)) ∧ w'.cell? ⟨gA, 3, none⟩ = some (.pointer (some ⟨p3.1, 0, none⟩)) ∧ w'.cell? ⟨gA, 4, none⟩ = some (.pointer (some ⟨p4.1, 0, none⟩)))) (by as_aux_lemma => kernel_rfl) (by (try dsimp only); (exact ⟨c0, c1, c2, c3, c4⟩)) (fun hHeld => ?_)
            refine takeD (i := 0) (v := ?_) (some 159) rfl rfl (by as_aux_lemma => kernel_rfl) (by as_aux_lemma => kernel_rfl) (by as_aux_lemma => kernel_rfl) (fun _ _ _ h => h) (Or.inl ⟨by rfl, ?_⟩) (by assumption) ?_
            rotate_left
            · intro w hSw
              (try dsimp only at hSw)
              first
                | (go_simp; done)
                | (go_simp; with_reducible rfl)
            try simp only [Act.put, List.setIfInBounds_toArray, List.set_cons_zero, List.set_cons_succ]
            refine takeD (i := 1) (v := ?_) (some 160) rfl rfl (by as_aux_lemma => kernel_rfl) (by as_aux_lemma => kernel_rfl) (by as_aux_lemma => kernel_rfl) (fun _ _ _ h => h) (Or.inl ⟨by rfl, ?_⟩) (by assumption) ?_
            rotate_left
            · intro w hSw
              (try dsimp only at hSw)
              first
                | (go_simp; done)
                | (go_simp; with_reducible rfl)
            try simp only [Act.put, List.setIfInBounds_toArray, List.set_cons_zero, List.set_cons_succ]
            refine takeD (i := 2) (v := ?_) (some 161) rfl rfl (by as_aux_lemma => kernel_rfl) (by as_aux_lemma => kernel_rfl) (by as_aux_lemma => kernel_rfl) (fun _ _ _ h => h) (Or.inl ⟨by rfl, ?_⟩) (by assumption) ?_
            rotate_left
            · intro w hSw
              (try dsimp only at hSw)
              first
                | (go_simp; done)
                | (go_simp; with_reducible rfl)
            try simp only [Act.put, List.setIfInBounds_toArray, List.set_cons_zero, List.set_cons_succ]
            refine takeD (i := 3) (v := ?_) (some 162) rfl rfl (by as_aux_lemma => kernel_rfl) (by as_aux_lemma => kernel_rfl) (by as_aux_lemma => kernel_rfl) (fun _ _ _ h => h) (Or.inl ⟨by rfl, ?_⟩) (by assumption) ?_
            rotate_left
            · intro w hSw
              (try dsimp only at hSw)
              first
                | (go_simp; done)
                | (go_simp; with_reducible rfl)
            try simp only [Act.put, List.setIfInBounds_toArray, List.set_cons_zero, List.set_cons_succ]
            refine takeD (i := 4) (v := ?_) (some 163) rfl rfl (by as_aux_lemma => kernel_rfl) (by as_aux_lemma => kernel_rfl) (by as_aux_lemma => kernel_rfl) (fun _ _ _ h => h) (Or.inl ⟨by rfl, ?_⟩) (by assumption) ?_
            rotate_left
            · intro w hSw
              (try dsimp only at hSw)
              first
                | (go_simp; done)
                | (go_simp; with_reducible rfl)
            try simp only [Act.put, List.setIfInBounds_toArray, List.set_cons_zero, List.set_cons_succ]
            refine takeD (i := 5) (v := ?_) (some 164) rfl rfl (by as_aux_lemma => kernel_rfl) (by as_aux_lemma => kernel_rfl) (by as_aux_lemma => kernel_rfl) (fun _ _ _ h => h) (Or.inl ⟨by rfl, ?_⟩) (by assumption) ?_
            rotate_left
            · intro w hSw
              (try dsimp only at hSw)
              first
                | (go_simp; done)
                | (go_simp; with_reducible rfl)
            try simp only [Act.put, List.setIfInBounds_toArray, List.set_cons_zero, List.set_cons_succ]
            refine takeD (i := 6) (v := ?_) (some 165) rfl rfl (by as_aux_lemma => kernel_rfl) (by as_aux_lemma => kernel_rfl) (by as_aux_lemma => kernel_rfl) (fun _ _ _ h => h) (Or.inl ⟨by rfl, ?_⟩) (by assumption) ?_
            rotate_left
            · intro w hSw
              (try dsimp only at hSw)
              first
                | (go_simp; done)
                | (go_simp; with_reducible rfl)
            try simp only [Act.put, List.setIfInBounds_toArray, List.set_cons_zero, List.set_cons_succ]
            refine takeD (i := 7) (v := ?_) (some 166) rfl rfl (by as_aux_lemma => kernel_rfl) (by as_aux_lemma => kernel_rfl) (by as_aux_lemma => kernel_rfl) (fun _ _ _ h => h) (Or.inl ⟨by rfl, ?_⟩) (by assumption) ?_
            rotate_left
            · intro w hSw
              (try dsimp only at hSw)
              first
                | (go_simp; done)
                | (go_simp; with_reducible rfl)
            try simp only [Act.put, List.setIfInBounds_toArray, List.set_cons_zero, List.set_cons_succ]
            refine takeD (i := 8) (v := ?_) (some 167) rfl rfl (by as_aux_lemma => kernel_rfl) (by as_aux_lemma => kernel_rfl) (by as_aux_lemma => kernel_rfl) (fun _ _ _ h => h) (Or.inl ⟨by rfl, ?_⟩) (by assumption) ?_
            rotate_left
            · intro w hSw
              (try dsimp only at hSw)
              first
                | (go_simp; done)
                | (go_simp; with_reducible rfl)
            try simp only [Act.put, List.setIfInBounds_toArray, List.set_cons_zero, List.set_cons_succ]
            refine takeD (i := 10) (v := ?_) (some 169) rfl rfl (by as_aux_lemma => kernel_rfl) (by as_aux_lemma => kernel_rfl) (by as_aux_lemma => kernel_rfl) (fun _ _ _ h => h) (Or.inl ⟨by rfl, ?_⟩) (by assumption) ?_
            rotate_left
            · intro w hSw
              (try dsimp only at hSw)
              first
                | (go_simp; done)
                | (go_simp; with_reducible rfl)
            try simp only [Act.put, List.setIfInBounds_toArray, List.set_cons_zero, List.set_cons_succ]
            refine takeD (i := 11) (v := ?_) (some 170) rfl rfl (by as_aux_lemma => kernel_rfl) (by as_aux_lemma => kernel_rfl) (by as_aux_lemma => kernel_rfl) (fun _ _ _ h => h) (Or.inl ⟨by rfl, ?_⟩) (by assumption) ?_
            rotate_left
            · intro w hSw
              (try dsimp only at hSw)
              first
                | (go_simp; done)
                | (go_simp; with_reducible rfl)
            try simp only [Act.put, List.setIfInBounds_toArray, List.set_cons_zero, List.set_cons_succ]
            refine takeD (i := 12) (v := ?_) (some 171) rfl rfl (by as_aux_lemma => kernel_rfl) (by as_aux_lemma => kernel_rfl) (by as_aux_lemma => kernel_rfl) (fun _ _ _ h => h) (Or.inl ⟨by rfl, ?_⟩) (by assumption) ?_
            rotate_left
            · intro w hSw
              (try dsimp only at hSw)
              first
                | (go_simp; done)
                | (go_simp; with_reducible rfl)
            try simp only [Act.put, List.setIfInBounds_toArray, List.set_cons_zero, List.set_cons_succ]
            refine takeD (i := 13) (v := ?_) (some 172) rfl rfl (by as_aux_lemma => kernel_rfl) (by as_aux_lemma => kernel_rfl) (by as_aux_lemma => kernel_rfl) (fun _ _ _ h => h) (Or.inl ⟨by rfl, ?_⟩) (by assumption) ?_
            rotate_left
            · intro w hSw
              (try dsimp only at hSw)
              first
                | (go_simp; done)
                | (go_simp; with_reducible rfl)
            try simp only [Act.put, List.setIfInBounds_toArray, List.set_cons_zero, List.set_cons_succ]
            refine takeD (i := 14) (v := ?_) (some 173) rfl rfl (by as_aux_lemma => kernel_rfl) (by as_aux_lemma => kernel_rfl) (by as_aux_lemma => kernel_rfl) (fun _ _ _ h => h) (Or.inl ⟨by rfl, ?_⟩) (by assumption) ?_
            rotate_left
            · intro w hSw
              (try dsimp only at hSw)
              first
                | (go_simp; done)
                | (go_simp; with_reducible rfl)
            try simp only [Act.put, List.setIfInBounds_toArray, List.set_cons_zero, List.set_cons_succ]
            refine takeD (i := 15) (v := ?_) (some 174) rfl rfl (by as_aux_lemma => kernel_rfl) (by as_aux_lemma => kernel_rfl) (by as_aux_lemma => kernel_rfl) (fun _ _ _ h => h) (Or.inl ⟨by rfl, ?_⟩) (by assumption) ?_
            rotate_left
            · intro w hSw
              (try dsimp only at hSw)
              first
                | (go_simp; done)
                | (go_simp; with_reducible rfl)
            try simp only [Act.put, List.setIfInBounds_toArray, List.set_cons_zero, List.set_cons_succ]
            refine takeD (i := 16) (v := ?_) (some 175) rfl rfl (by as_aux_lemma => kernel_rfl) (by as_aux_lemma => kernel_rfl) (by as_aux_lemma => kernel_rfl) (fun _ _ _ h => h) (Or.inl ⟨by rfl, ?_⟩) (by assumption) ?_
            rotate_left
            · intro w hSw
              (try dsimp only at hSw)
              first
                | (go_simp; done)
                | (go_simp; with_reducible rfl)
            try simp only [Act.put, List.setIfInBounds_toArray, List.set_cons_zero, List.set_cons_succ]
            refine takeD (i := 17) (v := ?_) (some 176) rfl rfl (by as_aux_lemma => kernel_rfl) (by as_aux_lemma => kernel_rfl) (by as_aux_lemma => kernel_rfl) (fun _ _ _ h => h) (Or.inl ⟨by rfl, ?_⟩) (by assumption) ?_
            rotate_left
            · intro w hSw
              (try dsimp only at hSw)
              first
                | (go_simp; done)
                | (go_simp; with_reducible rfl)
            try simp only [Act.put, List.setIfInBounds_toArray, List.set_cons_zero, List.set_cons_succ]
            refine takeD (i := 18) (v := ?_) (some 177) rfl rfl (by as_aux_lemma => kernel_rfl) (by as_aux_lemma => kernel_rfl) (by as_aux_lemma => kernel_rfl) (fun _ _ _ h => h) (Or.inl ⟨by rfl, ?_⟩) (by assumption) ?_
            rotate_left
            · intro w hSw
              (try dsimp only at hSw)
              first
                | (go_simp; done)
                | (go_simp; with_reducible rfl)
            try simp only [Act.put, List.setIfInBounds_toArray, List.set_cons_zero, List.set_cons_succ]
            refine takeD (i := 20) (v := ?_) (some 179) rfl rfl (by as_aux_lemma => kernel_rfl) (by as_aux_lemma => kernel_rfl) (by as_aux_lemma => kernel_rfl) (fun _ _ _ h => h) (Or.inl ⟨by rfl, ?_⟩) (by assumption) ?_
            rotate_left
            · intro w hSw
              (try dsimp only at hSw)
              first
                | (go_simp; done)
                | (go_simp; with_reducible rfl)
            try simp only [Act.put, List.setIfInBounds_toArray, List.set_cons_zero, List.set_cons_succ]
            refine takeD (i := 21) (v := ?_) (some 180) rfl rfl (by as_aux_lemma => kernel_rfl) (by as_aux_lemma => kernel_rfl) (by as_aux_lemma => kernel_rfl) (fun _ _ _ h => h) (Or.inl ⟨by rfl, ?_⟩) (by assumption) ?_
            rotate_left
            · intro w hSw
              (try dsimp only at hSw)
              first
                | (go_simp; done)
                | (go_simp; with_reducible rfl)
            try simp only [Act.put, List.setIfInBounds_toArray, List.set_cons_zero, List.set_cons_succ]
            refine takeD (i := 22) (v := ?_) (some 181) rfl rfl (by as_aux_lemma => kernel_rfl) (by as_aux_lemma => kernel_rfl) (by as_aux_lemma => kernel_rfl) (fun _ _ _ h => h) (Or.inl ⟨by rfl, ?_⟩) (by assumption) ?_
            rotate_left
            · intro w hSw
              (try dsimp only at hSw)
              first
                | (go_simp; done)
                | (go_simp; with_reducible rfl)
            try simp only [Act.put, List.setIfInBounds_toArray, List.set_cons_zero, List.set_cons_succ]
            refine takeD (i := 23) (v := ?_) (some 182) rfl rfl (by as_aux_lemma => kernel_rfl) (by as_aux_lemma => kernel_rfl) (by as_aux_lemma => kernel_rfl) (fun _ _ _ h => h) (Or.inl ⟨by rfl, ?_⟩) (by assumption) ?_
            rotate_left
            · intro w hSw
              (try dsimp only at hSw)
              first
                | (go_simp; done)
                | (go_simp; with_reducible rfl)
            try simp only [Act.put, List.setIfInBounds_toArray, List.set_cons_zero, List.set_cons_succ]
            refine takeD (i := 24) (v := ?_) (some 183) rfl rfl (by as_aux_lemma => kernel_rfl) (by as_aux_lemma => kernel_rfl) (by as_aux_lemma => kernel_rfl) (fun _ _ _ h => h) (Or.inl ⟨by rfl, ?_⟩) (by assumption) ?_
            rotate_left
            · intro w hSw
              (try dsimp only at hSw)
              first
                | (go_simp; done)
                | (go_simp; with_reducible rfl)
            try simp only [Act.put, List.setIfInBounds_toArray, List.set_cons_zero, List.set_cons_succ]
            refine takeD (i := 25) (v := ?_) (some 184) rfl rfl (by as_aux_lemma => kernel_rfl) (by as_aux_lemma => kernel_rfl) (by as_aux_lemma => kernel_rfl) (fun _ _ _ h => h) (Or.inl ⟨by rfl, ?_⟩) (by assumption) ?_
            rotate_left
            · intro w hSw
              (try dsimp only at hSw)
              first
                | (go_simp; done)
                | (go_simp; with_reducible rfl)
            try simp only [Act.put, List.setIfInBounds_toArray, List.set_cons_zero, List.set_cons_succ]
            refine takeD (i := 26) (v := ?_) (some 185) rfl rfl (by as_aux_lemma => kernel_rfl) (by as_aux_lemma => kernel_rfl) (by as_aux_lemma => kernel_rfl) (fun _ _ _ h => h) (Or.inl ⟨by rfl, ?_⟩) (by assumption) ?_
            rotate_left
            · intro w hSw
              (try dsimp only at hSw)
              first
                | (go_simp; done)
                | (go_simp; with_reducible rfl)
            try simp only [Act.put, List.setIfInBounds_toArray, List.set_cons_zero, List.set_cons_succ]
            refine takeD (i := 27) (v := ?_) (some 186) rfl rfl (by as_aux_lemma => kernel_rfl) (by as_aux_lemma => kernel_rfl) (by as_aux_lemma => kernel_rfl) (fun _ _ _ h => h) (Or.inl ⟨by rfl, ?_⟩) (by assumption) ?_
            rotate_left
            · intro w hSw
              (try dsimp only at hSw)
              first
                | (go_simp; done)
                | (go_simp; with_reducible rfl)
            try simp only [Act.put, List.setIfInBounds_toArray, List.set_cons_zero, List.set_cons_succ]
            refine takeD (i := 28) (v := ?_) (some 187) rfl rfl (by as_aux_lemma => kernel_rfl) (by as_aux_lemma => kernel_rfl) (by as_aux_lemma => kernel_rfl) (fun _ _ _ h => h) (Or.inl ⟨by rfl, ?_⟩) (by assumption) ?_
            rotate_left
            · intro w hSw
              (try dsimp only at hSw)
              first
                | (go_simp; done)
                | (go_simp; with_reducible rfl)
            try simp only [Act.put, List.setIfInBounds_toArray, List.set_cons_zero, List.set_cons_succ]
            refine takeD (i := 30) (v := ?_) (some 189) rfl rfl (by as_aux_lemma => kernel_rfl) (by as_aux_lemma => kernel_rfl) (by as_aux_lemma => kernel_rfl) (fun _ _ _ h => h) (Or.inl ⟨by rfl, ?_⟩) (by assumption) ?_
            rotate_left
            · intro w hSw
              (try dsimp only at hSw)
              first
                | (go_simp; done)
                | (go_simp; with_reducible rfl)
            try simp only [Act.put, List.setIfInBounds_toArray, List.set_cons_zero, List.set_cons_succ]
            refine takeD (i := 31) (v := ?_) (some 190) rfl rfl (by as_aux_lemma => kernel_rfl) (by as_aux_lemma => kernel_rfl) (by as_aux_lemma => kernel_rfl) (fun _ _ _ h => h) (Or.inl ⟨by rfl, ?_⟩) (by assumption) ?_
            rotate_left
            · intro w hSw
              (try dsimp only at hSw)
              first
                | (go_simp; done)
                | (go_simp; with_reducible rfl)
            try simp only [Act.put, List.setIfInBounds_toArray, List.set_cons_zero, List.set_cons_succ]
            refine takeD (i := 32) (v := ?_) (some 191) rfl rfl (by as_aux_lemma => kernel_rfl) (by as_aux_lemma => kernel_rfl) (by as_aux_lemma => kernel_rfl) (fun _ _ _ h => h) (Or.inl ⟨by rfl, ?_⟩) (by assumption) ?_
            rotate_left
            · intro w hSw
              (try dsimp only at hSw)
              first
                | (go_simp; done)
                | (go_simp; with_reducible rfl)
            try simp only [Act.put, List.setIfInBounds_toArray, List.set_cons_zero, List.set_cons_succ]
            refine takeD (i := 33) (v := ?_) (some 192) rfl rfl (by as_aux_lemma => kernel_rfl) (by as_aux_lemma => kernel_rfl) (by as_aux_lemma => kernel_rfl) (fun _ _ _ h => h) (Or.inl ⟨by rfl, ?_⟩) (by assumption) ?_
            rotate_left
            · intro w hSw
              (try dsimp only at hSw)
              first
                | (go_simp; done)
                | (go_simp; with_reducible rfl)
            try simp only [Act.put, List.setIfInBounds_toArray, List.set_cons_zero, List.set_cons_succ]
            refine takeD (i := 34) (v := ?_) (some 193) rfl rfl (by as_aux_lemma => kernel_rfl) (by as_aux_lemma => kernel_rfl) (by as_aux_lemma => kernel_rfl) (fun _ _ _ h => h) (Or.inl ⟨by rfl, ?_⟩) (by assumption) ?_
            rotate_left
            · intro w hSw
              (try dsimp only at hSw)
              first
                | (go_simp; done)
                | (go_simp; with_reducible rfl)
            try simp only [Act.put, List.setIfInBounds_toArray, List.set_cons_zero, List.set_cons_succ]
            refine takeD (i := 35) (v := ?_) (some 194) rfl rfl (by as_aux_lemma => kernel_rfl) (by as_aux_lemma => kernel_rfl) (by as_aux_lemma => kernel_rfl) (fun _ _ _ h => h) (Or.inl ⟨by rfl, ?_⟩) (by assumption) ?_
            rotate_left
            · intro w hSw
              (try dsimp only at hSw)
              first
                | (go_simp; done)
                | (go_simp; with_reducible rfl)
            try simp only [Act.put, List.setIfInBounds_toArray, List.set_cons_zero, List.set_cons_succ]
            refine takeD (i := 36) (v := ?_) (some 195) rfl rfl (by as_aux_lemma => kernel_rfl) (by as_aux_lemma => kernel_rfl) (by as_aux_lemma => kernel_rfl) (fun _ _ _ h => h) (Or.inl ⟨by rfl, ?_⟩) (by assumption) ?_
            rotate_left
            · intro w hSw
              (try dsimp only at hSw)
              first
                | (go_simp; done)
                | (go_simp; with_reducible rfl)
            try simp only [Act.put, List.setIfInBounds_toArray, List.set_cons_zero, List.set_cons_succ]
            refine takeD (i := 37) (v := ?_) (some 196) rfl rfl (by as_aux_lemma => kernel_rfl) (by as_aux_lemma => kernel_rfl) (by as_aux_lemma => kernel_rfl) (fun _ _ _ h => h) (Or.inl ⟨by rfl, ?_⟩) (by assumption) ?_
            rotate_left
            · intro w hSw
              (try dsimp only at hSw)
              first
                | (go_simp; done)
                | (go_simp; with_reducible rfl)
            try simp only [Act.put, List.setIfInBounds_toArray, List.set_cons_zero, List.set_cons_succ]
            refine takeD (i := 38) (v := ?_) (some 197) rfl rfl (by as_aux_lemma => kernel_rfl) (by as_aux_lemma => kernel_rfl) (by as_aux_lemma => kernel_rfl) (fun _ _ _ h => h) (Or.inl ⟨by rfl, ?_⟩) (by assumption) ?_
            rotate_left
            · intro w hSw
              (try dsimp only at hSw)
              first
                | (go_simp; done)
                | (go_simp; with_reducible rfl)
            try simp only [Act.put, List.setIfInBounds_toArray, List.set_cons_zero, List.set_cons_succ]
            refine takeD (i := 39) (v := ?_) (some 198) rfl rfl (by as_aux_lemma => kernel_rfl) (by as_aux_lemma => kernel_rfl) (by as_aux_lemma => kernel_rfl) (fun _ _ _ h => h) (Or.inl ⟨by rfl, ?_⟩) (by assumption) ?_
            rotate_left
            · intro w hSw
              (try dsimp only at hSw)
              first
                | (go_simp; done)
                | (go_simp; with_reducible rfl)
            try simp only [Act.put, List.setIfInBounds_toArray, List.set_cons_zero, List.set_cons_succ]
            refine takeD (i := 40) (v := ?_) (some 199) rfl rfl (by as_aux_lemma => kernel_rfl) (by as_aux_lemma => kernel_rfl) (by as_aux_lemma => kernel_rfl) (fun _ _ _ h => h) (Or.inl ⟨by rfl, ?_⟩) (by assumption) ?_
            rotate_left
            · intro w hSw
              (try dsimp only at hSw)
              first
                | (go_simp; done)
                | (go_simp; with_reducible rfl)
            try simp only [Act.put, List.setIfInBounds_toArray, List.set_cons_zero, List.set_cons_succ]
            refine takeD (i := 41) (v := ?_) (some 200) rfl rfl (by as_aux_lemma => kernel_rfl) (by as_aux_lemma => kernel_rfl) (by as_aux_lemma => kernel_rfl) (fun _ _ _ h => h) (Or.inl ⟨by rfl, ?_⟩) (by assumption) ?_
            rotate_left
            · intro w hSw
              (try dsimp only at hSw)
              first
                | (go_simp; done)
                | (go_simp; with_reducible rfl)
            try simp only [Act.put, List.setIfInBounds_toArray, List.set_cons_zero, List.set_cons_succ]
            refine takeD (i := 42) (v := ?_) (some 201) rfl rfl (by as_aux_lemma => kernel_rfl) (by as_aux_lemma => kernel_rfl) (by as_aux_lemma => kernel_rfl) (fun _ _ _ h => h) (Or.inl ⟨by rfl, ?_⟩) (by assumption) ?_
            rotate_left
            · intro w hSw
              (try dsimp only at hSw)
              first
                | (go_simp; done)
                | (go_simp; with_reducible rfl)
            try simp only [Act.put, List.setIfInBounds_toArray, List.set_cons_zero, List.set_cons_succ]
            refine takeD (i := 43) (v := ?_) (some 202) rfl rfl (by as_aux_lemma => kernel_rfl) (by as_aux_lemma => kernel_rfl) (by as_aux_lemma => kernel_rfl) (fun _ _ _ h => h) (Or.inl ⟨by rfl, ?_⟩) (by assumption) ?_
            rotate_left
            · intro w hSw
              (try dsimp only at hSw)
              first
                | (go_simp; done)
                | (go_simp; with_reducible rfl)
            try simp only [Act.put, List.setIfInBounds_toArray, List.set_cons_zero, List.set_cons_succ]
            refine takeD (i := 44) (v := ?_) (some 203) rfl rfl (by as_aux_lemma => kernel_rfl) (by as_aux_lemma => kernel_rfl) (by as_aux_lemma => kernel_rfl) (fun _ _ _ h => h) (Or.inl ⟨by rfl, ?_⟩) (by assumption) ?_
            rotate_left
            · intro w hSw
              (try dsimp only at hSw)
              first
                | (go_simp; done)
                | (go_simp; with_reducible rfl)
            try simp only [Act.put, List.setIfInBounds_toArray, List.set_cons_zero, List.set_cons_succ]
            refine takeD (i := 46) (v := ?_) (some 205) rfl rfl (by as_aux_lemma => kernel_rfl) (by as_aux_lemma => kernel_rfl) (by as_aux_lemma => kernel_rfl) (fun _ _ _ h => h) (Or.inl ⟨by rfl, ?_⟩) (by assumption) ?_
            rotate_left
            · intro w hSw
              (try dsimp only at hSw)
              first
                | (go_simp; done)
                | (go_simp; with_reducible rfl)
            try simp only [Act.put, List.setIfInBounds_toArray, List.set_cons_zero, List.set_cons_succ]
            refine takeD (i := 47) (v := ?_) (some 206) rfl rfl (by as_aux_lemma => kernel_rfl) (by as_aux_lemma => kernel_rfl) (by as_aux_lemma => kernel_rfl) (fun _ _ _ h => h) (Or.inl ⟨by rfl, ?_⟩) (by assumption) ?_
            rotate_left
            · intro w hSw
              (try dsimp only at hSw)
              first
                | (go_simp; done)
                | (go_simp; with_reducible rfl)
            try simp only [Act.put, List.setIfInBounds_toArray, List.set_cons_zero, List.set_cons_succ]
            refine takeD (i := 48) (v := ?_) (some 207) rfl rfl (by as_aux_lemma => kernel_rfl) (by as_aux_lemma => kernel_rfl) (by as_aux_lemma => kernel_rfl) (fun _ _ _ h => h) (Or.inl ⟨by rfl, ?_⟩) (by assumption) ?_
            rotate_left
            · intro w hSw
              (try dsimp only at hSw)
              first
                | (go_simp; done)
                | (go_simp; with_reducible rfl)
            try simp only [Act.put, List.setIfInBounds_toArray, List.set_cons_zero, List.set_cons_succ]
            refine takeD (i := 49) (v := ?_) (some 208) rfl rfl (by as_aux_lemma => kernel_rfl) (by as_aux_lemma => kernel_rfl) (by as_aux_lemma => kernel_rfl) (fun _ _ _ h => h) (Or.inl ⟨by rfl, ?_⟩) (by assumption) ?_
            rotate_left
            · intro w hSw
              (try dsimp only at hSw)
              first
                | (go_simp; done)
                | (go_simp; with_reducible rfl)
            try simp only [Act.put, List.setIfInBounds_toArray, List.set_cons_zero, List.set_cons_succ]
            refine takeD (i := 50) (v := ?_) (some 209) rfl rfl (by as_aux_lemma => kernel_rfl) (by as_aux_lemma => kernel_rfl) (by as_aux_lemma => kernel_rfl) (fun _ _ _ h => h) (Or.inl ⟨by rfl, ?_⟩) (by assumption) ?_
            rotate_left
            · intro w hSw
              (try dsimp only at hSw)
              first
                | (go_simp; done)
                | (go_simp; with_reducible rfl)
            try simp only [Act.put, List.setIfInBounds_toArray, List.set_cons_zero, List.set_cons_succ]
            refine takeD (i := 51) (v := ?_) (some 210) rfl rfl (by as_aux_lemma => kernel_rfl) (by as_aux_lemma => kernel_rfl) (by as_aux_lemma => kernel_rfl) (fun _ _ _ h => h) (Or.inl ⟨by rfl, ?_⟩) (by assumption) ?_
            rotate_left
            · intro w hSw
              (try dsimp only at hSw)
              first
                | (go_simp; done)
                | (go_simp; with_reducible rfl)
            try simp only [Act.put, List.setIfInBounds_toArray, List.set_cons_zero, List.set_cons_succ]
            refine takeD (i := 52) (v := ?_) (some 211) rfl rfl (by as_aux_lemma => kernel_rfl) (by as_aux_lemma => kernel_rfl) (by as_aux_lemma => kernel_rfl) (fun _ _ _ h => h) (Or.inl ⟨by rfl, ?_⟩) (by assumption) ?_
            rotate_left
            · intro w hSw
              (try dsimp only at hSw)
              first
                | (go_simp; done)
                | (go_simp; with_reducible rfl)
            try simp only [Act.put, List.setIfInBounds_toArray, List.set_cons_zero, List.set_cons_succ]
            refine takeD (i := 53) (v := ?_) (some 212) rfl rfl (by as_aux_lemma => kernel_rfl) (by as_aux_lemma => kernel_rfl) (by as_aux_lemma => kernel_rfl) (fun _ _ _ h => h) (Or.inl ⟨by rfl, ?_⟩) (by assumption) ?_
            rotate_left
            · intro w hSw
              (try dsimp only at hSw)
              first
                | (go_simp; done)
                | (go_simp; with_reducible rfl)
            try simp only [Act.put, List.setIfInBounds_toArray, List.set_cons_zero, List.set_cons_succ]
            refine takeD (i := 54) (v := ?_) (some 213) rfl rfl (by as_aux_lemma => kernel_rfl) (by as_aux_lemma => kernel_rfl) (by as_aux_lemma => kernel_rfl) (fun _ _ _ h => h) (Or.inl ⟨by rfl, ?_⟩) (by assumption) ?_
            rotate_left
            · intro w hSw
              (try dsimp only at hSw)
              first
                | (go_simp; done)
                | (go_simp; with_reducible rfl)
            try simp only [Act.put, List.setIfInBounds_toArray, List.set_cons_zero, List.set_cons_succ]
            refine takeD (i := 55) (v := ?_) (some 214) rfl rfl (by as_aux_lemma => kernel_rfl) (by as_aux_lemma => kernel_rfl) (by as_aux_lemma => kernel_rfl) (fun _ _ _ h => h) (Or.inl ⟨by rfl, ?_⟩) (by assumption) ?_
            rotate_left
            · intro w hSw
              (try dsimp only at hSw)
              first
                | (go_simp; done)
                | (go_simp; with_reducible rfl)
            try simp only [Act.put, List.setIfInBounds_toArray, List.set_cons_zero, List.set_cons_succ]
            refine takeD (i := 56) (v := ?_) (some 215) rfl rfl (by as_aux_lemma => kernel_rfl) (by as_aux_lemma => kernel_rfl) (by as_aux_lemma => kernel_rfl) (fun _ _ _ h => h) (Or.inl ⟨by rfl, ?_⟩) (by assumption) ?_
            rotate_left
            · intro w hSw
              (try dsimp only at hSw)
              first
                | (go_simp; done)
                | (go_simp; with_reducible rfl)
            try simp only [Act.put, List.setIfInBounds_toArray, List.set_cons_zero, List.set_cons_succ]
            refine takeD (i := 57) (v := ?_) (some 216) rfl rfl (by as_aux_lemma => kernel_rfl) (by as_aux_lemma => kernel_rfl) (by as_aux_lemma => kernel_rfl) (fun _ _ _ h => h) (Or.inl ⟨by rfl, ?_⟩) (by assumption) ?_
            rotate_left
            · intro w hSw
              (try dsimp only at hSw)
              first
                | (go_simp; done)
                | (go_simp; with_reducible rfl)
            try simp only [Act.put, List.setIfInBounds_toArray, List.set_cons_zero, List.set_cons_succ]
            refine takeD (i := 58) (v := ?_) (some 217) rfl rfl (by as_aux_lemma => kernel_rfl) (by as_aux_lemma => kernel_rfl) (by as_aux_lemma => kernel_rfl) (fun _ _ _ h => h) (Or.inl ⟨by rfl, ?_⟩) (by assumption) ?_
            rotate_left
            · intro w hSw
              (try dsimp only at hSw)
              first
                | (go_simp; done)
                | (go_simp; with_reducible rfl)
            try simp only [Act.put, List.setIfInBounds_toArray, List.set_cons_zero, List.set_cons_succ]
            refine takeD (i := 59) (v := ?_) (some 218) rfl rfl (by as_aux_lemma => kernel_rfl) (by as_aux_lemma => kernel_rfl) (by as_aux_lemma => kernel_rfl) (fun _ _ _ h => h) (Or.inl ⟨by rfl, ?_⟩) (by assumption) ?_
            rotate_left
            · intro w hSw
              (try dsimp only at hSw)
              first
                | (go_simp; done)
                | (go_simp; with_reducible rfl)
            try simp only [Act.put, List.setIfInBounds_toArray, List.set_cons_zero, List.set_cons_succ]
            refine takeD (i := 60) (v := ?_) (some 219) rfl rfl (by as_aux_lemma => kernel_rfl) (by as_aux_lemma => kernel_rfl) (by as_aux_lemma => kernel_rfl) (fun _ _ _ h => h) (Or.inl ⟨by rfl, ?_⟩) (by assumption) ?_
            rotate_left
            · intro w hSw
              (try dsimp only at hSw)
              first
                | (go_simp; done)
                | (go_simp; with_reducible rfl)
            try simp only [Act.put, List.setIfInBounds_toArray, List.set_cons_zero, List.set_cons_succ]
            refine takeD (i := 64) (v := ?_) (some 223) rfl rfl (by as_aux_lemma => kernel_rfl) (by as_aux_lemma => kernel_rfl) (by as_aux_lemma => kernel_rfl) (fun _ _ _ h => h) (Or.inl ⟨by rfl, ?_⟩) (by assumption) ?_
            rotate_left
            · intro w hSw
              (try dsimp only at hSw)
              first
                | (go_simp; done)
                | (go_simp; with_reducible rfl)
            try simp only [Act.put, List.setIfInBounds_toArray, List.set_cons_zero, List.set_cons_succ]
            generalize ha0 : (Act.mk _ _) = a0
            have e161 : a0.tmps[161]? = some (.pointer (some ⟨p0.1, 0, none⟩)) := by rw [← ha0]; rfl
            have e164 : a0.tmps[164]? = some (.pointer (some ⟨p0.1, 0, none⟩)) := by rw [← ha0]; rfl
            have e167 : a0.tmps[167]? = some (.pointer (some ⟨p1.1, 0, none⟩)) := by rw [← ha0]; rfl
            have e171 : a0.tmps[171]? = some (.pointer (some ⟨p0.1, 0, none⟩)) := by rw [← ha0]; rfl
            have e174 : a0.tmps[174]? = some (.pointer (some ⟨p1.1, 0, none⟩)) := by rw [← ha0]; rfl
            have e177 : a0.tmps[177]? = some (.pointer (some ⟨p0.1, 0, none⟩)) := by rw [← ha0]; rfl
            have e181 : a0.tmps[181]? = some (.pointer (some ⟨p1.1, 0, none⟩)) := by rw [← ha0]; rfl
            have e184 : a0.tmps[184]? = some (.pointer (some ⟨p0.1, 0, none⟩)) := by rw [← ha0]; rfl
            have e187 : a0.tmps[187]? = some (.pointer (some ⟨p0.1, 0, none⟩)) := by rw [← ha0]; rfl
            have e191 : a0.tmps[191]? = some (.pointer (some ⟨p0.1, 0, none⟩)) := by rw [← ha0]; rfl
            have e194 : a0.tmps[194]? = some (.pointer (some ⟨p1.1, 0, none⟩)) := by rw [← ha0]; rfl
            have e197 : a0.tmps[197]? = some (.pointer (some ⟨p2.1, 0, none⟩)) := by rw [← ha0]; rfl
            have e200 : a0.tmps[200]? = some (.pointer (some ⟨p3.1, 0, none⟩)) := by rw [← ha0]; rfl
            have e203 : a0.tmps[203]? = some (.pointer (some ⟨p0.1, 0, none⟩)) := by rw [← ha0]; rfl
            have e207 : a0.tmps[207]? = some (.pointer (some ⟨p0.1, 0, none⟩)) := by rw [← ha0]; rfl
            have e210 : a0.tmps[210]? = some (.pointer (some ⟨p1.1, 0, none⟩)) := by rw [← ha0]; rfl
            have e213 : a0.tmps[213]? = some (.pointer (some ⟨p2.1, 0, none⟩)) := by rw [← ha0]; rfl
            have e216 : a0.tmps[216]? = some (.pointer (some ⟨p3.1, 0, none⟩)) := by rw [← ha0]; rfl
            have e219 : a0.tmps[219]? = some (.pointer (some ⟨p3.1, 0, none⟩)) := by rw [← ha0]; rfl
            refine (show wpAnyH _ .any _ _ _ 7 #[true, true, true, true, true, true, true, true, true, false, true, true, true, true, true, true, true, true, true, false, true, true, true, true, true, true, true, true, true, false, true, true, true, true, true, true, true, true, true, true, true, true, true, true, true, false, true, true, true, true, true, true, true, true, true, true, true, true, true, true, true, false, false, false, true] a0 _ from ?_)
            refine par5_start a0 168 178 188 204 220 (by decide) [9, 19, 29, 45, 61] #[true, true, true, true, true, true, true, true, true, false, true, true, true, true, true, true, true, true, true, false, true, true, true, true, true, true, true, true, true, false, true, true, true, true, true, true, true, true, true, true, true, true, true, true, true, false, true, true, true, true, true, true, true, true, true, true, true, true, true, true, true, false, false, false, true] 2 (fun s W => P5 w W (some ⟨gA, 0, none⟩) c [p0, p1, p2, p3, p4] (ls5 p0.1 p1.1 p2.1 p3.1) s) (by as_aux_lemma => kernel_rfl) ?step ?done _ ⟨HN.out.keep (Below.refl _ w5).drew, fun k v h => by cases h⟩ (by assumption)
            case step =>
              intro kk hk s W K hn hJ hS hK
              have h161 : (frm a0 [168, 178, 188, 204, 220] s).tmps[161]? = some (.pointer (some ⟨p0.1, 0, none⟩)) := (frm_tmps a0 _ s 161 (not_at (by decide))).trans e161
              have h164 : (frm a0 [168, 178, 188, 204, 220] s).tmps[164]? = some (.pointer (some ⟨p0.1, 0, none⟩)) := (frm_tmps a0 _ s 164 (not_at (by decide))).trans e164
              have h167 : (frm a0 [168, 178, 188, 204, 220] s).tmps[167]? = some (.pointer (some ⟨p1.1, 0, none⟩)) := (frm_tmps a0 _ s 167 (not_at (by decide))).trans e167
              have h171 : (frm a0 [168, 178, 188, 204, 220] s).tmps[171]? = some (.pointer (some ⟨p0.1, 0, none⟩)) := (frm_tmps a0 _ s 171 (not_at (by decide))).trans e171
              have h174 : (frm a0 [168, 178, 188, 204, 220] s).tmps[174]? = some (.pointer (some ⟨p1.1, 0, none⟩)) := (frm_tmps a0 _ s 174 (not_at (by decide))).trans e174
              have h177 : (frm a0 [168, 178, 188, 204, 220] s).tmps[177]? = some (.pointer (some ⟨p0.1, 0, none⟩)) := (frm_tmps a0 _ s 177 (not_at (by decide))).trans e177
              have h181 : (frm a0 [168, 178, 188, 204, 220] s).tmps[181]? = some (.pointer (some ⟨p1.1, 0, none⟩)) := (frm_tmps a0 _ s 181 (not_at (by decide))).trans e181
              have h184 : (frm a0 [168, 178, 188, 204, 220] s).tmps[184]? = some (.pointer (some ⟨p0.1, 0, none⟩)) := (frm_tmps a0 _ s 184 (not_at (by decide))).trans e184
              have h187 : (frm a0 [168, 178, 188, 204, 220] s).tmps[187]? = some (.pointer (some ⟨p0.1, 0, none⟩)) := (frm_tmps a0 _ s 187 (not_at (by decide))).trans e187
              have h191 : (frm a0 [168, 178, 188, 204, 220] s).tmps[191]? = some (.pointer (some ⟨p0.1, 0, none⟩)) := (frm_tmps a0 _ s 191 (not_at (by decide))).trans e191
              have h194 : (frm a0 [168, 178, 188, 204, 220] s).tmps[194]? = some (.pointer (some ⟨p1.1, 0, none⟩)) := (frm_tmps a0 _ s 194 (not_at (by decide))).trans e194
              have h197 : (frm a0 [168, 178, 188, 204, 220] s).tmps[197]? = some (.pointer (some ⟨p2.1, 0, none⟩)) := (frm_tmps a0 _ s 197 (not_at (by decide))).trans e197
              have h200 : (frm a0 [168, 178, 188, 204, 220] s).tmps[200]? = some (.pointer (some ⟨p3.1, 0, none⟩)) := (frm_tmps a0 _ s 200 (not_at (by decide))).trans e200
              have h203 : (frm a0 [168, 178, 188, 204, 220] s).tmps[203]? = some (.pointer (some ⟨p0.1, 0, none⟩)) := (frm_tmps a0 _ s 203 (not_at (by decide))).trans e203
              have h207 : (frm a0 [168, 178, 188, 204, 220] s).tmps[207]? = some (.pointer (some ⟨p0.1, 0, none⟩)) := (frm_tmps a0 _ s 207 (not_at (by decide))).trans e207
              have h210 : (frm a0 [168, 178, 188, 204, 220] s).tmps[210]? = some (.pointer (some ⟨p1.1, 0, none⟩)) := (frm_tmps a0 _ s 210 (not_at (by decide))).trans e210
              have h213 : (frm a0 [168, 178, 188, 204, 220] s).tmps[213]? = some (.pointer (some ⟨p2.1, 0, none⟩)) := (frm_tmps a0 _ s 213 (not_at (by decide))).trans e213
              have h216 : (frm a0 [168, 178, 188, 204, 220] s).tmps[216]? = some (.pointer (some ⟨p3.1, 0, none⟩)) := (frm_tmps a0 _ s 216 (not_at (by decide))).trans e216
              have h219 : (frm a0 [168, 178, 188, 204, 220] s).tmps[219]? = some (.pointer (some ⟨p3.1, 0, none⟩)) := (frm_tmps a0 _ s 219 (not_at (by decide))).trans e219
              generalize frm a0 [168, 178, 188, 204, 220] s = a at *
              rcases (show kk = 0 ∨ kk = 1 ∨ kk = 2 ∨ kk = 3 ∨ kk = 4 by omega) with rfl | rfl | rfl | rfl | rfl
              · refine wpOp_step rfl (fun K' hK' => ?_)
                go_simp
                exact hK' _ _ (hK _ _ (hJ.step 0 rfl) (S5_keep hS ((Below.refl _ W).alloc (Nat.le_refl _) _)))
              · refine wpOp_step rfl (fun K' hK' => ?_)
                go_simp
                exact hK' _ _ (hK _ _ (hJ.step 1 rfl) (S5_keep hS ((Below.refl _ W).alloc (Nat.le_refl _) _)))
              · refine wpOp_step rfl (fun K' hK' => ?_)
                go_simp
                exact hK' _ _ (hK _ _ (hJ.step 2 rfl) (S5_keep hS ((Below.refl _ W).alloc (Nat.le_refl _) _)))
              · refine wpOp_step rfl (fun K' hK' => ?_)
                go_simp
                exact hK' _ _ (hK _ _ (hJ.step 3 rfl) (S5_keep hS ((Below.refl _ W).alloc (Nat.le_refl _) _)))
              · refine wpOp_step rfl (fun K' hK' => ?_)
                go_simp
                exact hK' _ _ (hK _ _ (hJ.step 4 rfl) (S5_keep hS ((Below.refl _ W).alloc (Nat.le_refl _) _)))
            case done =>
              intro s W hs hJ hS
              obtain ⟨bl, hbl⟩ := hJ.done hs
              have HT5 := hid (hJ.made bl hbl)
              have g0 : s 0 = some (.slice (some ⟨bl 0, 0, none⟩) 3 3) := (hbl 0 (by decide)).1
              have g1 : s 1 = some (.slice (some ⟨bl 1, 0, none⟩) 3 3) := (hbl 1 (by decide)).1
              have g2 : s 2 = some (.slice (some ⟨bl 2, 0, none⟩) 3 3) := (hbl 2 (by decide)).1
              have g3 : s 3 = some (.slice (some ⟨bl 3, 0, none⟩) 5 5) := (hbl 3 (by decide)).1
              have g4 : s 4 = some (.slice (some ⟨bl 4, 0, none⟩) 5 5) := (hbl 4 (by decide)).1
              simp only [frm, put1, g0, g1, g2, g3, g4, List.getElem?_cons_zero, List.getElem?_cons_succ]
              clear hbl g0 g1 g2 g3 g4 hs hJ e161 e164 e167 e171 e174 e177 e181 e184 e187 e191 e194 e197 e200 e203 e207 e210 e213 e216 e219
              subst ha0
              try simp only [Act.put, List.setIfInBounds_toArray, List.set_cons_zero, List.set_cons_succ]
              refine wpAnyH_ready (rs := [62]) (by as_aux_lemma => kernel_rfl) (by simp) ?_
              refine AllReadyH.cons rfl (fun K hK => ?_) AllReadyH.nil
              go_simp
              refine hK.out _ _ (S5_keep hS ((Below.refl _ W).alloc (Nat.le_refl _) _)) (fun hHeld => ?_)
              clear hK K hS
              try simp only [Act.put, List.setIfInBounds_toArray, List.set_cons_zero, List.set_cons_succ]
              refine takeD (i := 63) (v := ?_) (some 222) rfl rfl (by as_aux_lemma => kernel_rfl) (by as_aux_lemma => kernel_rfl) (by as_aux_lemma => kernel_rfl) (fun _ _ _ h => h) (Or.inl ⟨by rfl, ?_⟩) (by assumption) ?_
              rotate_left
              · intro w hSw
                (try dsimp only at hSw)
                first
                  | (go_simp; done)
                  | (go_simp; with_reducible rfl)
              try simp only [Act.put, List.setIfInBounds_toArray, List.set_cons_zero, List.set_cons_succ]
              refine wpAnyH_done (by as_aux_lemma => kernel_rfl) ?_ _
              clear hHeld
              generalize (W.alloc (.cells #[.slice (some ⟨bl 0, 0, none⟩) 3 3, .slice (some ⟨bl 1, 0, none⟩) 3 3, .slice (some ⟨bl 2, 0, none⟩) 3 3, .slice (some ⟨bl 3, 0, none⟩) 5 5, .slice (some ⟨bl 4, 0, none⟩) 5 5] 23)) = W5 at *
              generalize W.heap.size = bs at *
              go_wp2_with fail
              go_loopg [223] 5 (fun gk i wr => ∃ d : Nat, gk + d = 5 ∧ i = .int .i64 d ∧ Hid (T5 w wr (some ⟨gA, 0, none⟩) c [p0, p1, p2, p3, p4] bs))
              case atStart => exact ⟨0, by omega, rfl, HT5⟩
              case round =>
                clear HT5
                obtain ⟨d, hd, rfl, HT5⟩ := hrel
                have HD := hid hd
                by_cases hlt : d < 5
                · obtain ⟨b, n5, ca, hn5, ho⟩ := HT5.out.dup d hlt
                  have HLT := hid hlt
                  have HOP := hid ho
                  clear hd ho
                  go_wp2_with fail
                  refine (HOP.out).mono ?_; rintro e w' ⟨rfl, rfl⟩
                  go_wp2_with fail
                  go_roundg (gk - 1)
                  case measure => have := HD.out; have := HLT.out; omega
                  case rel => exact ⟨d + 1, by have := HD.out; have := HLT.out; omega, by go_num, HT5⟩
                · obtain rfl : d = 5 := by have := HD.out; omega
                  clear hd hlt
                  go_wp2_with fail
                  have HM5 := hid (MnS.made HT5.out.nt.low)
                  generalize ((wr.alloc (.cells #[.slice none 0 0, .int .i64 0, .pointer none, .slice none 0 0, .bool false] 55)).alloc (.cells #[.pointer none, .pointer (some ⟨wr.heap.size, 0, none⟩)] 46)) = G5 at *
                  generalize wr.heap.size = g5 at *
                  clear HT5
                  go_loopg [243] 2 (fun gk i wr => ∃ d : Nat, gk + d = 2 ∧ i = .int .i64 d ∧ Hid (MnS w wr g5))
                  case atStart => exact ⟨0, by omega, rfl, HM5⟩
                  case round =>
                    clear HM5
                    obtain ⟨d, hd, rfl, HM5⟩ := hrel
                    have HD := hid hd
                    by_cases hlt : d < 2
                    · obtain ⟨va, ca, hno⟩ := HM5.out.at hlt
                      have HLT := hid hlt
                      clear hd
                      have H1 := hid (doN _ line wr hno)
                      have H2 := hid (askN _ line wr hno)
                      have H3 := hid (journalN _ wr hno)
                      have H4 := hid (stateN _ wr hno)
                      have H5 := hid (outN _ wr hno)
                      clear hno
                      go_wp2_with fail
                      refine (H1.out).mono ?_; rintro e w' ⟨rfl, rfl⟩
                      go_wp2_with fail
                      refine (H2.out).mono ?_; rintro e w' ⟨rfl, rfl⟩
                      go_wp2_with fail
                      refine (H3.out).mono ?_; rintro e w' ⟨rfl, rfl⟩
                      go_wp2_with fail
                      refine (H4.out).mono ?_; rintro e w' ⟨rfl, rfl⟩
                      go_wp2_with fail
                      refine (H5.out).mono ?_; rintro e w' ⟨rfl, rfl⟩
                      clear H1 H2 H3 H4 H5 ca
                      go_wp2
                      go_roundg (gk - 1)
                      case measure => have := HD.out; have := HLT.out; omega
                      case rel => exact ⟨d + 1, by have := HD.out; have := HLT.out; omega, by go_num, HM5⟩
                    · obtain rfl : d = 2 := by have := HD.out; omega
                      clear hd hlt
                      have HAW := hid (awakeF wr (HT.out.below HM5.out.low) (HM.out.keep HM5.out.low))
                      go_wp2_with fail
                      refine (HAW.out).mono ?_; rintro e w6 ⟨rfl, hb6⟩
                      have HB6 := hid hb6
                      clear hb6
                      go_wp2
                      go_ret
                      exact ⟨rfl, below_call HM5.out.low HB6.out HM5.out.low.size⟩
          · clear hmr
            go_wp2_with fail
            refine wp_region_held_drew (S := (fun w' => w'.cell? ⟨gA, 0, none⟩ = some (.pointer (some ⟨p0.1, 0, none⟩)) ∧ w'.cell? ⟨gA, 1, none⟩ = some (.pointer (some ⟨p1.1, 0, none⟩)) ∧ w'.cell? ⟨gA, 2, none⟩ = some (.pointer (some ⟨p2.1, 0, none⟩)) ∧ w'.cell? ⟨gA, 3, none⟩ = some (.pointer (some ⟨p3.1, 0, none⟩)) ∧ w'.cell? ⟨gA, 4, none⟩ = some (.pointer (some ⟨p4.1, 0, none⟩)))) (by as_aux_lemma => kernel_rfl) (by (try dsimp only); (exact ⟨c0, c1, c2, c3, c4⟩)) (fun hHeld => ?_)
            refine takeD (i := 0) (v := ?_) (some 159) rfl rfl (by as_aux_lemma => kernel_rfl) (by as_aux_lemma => kernel_rfl) (by as_aux_lemma => kernel_rfl) (fun _ _ _ h => h) (Or.inl ⟨by rfl, ?_⟩) (by assumption) ?_
            rotate_left
            · intro w hSw
              (try dsimp only at hSw)
              first
                | (go_simp; done)
                | (go_simp; with_reducible rfl)
            try simp only [Act.put, List.setIfInBounds_toArray, List.set_cons_zero, List.set_cons_succ]
            refine takeD (i := 1) (v := ?_) (some 160) rfl rfl (by as_aux_lemma => kernel_rfl) (by as_aux_lemma => kernel_rfl) (by as_aux_lemma => kernel_rfl) (fun _ _ _ h => h) (Or.inl ⟨by rfl, ?_⟩) (by assumption) ?_
            rotate_left
            · intro w hSw
              (try dsimp only at hSw)
              first
                | (go_simp; done)
                | (go_simp; with_reducible rfl)
            try simp only [Act.put, List.setIfInBounds_toArray, List.set_cons_zero, List.set_cons_succ]
            refine takeD (i := 2) (v := ?_) (some 161) rfl rfl (by as_aux_lemma => kernel_rfl) (by as_aux_lemma => kernel_rfl) (by as_aux_lemma => kernel_rfl) (fun _ _ _ h => h) (Or.inl ⟨by rfl, ?_⟩) (by assumption) ?_
            rotate_left
            · intro w hSw
              (try dsimp only at hSw)
              first
                | (go_simp; done)
                | (go_simp; with_reducible rfl)
            try simp only [Act.put, List.setIfInBounds_toArray, List.set_cons_zero, List.set_cons_succ]
            refine takeD (i := 3) (v := ?_) (some 162) rfl rfl (by as_aux_lemma => kernel_rfl) (by as_aux_lemma => kernel_rfl) (by as_aux_lemma => kernel_rfl) (fun _ _ _ h => h) (Or.inl ⟨by rfl, ?_⟩) (by assumption) ?_
            rotate_left
            · intro w hSw
              (try dsimp only at hSw)
              first
                | (go_simp; done)
                | (go_simp; with_reducible rfl)
            try simp only [Act.put, List.setIfInBounds_toArray, List.set_cons_zero, List.set_cons_succ]
            refine takeD (i := 4) (v := ?_) (some 163) rfl rfl (by as_aux_lemma => kernel_rfl) (by as_aux_lemma => kernel_rfl) (by as_aux_lemma => kernel_rfl) (fun _ _ _ h => h) (Or.inl ⟨by rfl, ?_⟩) (by assumption) ?_
            rotate_left
            · intro w hSw
              (try dsimp only at hSw)
              first
                | (go_simp; done)
                | (go_simp; with_reducible rfl)
            try simp only [Act.put, List.setIfInBounds_toArray, List.set_cons_zero, List.set_cons_succ]
            refine takeD (i := 5) (v := ?_) (some 164) rfl rfl (by as_aux_lemma => kernel_rfl) (by as_aux_lemma => kernel_rfl) (by as_aux_lemma => kernel_rfl) (fun _ _ _ h => h) (Or.inl ⟨by rfl, ?_⟩) (by assumption) ?_
            rotate_left
            · intro w hSw
              (try dsimp only at hSw)
              first
                | (go_simp; done)
                | (go_simp; with_reducible rfl)
            try simp only [Act.put, List.setIfInBounds_toArray, List.set_cons_zero, List.set_cons_succ]
            refine takeD (i := 6) (v := ?_) (some 165) rfl rfl (by as_aux_lemma => kernel_rfl) (by as_aux_lemma => kernel_rfl) (by as_aux_lemma => kernel_rfl) (fun _ _ _ h => h) (Or.inl ⟨by rfl, ?_⟩) (by assumption) ?_
            rotate_left
            · intro w hSw
              (try dsimp only at hSw)
              first
                | (go_simp; done)
                | (go_simp; with_reducible rfl)
            try simp only [Act.put, List.setIfInBounds_toArray, List.set_cons_zero, List.set_cons_succ]
            refine takeD (i := 7) (v := ?_) (some 166) rfl rfl (by as_aux_lemma => kernel_rfl) (by as_aux_lemma => kernel_rfl) (by as_aux_lemma => kernel_rfl) (fun _ _ _ h => h) (Or.inl ⟨by rfl, ?_⟩) (by assumption) ?_
            rotate_left
            · intro w hSw
              (try dsimp only at hSw)
              first
                | (go_simp; done)
                | (go_simp; with_reducible rfl)
            try simp only [Act.put, List.setIfInBounds_toArray, List.set_cons_zero, List.set_cons_succ]
            refine takeD (i := 8) (v := ?_) (some 167) rfl rfl (by as_aux_lemma => kernel_rfl) (by as_aux_lemma => kernel_rfl) (by as_aux_lemma => kernel_rfl) (fun _ _ _ h => h) (Or.inl ⟨by rfl, ?_⟩) (by assumption) ?_
            rotate_left
            · intro w hSw
              (try dsimp only at hSw)
              first
                | (go_simp; done)
                | (go_simp; with_reducible rfl)
            try simp only [Act.put, List.setIfInBounds_toArray, List.set_cons_zero, List.set_cons_succ]
            refine takeD (i := 10) (v := ?_) (some 169) rfl rfl (by as_aux_lemma => kernel_rfl) (by as_aux_lemma => kernel_rfl) (by as_aux_lemma => kernel_rfl) (fun _ _ _ h => h) (Or.inl ⟨by rfl, ?_⟩) (by assumption) ?_
            rotate_left
            · intro w hSw
              (try dsimp only at hSw)
              first
                | (go_simp; done)
                | (go_simp; with_reducible rfl)
            try simp only [Act.put, List.setIfInBounds_toArray, List.set_cons_zero, List.set_cons_succ]
            refine takeD (i := 11) (v := ?_) (some 170) rfl rfl (by as_aux_lemma => kernel_rfl) (by as_aux_lemma => kernel_rfl) (by as_aux_lemma => kernel_rfl) (fun _ _ _ h => h) (Or.inl ⟨by rfl, ?_⟩) (by assumption) ?_
            rotate_left
            · intro w hSw
              (try dsimp only at hSw)
              first
                | (go_simp; done)
                | (go_simp; with_reducible rfl)
            try simp only [Act.put, List.setIfInBounds_toArray, List.set_cons_zero, List.set_cons_succ]
            refine takeD (i := 12) (v := ?_) (some 171) rfl rfl (by as_aux_lemma => kernel_rfl) (by as_aux_lemma => kernel_rfl) (by as_aux_lemma => kernel_rfl) (fun _ _ _ h => h) (Or.inl ⟨by rfl, ?_⟩) (by assumption) ?_
            rotate_left
            · intro w hSw
              (try dsimp only at hSw)
              first
                | (go_simp; done)
                | (go_simp; with_reducible rfl)
            try simp only [Act.put, List.setIfInBounds_toArray, List.set_cons_zero, List.set_cons_succ]
            refine takeD (i := 13) (v := ?_) (some 172) rfl rfl (by as_aux_lemma => kernel_rfl) (by as_aux_lemma => kernel_rfl) (by as_aux_lemma => kernel_rfl) (fun _ _ _ h => h) (Or.inl ⟨by rfl, ?_⟩) (by assumption) ?_
            rotate_left
            · intro w hSw
              (try dsimp only at hSw)
              first
                | (go_simp; done)
                | (go_simp; with_reducible rfl)
            try simp only [Act.put, List.setIfInBounds_toArray, List.set_cons_zero, List.set_cons_succ]
            refine takeD (i := 14) (v := ?_) (some 173) rfl rfl (by as_aux_lemma => kernel_rfl) (by as_aux_lemma => kernel_rfl) (by as_aux_lemma => kernel_rfl) (fun _ _ _ h => h) (Or.inl ⟨by rfl, ?_⟩) (by assumption) ?_
            rotate_left
            · intro w hSw
              (try dsimp only at hSw)
              first
                | (go_simp; done)
                | (go_simp; with_reducible rfl)
            try simp only [Act.put, List.setIfInBounds_toArray, List.set_cons_zero, List.set_cons_succ]
            refine takeD (i := 15) (v := ?_) (some 174) rfl rfl (by as_aux_lemma => kernel_rfl) (by as_aux_lemma => kernel_rfl) (by as_aux_lemma => kernel_rfl) (fun _ _ _ h => h) (Or.inl ⟨by rfl, ?_⟩) (by assumption) ?_
            rotate_left
            · intro w hSw
              (try dsimp only at hSw)
              first
                | (go_simp; done)
                | (go_simp; with_reducible rfl)
            try simp only [Act.put, List.setIfInBounds_toArray, List.set_cons_zero, List.set_cons_succ]
            refine takeD (i := 16) (v := ?_) (some 175) rfl rfl (by as_aux_lemma => kernel_rfl) (by as_aux_lemma => kernel_rfl) (by as_aux_lemma => kernel_rfl) (fun _ _ _ h => h) (Or.inl ⟨by rfl, ?_⟩) (by assumption) ?_
            rotate_left
            · intro w hSw
              (try dsimp only at hSw)
              first
                | (go_simp; done)
                | (go_simp; with_reducible rfl)
            try simp only [Act.put, List.setIfInBounds_toArray, List.set_cons_zero, List.set_cons_succ]
            refine takeD (i := 17) (v := ?_) (some 176) rfl rfl (by as_aux_lemma => kernel_rfl) (by as_aux_lemma => kernel_rfl) (by as_aux_lemma => kernel_rfl) (fun _ _ _ h => h) (Or.inl ⟨by rfl, ?_⟩) (by assumption) ?_
            rotate_left
            · intro w hSw
              (try dsimp only at hSw)
              first
                | (go_simp; done)
                | (go_simp; with_reducible rfl)
            try simp only [Act.put, List.setIfInBounds_toArray, List.set_cons_zero, List.set_cons_succ]
            refine takeD (i := 18) (v := ?_) (some 177) rfl rfl (by as_aux_lemma => kernel_rfl) (by as_aux_lemma => kernel_rfl) (by as_aux_lemma => kernel_rfl) (fun _ _ _ h => h) (Or.inl ⟨by rfl, ?_⟩) (by assumption) ?_
            rotate_left
            · intro w hSw
              (try dsimp only at hSw)
              first
                | (go_simp; done)
                | (go_simp; with_reducible rfl)
            try simp only [Act.put, List.setIfInBounds_toArray, List.set_cons_zero, List.set_cons_succ]
            refine takeD (i := 20) (v := ?_) (some 179) rfl rfl (by as_aux_lemma => kernel_rfl) (by as_aux_lemma => kernel_rfl) (by as_aux_lemma => kernel_rfl) (fun _ _ _ h => h) (Or.inl ⟨by rfl, ?_⟩) (by assumption) ?_
            rotate_left
            · intro w hSw
              (try dsimp only at hSw)
              first
                | (go_simp; done)
                | (go_simp; with_reducible rfl)
            try simp only [Act.put, List.setIfInBounds_toArray, List.set_cons_zero, List.set_cons_succ]
            refine takeD (i := 21) (v := ?_) (some 180) rfl rfl (by as_aux_lemma => kernel_rfl) (by as_aux_lemma => kernel_rfl) (by as_aux_lemma => kernel_rfl) (fun _ _ _ h => h) (Or.inl ⟨by rfl, ?_⟩) (by assumption) ?_
            rotate_left
            · intro w hSw
              (try dsimp only at hSw)
              first
                | (go_simp; done)
                | (go_simp; with_reducible rfl)
            try simp only [Act.put, List.setIfInBounds_toArray, List.set_cons_zero, List.set_cons_succ]
            refine takeD (i := 22) (v := ?_) (some 181) rfl rfl (by as_aux_lemma => kernel_rfl) (by as_aux_lemma => kernel_rfl) (by as_aux_lemma => kernel_rfl) (fun _ _ _ h => h) (Or.inl ⟨by rfl, ?_⟩) (by assumption) ?_
            rotate_left
            · intro w hSw
              (try dsimp only at hSw)
              first
                | (go_simp; done)
                | (go_simp; with_reducible rfl)
            try simp only [Act.put, List.setIfInBounds_toArray, List.set_cons_zero, List.set_cons_succ]
            refine takeD (i := 23) (v := ?_) (some 182) rfl rfl (by as_aux_lemma => kernel_rfl) (by as_aux_lemma => kernel_rfl) (by as_aux_lemma => kernel_rfl) (fun _ _ _ h => h) (Or.inl ⟨by rfl, ?_⟩) (by assumption) ?_
            rotate_left
            · intro w hSw
              (try dsimp only at hSw)
              first
                | (go_simp; done)
                | (go_simp; with_reducible rfl)
            try simp only [Act.put, List.setIfInBounds_toArray, List.set_cons_zero, List.set_cons_succ]
            refine takeD (i := 24) (v := ?_) (some 183) rfl rfl (by as_aux_lemma => kernel_rfl) (by as_aux_lemma => kernel_rfl) (by as_aux_lemma => kernel_rfl) (fun _ _ _ h => h) (Or.inl ⟨by rfl, ?_⟩) (by assumption) ?_
            rotate_left
            · intro w hSw
              (try dsimp only at hSw)
              first
                | (go_simp; done)
                | (go_simp; with_reducible rfl)
            try simp only [Act.put, List.setIfInBounds_toArray, List.set_cons_zero, List.set_cons_succ]
            refine takeD (i := 25) (v := ?_) (some 184) rfl rfl (by as_aux_lemma => kernel_rfl) (by as_aux_lemma => kernel_rfl) (by as_aux_lemma => kernel_rfl) (fun _ _ _ h => h) (Or.inl ⟨by rfl, ?_⟩) (by assumption) ?_
            rotate_left
            · intro w hSw
              (try dsimp only at hSw)
              first
                | (go_simp; done)
                | (go_simp; with_reducible rfl)
            try simp only [Act.put, List.setIfInBounds_toArray, List.set_cons_zero, List.set_cons_succ]
            refine takeD (i := 26) (v := ?_) (some 185) rfl rfl (by as_aux_lemma => kernel_rfl) (by as_aux_lemma => kernel_rfl) (by as_aux_lemma => kernel_rfl) (fun _ _ _ h => h) (Or.inl ⟨by rfl, ?_⟩) (by assumption) ?_
            rotate_left
            · intro w hSw
              (try dsimp only at hSw)
              first
                | (go_simp; done)
                | (go_simp; with_reducible rfl)
            try simp only [Act.put, List.setIfInBounds_toArray, List.set_cons_zero, List.set_cons_succ]
            refine takeD (i := 27) (v := ?_) (some 186) rfl rfl (by as_aux_lemma => kernel_rfl) (by as_aux_lemma => kernel_rfl) (by as_aux_lemma => kernel_rfl) (fun _ _ _ h => h) (Or.inl ⟨by rfl, ?_⟩) (by assumption) ?_
            rotate_left
            · intro w hSw
              (try dsimp only at hSw)
              first
                | (go_simp; done)
                | (go_simp; with_reducible rfl)
            try simp only [Act.put, List.setIfInBounds_toArray, List.set_cons_zero, List.set_cons_succ]
            refine takeD (i := 28) (v := ?_) (some 187) rfl rfl (by as_aux_lemma => kernel_rfl) (by as_aux_lemma => kernel_rfl) (by as_aux_lemma => kernel_rfl) (fun _ _ _ h => h) (Or.inl ⟨by rfl, ?_⟩) (by assumption) ?_
            rotate_left
            · intro w hSw
              (try dsimp only at hSw)
              first
                | (go_simp; done)
                | (go_simp; with_reducible rfl)
            try simp only [Act.put, List.setIfInBounds_toArray, List.set_cons_zero, List.set_cons_succ]
            refine takeD (i := 30) (v := ?_) (some 189) rfl rfl (by as_aux_lemma => kernel_rfl) (by as_aux_lemma => kernel_rfl) (by as_aux_lemma => kernel_rfl) (fun _ _ _ h => h) (Or.inl ⟨by rfl, ?_⟩) (by assumption) ?_
            rotate_left
            · intro w hSw
              (try dsimp only at hSw)
              first
                | (go_simp; done)
                | (go_simp; with_reducible rfl)
            try simp only [Act.put, List.setIfInBounds_toArray, List.set_cons_zero, List.set_cons_succ]
            refine takeD (i := 31) (v := ?_) (some 190) rfl rfl (by as_aux_lemma => kernel_rfl) (by as_aux_lemma => kernel_rfl) (by as_aux_lemma => kernel_rfl) (fun _ _ _ h => h) (Or.inl ⟨by rfl, ?_⟩) (by assumption) ?_
            rotate_left
            · intro w hSw
              (try dsimp only at hSw)
              first
                | (go_simp; done)
                | (go_simp; with_reducible rfl)
            try simp only [Act.put, List.setIfInBounds_toArray, List.set_cons_zero, List.set_cons_succ]
            refine takeD (i := 32) (v := ?_) (some 191) rfl rfl (by as_aux_lemma => kernel_rfl) (by as_aux_lemma => kernel_rfl) (by as_aux_lemma => kernel_rfl) (fun _ _ _ h => h) (Or.inl ⟨by rfl, ?_⟩) (by assumption) ?_
            rotate_left
            · intro w hSw
              (try dsimp only at hSw)
              first
                | (go_simp; done)
                | (go_simp; with_reducible rfl)
            try simp only [Act.put, List.setIfInBounds_toArray, List.set_cons_zero, List.set_cons_succ]
            refine takeD (i := 33) (v := ?_) (some 192) rfl rfl (by as_aux_lemma => kernel_rfl) (by as_aux_lemma => kernel_rfl) (by as_aux_lemma => kernel_rfl) (fun _ _ _ h => h) (Or.inl ⟨by rfl, ?_⟩) (by assumption) ?_
            rotate_left
            · intro w hSw
              (try dsimp only at hSw)
              first
                | (go_simp; done)
                | (go_simp; with_reducible rfl)
            try simp only [Act.put, List.setIfInBounds_toArray, List.set_cons_zero, List.set_cons_succ]
            refine takeD (i := 34) (v := ?_) (some 193) rfl rfl (by as_aux_lemma => kernel_rfl) (by as_aux_lemma => kernel_rfl) (by as_aux_lemma => kernel_rfl) (fun _ _ _ h => h) (Or.inl ⟨by rfl, ?_⟩) (by assumption) ?_
            rotate_left
            · intro w hSw
              (try dsimp only at hSw)
              first
                | (go_simp; done)
                | (go_simp; with_reducible rfl)
            try simp only [Act.put, List.setIfInBounds_toArray, List.set_cons_zero, List.set_cons_succ]
            refine takeD (i := 35) (v := ?_) (some 194) rfl rfl (by as_aux_lemma => kernel_rfl) (by as_aux_lemma => kernel_rfl) (by as_aux_lemma => kernel_rfl) (fun _ _ _ h => h) (Or.inl ⟨by rfl, ?_⟩) (by assumption) ?_
            rotate_left
            · intro w hSw
              (try dsimp only at hSw)
              first
                | (go_simp; done)
                | (go_simp; with_reducible rfl)
            try simp only [Act.put, List.setIfInBounds_toArray, List.set_cons_zero, List.set_cons_succ]
            refine takeD (i := 36) (v := ?_) (some 195) rfl rfl (by as_aux_lemma => kernel_rfl) (by as_aux_lemma => kernel_rfl) (by as_aux_lemma => kernel_rfl) (fun _ _ _ h => h) (Or.inl ⟨by rfl, ?_⟩) (by assumption) ?_
            rotate_left
            · intro w hSw
              (try dsimp only at hSw)
              first
                | (go_simp; done)
                | (go_simp; with_reducible rfl)
            try simp only [Act.put, List.setIfInBounds_toArray, List.set_cons_zero, List.set_cons_succ]
            refine takeD (i := 37) (v := ?_) (some 196) rfl rfl (by as_aux_lemma => kernel_rfl) (by as_aux_lemma => kernel_rfl) (by as_aux_lemma => kernel_rfl) (fun _ _ _ h => h) (Or.inl ⟨by rfl, ?_⟩) (by assumption) ?_
            rotate_left
            · intro w hSw
              (try dsimp only at hSw)
              first
                | (go_simp; done)
                | (go_simp; with_reducible rfl)
            try simp only [Act.put, List.setIfInBounds_toArray, List.set_cons_zero, List.set_cons_succ]
            refine takeD (i := 38) (v := ?_) (some 197) rfl rfl (by as_aux_lemma => kernel_rfl) (by as_aux_lemma => kernel_rfl) (by as_aux_lemma => kernel_rfl) (fun _ _ _ h => h) (Or.inl ⟨by rfl, ?_⟩) (by assumption) ?_
            rotate_left
            · intro w hSw
              (try dsimp only at hSw)
              first
                | (go_simp; done)
                | (go_simp; with_reducible rfl)
            try simp only [Act.put, List.setIfInBounds_toArray, List.set_cons_zero, List.set_cons_succ]
            refine takeD (i := 39) (v := ?_) (some 198) rfl rfl (by as_aux_lemma => kernel_rfl) (by as_aux_lemma => kernel_rfl) (by as_aux_lemma => kernel_rfl) (fun _ _ _ h => h) (Or.inl ⟨by rfl, ?_⟩) (by assumption) ?_
            rotate_left
            · intro w hSw
              (try dsimp only at hSw)
              first
                | (go_simp; done)
                | (go_simp; with_reducible rfl)
            try simp only [Act.put, List.setIfInBounds_toArray, List.set_cons_zero, List.set_cons_succ]
            refine takeD (i := 40) (v := ?_) (some 199) rfl rfl (by as_aux_lemma => kernel_rfl) (by as_aux_lemma => kernel_rfl) (by as_aux_lemma => kernel_rfl) (fun _ _ _ h => h) (Or.inl ⟨by rfl, ?_⟩) (by assumption) ?_
            rotate_left
            · intro w hSw
              (try dsimp only at hSw)
              first
                | (go_simp; done)
                | (go_simp; with_reducible rfl)
            try simp only [Act.put, List.setIfInBounds_toArray, List.set_cons_zero, List.set_cons_succ]
            refine takeD (i := 41) (v := ?_) (some 200) rfl rfl (by as_aux_lemma => kernel_rfl) (by as_aux_lemma => kernel_rfl) (by as_aux_lemma => kernel_rfl) (fun _ _ _ h => h) (Or.inl ⟨by rfl, ?_⟩) (by assumption) ?_
            rotate_left
            · intro w hSw
              (try dsimp only at hSw)
              first
                | (go_simp; done)
                | (go_simp; with_reducible rfl)
            try simp only [Act.put, List.setIfInBounds_toArray, List.set_cons_zero, List.set_cons_succ]
            refine takeD (i := 42) (v := ?_) (some 201) rfl rfl (by as_aux_lemma => kernel_rfl) (by as_aux_lemma => kernel_rfl) (by as_aux_lemma => kernel_rfl) (fun _ _ _ h => h) (Or.inl ⟨by rfl, ?_⟩) (by assumption) ?_
            rotate_left
            · intro w hSw
              (try dsimp only at hSw)
              first
                | (go_simp; done)
                | (go_simp; with_reducible rfl)
            try simp only [Act.put, List.setIfInBounds_toArray, List.set_cons_zero, List.set_cons_succ]
            refine takeD (i := 43) (v := ?_) (some 202) rfl rfl (by as_aux_lemma => kernel_rfl) (by as_aux_lemma => kernel_rfl) (by as_aux_lemma => kernel_rfl) (fun _ _ _ h => h) (Or.inl ⟨by rfl, ?_⟩) (by assumption) ?_
            rotate_left
            · intro w hSw
              (try dsimp only at hSw)
              first
                | (go_simp; done)
                | (go_simp; with_reducible rfl)
            try simp only [Act.put, List.setIfInBounds_toArray, List.set_cons_zero, List.set_cons_succ]
            refine takeD (i := 44) (v := ?_) (some 203) rfl rfl (by as_aux_lemma => kernel_rfl) (by as_aux_lemma => kernel_rfl) (by as_aux_lemma => kernel_rfl) (fun _ _ _ h => h) (Or.inl ⟨by rfl, ?_⟩) (by assumption) ?_
            rotate_left
            · intro w hSw
              (try dsimp only at hSw)
              first
                | (go_simp; done)
                | (go_simp; with_reducible rfl)
            try simp only [Act.put, List.setIfInBounds_toArray, List.set_cons_zero, List.set_cons_succ]
            refine takeD (i := 46) (v := ?_) (some 205) rfl rfl (by as_aux_lemma => kernel_rfl) (by as_aux_lemma => kernel_rfl) (by as_aux_lemma => kernel_rfl) (fun _ _ _ h => h) (Or.inl ⟨by rfl, ?_⟩) (by assumption) ?_
            rotate_left
            · intro w hSw
              (try dsimp only at hSw)
              first
                | (go_simp; done)
                | (go_simp; with_reducible rfl)
            try simp only [Act.put, List.setIfInBounds_toArray, List.set_cons_zero, List.set_cons_succ]
            refine takeD (i := 47) (v := ?_) (some 206) rfl rfl (by as_aux_lemma => kernel_rfl) (by as_aux_lemma => kernel_rfl) (by as_aux_lemma => kernel_rfl) (fun _ _ _ h => h) (Or.inl ⟨by rfl, ?_⟩) (by assumption) ?_
            rotate_left
            · intro w hSw
              (try dsimp only at hSw)
              first
                | (go_simp; done)
                | (go_simp; with_reducible rfl)
            try simp only [Act.put, List.setIfInBounds_toArray, List.set_cons_zero, List.set_cons_succ]
            refine takeD (i := 48) (v := ?_) (some 207) rfl rfl (by as_aux_lemma => kernel_rfl) (by as_aux_lemma => kernel_rfl) (by as_aux_lemma => kernel_rfl) (fun _ _ _ h => h) (Or.inl ⟨by rfl, ?_⟩) (by assumption) ?_
            rotate_left
            · intro w hSw
              (try dsimp only at hSw)
              first
                | (go_simp; done)
                | (go_simp; with_reducible rfl)
            try simp only [Act.put, List.setIfInBounds_toArray, List.set_cons_zero, List.set_cons_succ]
            refine takeD (i := 49) (v := ?_) (some 208) rfl rfl (by as_aux_lemma => kernel_rfl) (by as_aux_lemma => kernel_rfl) (by as_aux_lemma => kernel_rfl) (fun _ _ _ h => h) (Or.inl ⟨by rfl, ?_⟩) (by assumption) ?_
            rotate_left
            · intro w hSw
              (try dsimp only at hSw)
              first
                | (go_simp; done)
                | (go_simp; with_reducible rfl)
            try simp only [Act.put, List.setIfInBounds_toArray, List.set_cons_zero, List.set_cons_succ]
            refine takeD (i := 50) (v := ?_) (some 209) rfl rfl (by as_aux_lemma => kernel_rfl) (by as_aux_lemma => kernel_rfl) (by as_aux_lemma => kernel_rfl) (fun _ _ _ h => h) (Or.inl ⟨by rfl, ?_⟩) (by assumption) ?_
            rotate_left
            · intro w hSw
              (try dsimp only at hSw)
              first
                | (go_simp; done)
                | (go_simp; with_reducible rfl)
            try simp only [Act.put, List.setIfInBounds_toArray, List.set_cons_zero, List.set_cons_succ]
            refine takeD (i := 51) (v := ?_) (some 210) rfl rfl (by as_aux_lemma => kernel_rfl) (by as_aux_lemma => kernel_rfl) (by as_aux_lemma => kernel_rfl) (fun _ _ _ h => h) (Or.inl ⟨by rfl, ?_⟩) (by assumption) ?_
            rotate_left
            · intro w hSw
              (try dsimp only at hSw)
              first
                | (go_simp; done)
                | (go_simp; with_reducible rfl)
            try simp only [Act.put, List.setIfInBounds_toArray, List.set_cons_zero, List.set_cons_succ]
            refine takeD (i := 52) (v := ?_) (some 211) rfl rfl (by as_aux_lemma => kernel_rfl) (by as_aux_lemma => kernel_rfl) (by as_aux_lemma => kernel_rfl) (fun _ _ _ h => h) (Or.inl ⟨by rfl, ?_⟩) (by assumption) ?_
            rotate_left
            · intro w hSw
              (try dsimp only at hSw)
              first
                | (go_simp; done)
                | (go_simp; with_reducible rfl)
            try simp only [Act.put, List.setIfInBounds_toArray, List.set_cons_zero, List.set_cons_succ]
            refine takeD (i := 53) (v := ?_) (some 212) rfl rfl (by as_aux_lemma => kernel_rfl) (by as_aux_lemma => kernel_rfl) (by as_aux_lemma => kernel_rfl) (fun _ _ _ h => h) (Or.inl ⟨by rfl, ?_⟩) (by assumption) ?_
            rotate_left
            · intro w hSw
              (try dsimp only at hSw)
              first
                | (go_simp; done)
                | (go_simp; with_reducible rfl)
            try simp only [Act.put, List.setIfInBounds_toArray, List.set_cons_zero, List.set_cons_succ]
            refine takeD (i := 54) (v := ?_) (some 213) rfl rfl (by as_aux_lemma => kernel_rfl) (by as_aux_lemma => kernel_rfl) (by as_aux_lemma => kernel_rfl) (fun _ _ _ h => h) (Or.inl ⟨by rfl, ?_⟩) (by assumption) ?_
            rotate_left
            · intro w hSw
              (try dsimp only at hSw)
              first
                | (go_simp; done)
                | (go_simp; with_reducible rfl)
            try simp only [Act.put, List.setIfInBounds_toArray, List.set_cons_zero, List.set_cons_succ]
            refine takeD (i := 55) (v := ?_) (some 214) rfl rfl (by as_aux_lemma => kernel_rfl) (by as_aux_lemma => kernel_rfl) (by as_aux_lemma => kernel_rfl) (fun _ _ _ h => h) (Or.inl ⟨by rfl, ?_⟩) (by assumption) ?_
            rotate_left
            · intro w hSw
              (try dsimp only at hSw)
              first
                | (go_simp; done)
                | (go_simp; with_reducible rfl)
            try simp only [Act.put, List.setIfInBounds_toArray, List.set_cons_zero, List.set_cons_succ]
            refine takeD (i := 56) (v := ?_) (some 215) rfl rfl (by as_aux_lemma => kernel_rfl) (by as_aux_lemma => kernel_rfl) (by as_aux_lemma => kernel_rfl) (fun _ _ _ h => h) (Or.inl ⟨by rfl, ?_⟩) (by assumption) ?_
            rotate_left
            · intro w hSw
              (try dsimp only at hSw)
              first
                | (go_simp; done)
                | (go_simp; with_reducible rfl)
            try simp only [Act.put, List.setIfInBounds_toArray, List.set_cons_zero, List.set_cons_succ]
            refine takeD (i := 57) (v := ?_) (some 216) rfl rfl (by as_aux_lemma => kernel_rfl) (by as_aux_lemma => kernel_rfl) (by as_aux_lemma => kernel_rfl) (fun _ _ _ h => h) (Or.inl ⟨by rfl, ?_⟩) (by assumption) ?_
            rotate_left
            · intro w hSw
              (try dsimp only at hSw)
              first
                | (go_simp; done)
                | (go_simp; with_reducible rfl)
            try simp only [Act.put, List.setIfInBounds_toArray, List.set_cons_zero, List.set_cons_succ]
            refine takeD (i := 58) (v := ?_) (some 217) rfl rfl (by as_aux_lemma => kernel_rfl) (by as_aux_lemma => kernel_rfl) (by as_aux_lemma => kernel_rfl) (fun _ _ _ h => h) (Or.inl ⟨by rfl, ?_⟩) (by assumption) ?_
            rotate_left
            · intro w hSw
              (try dsimp only at hSw)
              first
                | (go_simp; done)
                | (go_simp; with_reducible rfl)
            try simp only [Act.put, List.setIfInBounds_toArray, List.set_cons_zero, List.set_cons_succ]
            refine takeD (i := 59) (v := ?_) (some 218) rfl rfl (by as_aux_lemma => kernel_rfl) (by as_aux_lemma => kernel_rfl) (by as_aux_lemma => kernel_rfl) (fun _ _ _ h => h) (Or.inl ⟨by rfl, ?_⟩) (by assumption) ?_
            rotate_left
            · intro w hSw
              (try dsimp only at hSw)
              first
                | (go_simp; done)
                | (go_simp; with_reducible rfl)
            try simp only [Act.put, List.setIfInBounds_toArray, List.set_cons_zero, List.set_cons_succ]
            refine takeD (i := 60) (v := ?_) (some 219) rfl rfl (by as_aux_lemma => kernel_rfl) (by as_aux_lemma => kernel_rfl) (by as_aux_lemma => kernel_rfl) (fun _ _ _ h => h) (Or.inl ⟨by rfl, ?_⟩) (by assumption) ?_
            rotate_left
            · intro w hSw
              (try dsimp only at hSw)
              first
                | (go_simp; done)
                | (go_simp; with_reducible rfl)
            try simp only [Act.put, List.setIfInBounds_toArray, List.set_cons_zero, List.set_cons_succ]
            refine takeD (i := 64) (v := ?_) (some 223) rfl rfl (by as_aux_lemma => kernel_rfl) (by as_aux_lemma => kernel_rfl) (by as_aux_lemma => kernel_rfl) (fun _ _ _ h => h) (Or.inl ⟨by rfl, ?_⟩) (by assumption) ?_
            rotate_left
            · intro w hSw
              (try dsimp only at hSw)
              first
                | (go_simp; done)
                | (go_simp; with_reducible rfl)
            try simp only [Act.put, List.setIfInBounds_toArray, List.set_cons_zero, List.set_cons_succ]
            generalize ha0 : (Act.mk _ _) = a0
            have e161 : a0.tmps[161]? = some (.pointer (some ⟨p0.1, 0, none⟩)) := by rw [← ha0]; rfl
            have e164 : a0.tmps[164]? = some (.pointer (some ⟨p0.1, 0, none⟩)) := by rw [← ha0]; rfl
            have e167 : a0.tmps[167]? = some (.pointer (some ⟨p1.1, 0, none⟩)) := by rw [← ha0]; rfl
            have e171 : a0.tmps[171]? = some (.pointer (some ⟨p0.1, 0, none⟩)) := by rw [← ha0]; rfl
            have e174 : a0.tmps[174]? = some (.pointer (some ⟨p1.1, 0, none⟩)) := by rw [← ha0]; rfl
            have e177 : a0.tmps[177]? = some (.pointer (some ⟨p0.1, 0, none⟩)) := by rw [← ha0]; rfl
            have e181 : a0.tmps[181]? = some (.pointer (some ⟨p1.1, 0, none⟩)) := by rw [← ha0]; rfl
            have e184 : a0.tmps[184]? = some (.pointer (some ⟨p0.1, 0, none⟩)) := by rw [← ha0]; rfl
            have e187 : a0.tmps[187]? = some (.pointer (some ⟨p0.1, 0, none⟩)) := by rw [← ha0]; rfl
            have e191 : a0.tmps[191]? = some (.pointer (some ⟨p0.1, 0, none⟩)) := by rw [← ha0]; rfl
            have e194 : a0.tmps[194]? = some (.pointer (some ⟨p1.1, 0, none⟩)) := by rw [← ha0]; rfl
            have e197 : a0.tmps[197]? = some (.pointer (some ⟨p2.1, 0, none⟩)) := by rw [← ha0]; rfl
            have e200 : a0.tmps[200]? = some (.pointer (some ⟨p3.1, 0, none⟩)) := by rw [← ha0]; rfl
            have e203 : a0.tmps[203]? = some (.pointer (some ⟨p0.1, 0, none⟩)) := by rw [← ha0]; rfl
            have e207 : a0.tmps[207]? = some (.pointer (some ⟨p0.1, 0, none⟩)) := by rw [← ha0]; rfl
            have e210 : a0.tmps[210]? = some (.pointer (some ⟨p1.1, 0, none⟩)) := by rw [← ha0]; rfl
            have e213 : a0.tmps[213]? = some (.pointer (some ⟨p2.1, 0, none⟩)) := by rw [← ha0]; rfl
            have e216 : a0.tmps[216]? = some (.pointer (some ⟨p3.1, 0, none⟩)) := by rw [← ha0]; rfl
            have e219 : a0.tmps[219]? = some (.pointer (some ⟨p3.1, 0, none⟩)) := by rw [← ha0]; rfl
            refine (show wpAnyH _ .any _ _ _ 7 #[true, true, true, true, true, true, true, true, true, false, true, true, true, true, true, true, true, true, true, false, true, true, true, true, true, true, true, true, true, false, true, true, true, true, true, true, true, true, true, true, true, true, true, true, true, false, true, true, true, true, true, true, true, true, true, true, true, true, true, true, true, false, false, false, true] a0 _ from ?_)
            refine par5_start a0 168 178 188 204 220 (by decide) [9, 19, 29, 45, 61] #[true, true, true, true, true, true, true, true, true, false, true, true, true, true, true, true, true, true, true, false, true, true, true, true, true, true, true, true, true, false, true, true, true, true, true, true, true, true, true, true, true, true, true, true, true, false, true, true, true, true, true, true, true, true, true, true, true, true, true, true, true, false, false, false, true] 2 (fun s W => P5 w W (some ⟨gA, 0, none⟩) c [p0, p1, p2, p3, p4] (ls5 p0.1 p1.1 p2.1 p3.1) s) (by as_aux_lemma => kernel_rfl) ?step ?done _ ⟨HN.out.keep (Below.refl _ w5).drew, fun k v h => by cases h⟩ (by assumption)
            case step =>
              intro kk hk s W K hn hJ hS hK
              have h161 : (frm a0 [168, 178, 188, 204, 220] s).tmps[161]? = some (.pointer (some ⟨p0.1, 0, none⟩)) := (frm_tmps a0 _ s 161 (not_at (by decide))).trans e161
              have h164 : (frm a0 [168, 178, 188, 204, 220] s).tmps[164]? = some (.pointer (some ⟨p0.1, 0, none⟩)) := (frm_tmps a0 _ s 164 (not_at (by decide))).trans e164
              have h167 : (frm a0 [168, 178, 188, 204, 220] s).tmps[167]? = some (.pointer (some ⟨p1.1, 0, none⟩)) := (frm_tmps a0 _ s 167 (not_at (by decide))).trans e167
              have h171 : (frm a0 [168, 178, 188, 204, 220] s).tmps[171]? = some (.pointer (some ⟨p0.1, 0, none⟩)) := (frm_tmps a0 _ s 171 (not_at (by decide))).trans e171
              have h174 : (frm a0 [168, 178, 188, 204, 220] s).tmps[174]? = some (.pointer (some ⟨p1.1, 0, none⟩)) := (frm_tmps a0 _ s 174 (not_at (by decide))).trans e174
              have h177 : (frm a0 [168, 178, 188, 204, 220] s).tmps[177]? = some (.pointer (some ⟨p0.1, 0, none⟩)) := (frm_tmps a0 _ s 177 (not_at (by decide))).trans e177
              have h181 : (frm a0 [168, 178, 188, 204, 220] s).tmps[181]? = some (.pointer (some ⟨p1.1, 0, none⟩)) := (frm_tmps a0 _ s 181 (not_at (by decide))).trans e181
              have h184 : (frm a0 [168, 178, 188, 204, 220] s).tmps[184]? = some (.pointer (some ⟨p0.1, 0, none⟩)) := (frm_tmps a0 _ s 184 (not_at (by decide))).trans e184
              have h187 : (frm a0 [168, 178, 188, 204, 220] s).tmps[187]? = some (.pointer (some ⟨p0.1, 0, none⟩)) := (frm_tmps a0 _ s 187 (not_at (by decide))).trans e187
              have h191 : (frm a0 [168, 178, 188, 204, 220] s).tmps[191]? = some (.pointer (some ⟨p0.1, 0, none⟩)) := (frm_tmps a0 _ s 191 (not_at (by decide))).trans e191
              have h194 : (frm a0 [168, 178, 188, 204, 220] s).tmps[194]? = some (.pointer (some ⟨p1.1, 0, none⟩)) := (frm_tmps a0 _ s 194 (not_at (by decide))).trans e194
              have h197 : (frm a0 [168, 178, 188, 204, 220] s).tmps[197]? = some (.pointer (some ⟨p2.1, 0, none⟩)) := (frm_tmps a0 _ s 197 (not_at (by decide))).trans e197
              have h200 : (frm a0 [168, 178, 188, 204, 220] s).tmps[200]? = some (.pointer (some ⟨p3.1, 0, none⟩)) := (frm_tmps a0 _ s 200 (not_at (by decide))).trans e200
              have h203 : (frm a0 [168, 178, 188, 204, 220] s).tmps[203]? = some (.pointer (some ⟨p0.1, 0, none⟩)) := (frm_tmps a0 _ s 203 (not_at (by decide))).trans e203
              have h207 : (frm a0 [168, 178, 188, 204, 220] s).tmps[207]? = some (.pointer (some ⟨p0.1, 0, none⟩)) := (frm_tmps a0 _ s 207 (not_at (by decide))).trans e207
              have h210 : (frm a0 [168, 178, 188, 204, 220] s).tmps[210]? = some (.pointer (some ⟨p1.1, 0, none⟩)) := (frm_tmps a0 _ s 210 (not_at (by decide))).trans e210
              have h213 : (frm a0 [168, 178, 188, 204, 220] s).tmps[213]? = some (.pointer (some ⟨p2.1, 0, none⟩)) := (frm_tmps a0 _ s 213 (not_at (by decide))).trans e213
              have h216 : (frm a0 [168, 178, 188, 204, 220] s).tmps[216]? = some (.pointer (some ⟨p3.1, 0, none⟩)) := (frm_tmps a0 _ s 216 (not_at (by decide))).trans e216
              have h219 : (frm a0 [168, 178, 188, 204, 220] s).tmps[219]? = some (.pointer (some ⟨p3.1, 0, none⟩)) := (frm_tmps a0 _ s 219 (not_at (by decide))).trans e219
              generalize frm a0 [168, 178, 188, 204, 220] s = a at *
              rcases (show kk = 0 ∨ kk = 1 ∨ kk = 2 ∨ kk = 3 ∨ kk = 4 by omega) with rfl | rfl | rfl | rfl | rfl
              · refine wpOp_step rfl (fun K' hK' => ?_)
                go_simp
                exact hK' _ _ (hK _ _ (hJ.step 0 rfl) (S5_keep hS ((Below.refl _ W).alloc (Nat.le_refl _) _)))
              · refine wpOp_step rfl (fun K' hK' => ?_)
                go_simp
                exact hK' _ _ (hK _ _ (hJ.step 1 rfl) (S5_keep hS ((Below.refl _ W).alloc (Nat.le_refl _) _)))
              · refine wpOp_step rfl (fun K' hK' => ?_)
                go_simp
                exact hK' _ _ (hK _ _ (hJ.step 2 rfl) (S5_keep hS ((Below.refl _ W).alloc (Nat.le_refl _) _)))
              · refine wpOp_step rfl (fun K' hK' => ?_)
                go_simp
                exact hK' _ _ (hK _ _ (hJ.step 3 rfl) (S5_keep hS ((Below.refl _ W).alloc (Nat.le_refl _) _)))
              · refine wpOp_step rfl (fun K' hK' => ?_)
                go_simp
                exact hK' _ _ (hK _ _ (hJ.step 4 rfl) (S5_keep hS ((Below.refl _ W).alloc (Nat.le_refl _) _)))
            case done =>
              intro s W hs hJ hS
              obtain ⟨bl, hbl⟩ := hJ.done hs
              have HT5 := hid (hJ.made bl hbl)
              have g0 : s 0 = some (.slice (some ⟨bl 0, 0, none⟩) 3 3) := (hbl 0 (by decide)).1
              have g1 : s 1 = some (.slice (some ⟨bl 1, 0, none⟩) 3 3) := (hbl 1 (by decide)).1
              have g2 : s 2 = some (.slice (some ⟨bl 2, 0, none⟩) 3 3) := (hbl 2 (by decide)).1
              have g3 : s 3 = some (.slice (some ⟨bl 3, 0, none⟩) 5 5) := (hbl 3 (by decide)).1
              have g4 : s 4 = some (.slice (some ⟨bl 4, 0, none⟩) 5 5) := (hbl 4 (by decide)).1
              simp only [frm, put1, g0, g1, g2, g3, g4, List.getElem?_cons_zero, List.getElem?_cons_succ]
              clear hbl g0 g1 g2 g3 g4 hs hJ e161 e164 e167 e171 e174 e177 e181 e184 e187 e191 e194 e197 e200 e203 e207 e210 e213 e216 e219
              subst ha0
              try simp only [Act.put, List.setIfInBounds_toArray, List.set_cons_zero, List.set_cons_succ]
              refine wpAnyH_ready (rs := [62]) (by as_aux_lemma => kernel_rfl) (by simp) ?_
              refine AllReadyH.cons rfl (fun K hK => ?_) AllReadyH.nil
              go_simp
              refine hK.out _ _ (S5_keep hS ((Below.refl _ W).alloc (Nat.le_refl _) _)) (fun hHeld => ?_)
              clear hK K hS
              try simp only [Act.put, List.setIfInBounds_toArray, List.set_cons_zero, List.set_cons_succ]
              refine takeD (i := 63) (v := ?_) (some 222) rfl rfl (by as_aux_lemma => kernel_rfl) (by as_aux_lemma => kernel_rfl) (by as_aux_lemma => kernel_rfl) (fun _ _ _ h => h) (Or.inl ⟨by rfl, ?_⟩) (by assumption) ?_
              rotate_left
              · intro w hSw
                (try dsimp only at hSw)
                first
                  | (go_simp; done)
                  | (go_simp; with_reducible rfl)
              try simp only [Act.put, List.setIfInBounds_toArray, List.set_cons_zero, List.set_cons_succ]
              refine wpAnyH_done (by as_aux_lemma => kernel_rfl) ?_ _
              clear hHeld
              generalize (W.alloc (.cells #[.slice (some ⟨bl 0, 0, none⟩) 3 3, .slice (some ⟨bl 1, 0, none⟩) 3 3, .slice (some ⟨bl 2, 0, none⟩) 3 3, .slice (some ⟨bl 3, 0, none⟩) 5 5, .slice (some ⟨bl 4, 0, none⟩) 5 5] 23)) = W5 at *
              generalize W.heap.size = bs at *
              go_wp2_with fail
              go_loopg [223] 5 (fun gk i wr => ∃ d : Nat, gk + d = 5 ∧ i = .int .i64 d ∧ Hid (T5 w wr (some ⟨gA, 0, none⟩) c [p0, p1, p2, p3, p4] bs))
              case atStart => exact ⟨0, by omega, rfl, HT5⟩
              case round =>
                clear HT5
                obtain ⟨d, hd, rfl, HT5⟩ := hrel
                have HD := hid hd
                by_cases hlt : d < 5
                · obtain ⟨b, n5, ca, hn5, ho⟩ := HT5.out.dup d hlt
                  have HLT := hid hlt
                  have HOP := hid ho
                  clear hd ho
                  go_wp2_with fail
                  refine (HOP.out).mono ?_; rintro e w' ⟨rfl, rfl⟩
                  go_wp2_with fail
                  go_roundg (gk - 1)
                  case measure => have := HD.out; have := HLT.out; omega
                  case rel => exact ⟨d + 1, by have := HD.out; have := HLT.out; omega, by go_num, HT5⟩
                · obtain rfl : d = 5 := by have := HD.out; omega
                  clear hd hlt
                  go_wp2_with fail
                  have HM5 := hid (MnS.made HT5.out.nt.low)
                  generalize ((wr.alloc (.cells #[.slice none 0 0, .int .i64 0, .pointer none, .slice none 0 0, .bool false] 55)).alloc (.cells #[.pointer none, .pointer (some ⟨wr.heap.size, 0, none⟩)] 46)) = G5 at *
                  generalize wr.heap.size = g5 at *
                  clear HT5
                  go_loopg [243] 2 (fun gk i wr => ∃ d : Nat, gk + d = 2 ∧ i = .int .i64 d ∧ Hid (MnS w wr g5))
                  case atStart => exact ⟨0, by omega, rfl, HM5⟩
                  case round =>
                    clear HM5
                    obtain ⟨d, hd, rfl, HM5⟩ := hrel
                    have HD := hid hd
                    by_cases hlt : d < 2
                    · obtain ⟨va, ca, hno⟩ := HM5.out.at hlt
                      have HLT := hid hlt
                      clear hd
                      have H1 := hid (doN _ line wr hno)
                      have H2 := hid (askN _ line wr hno)
                      have H3 := hid (journalN _ wr hno)
                      have H4 := hid (stateN _ wr hno)
                      have H5 := hid (outN _ wr hno)
                      clear hno
                      go_wp2_with fail
                      refine (H1.out).mono ?_; rintro e w' ⟨rfl, rfl⟩
                      go_wp2_with fail
                      refine (H2.out).mono ?_; rintro e w' ⟨rfl, rfl⟩
                      go_wp2_with fail
                      refine (H3.out).mono ?_; rintro e w' ⟨rfl, rfl⟩
                      go_wp2_with fail
                      refine (H4.out).mono ?_; rintro e w' ⟨rfl, rfl⟩
                      go_wp2_with fail
                      refine (H5.out).mono ?_; rintro e w' ⟨rfl, rfl⟩
                      clear H1 H2 H3 H4 H5 ca
                      go_wp2
                      go_roundg (gk - 1)
                      case measure => have := HD.out; have := HLT.out; omega
                      case rel => exact ⟨d + 1, by have := HD.out; have := HLT.out; omega, by go_num, HM5⟩
                    · obtain rfl : d = 2 := by have := HD.out; omega
                      clear hd hlt
                      have HAW := hid (awakeF wr (HT.out.below HM5.out.low) (HM.out.keep HM5.out.low))
                      go_wp2_with fail
                      refine (HAW.out).mono ?_; rintro e w6 ⟨rfl, hb6⟩
                      have HB6 := hid hb6
                      clear hb6
                      go_wp2
                      go_ret
                      exact ⟨rfl, below_call HM5.out.low HB6.out HM5.out.low.size⟩
end Go.Proofs.YtkjinamjdjijcaaGreatDoor
