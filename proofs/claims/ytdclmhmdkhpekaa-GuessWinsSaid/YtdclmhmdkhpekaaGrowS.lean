/- Walk of ask's closure, its loop; of ask. Conditions: the boxes hold what ask laid into them. -/
import Derived.Test.YtdclmhmdkhpekaaGrowQ
namespace Go.Proofs.Ytdclmhmdkhpekaa
open Go.RowKit Go.Maps

theorem firstQ_cons {good : List Int → Bool} {x : Int} {rest pre : List Int} : firstQ good (x :: rest) pre = (List.range (x.toNat + 1)).findSome? fun v : Nat => firstQ good rest (pre ++ [(v : Int)]) := rfl
theorem range_some {α : Type} {f : Nat → Option α} {n k : Nat} {r : α} (hk : k < n) (h0 : ∀ v, v < k → f v = none) (h1 : f k = some r) : (List.range n).findSome? f = some r := by
  induction n with
  | zero => omega
  | succ n ih =>
    rw [List.range_succ, List.findSome?_append]
    by_cases e : k = n
    · subst e
      have : (List.range k).findSome? f = none := by rw [List.findSome?_eq_none_iff]; intro v hv; exact h0 v (by simpa using hv)
      rw [this]
      simp [h1]
    · rw [ih (by omega)]; rfl
theorem range_none {α : Type} {f : Nat → Option α} {n : Nat} (h0 : ∀ v, v < n → f v = none) : (List.range n).findSome? f = none := by
  rw [List.findSome?_eq_none_iff]; intro v hv; exact h0 v (by simpa using hv)

theorem own_some {w : World} {base n c : Nat} {e : TypeId} {A : Option Addr} {xs : List Value} (h : w.ownsRow base e 1 (.slice A n c) n xs) (h0 : 0 < n) : ∃ g, A = some ⟨g, 0, none⟩ ∧ n ≤ c := by
  rcases h.2 with ⟨hv, hn⟩ | ⟨g, cap, cur, hv, hb, hg, hc, hm, hs, ht⟩
  · omega
  · simp at hv
    obtain ⟨rfl, rfl⟩ := hv
    exact ⟨g, rfl, hc⟩
set_option maxRecDepth 100000 in
set_option maxHeartbeats 4000000 in
theorem growStep (bq bs bk bv bg vb M base : Nat) (A : Option Addr) (n c : Nat) (xs : List Int) (q r : Nat) (O : Order bq bs bk bv bg vb M base n A) (HP : Plays xs) (IH : GrowTo bq bs bk bv bg vb M base A n c xs q r) : GrowTo bq bs bk bv bg vb M base A n c xs q (r + 1) := by
  intro pre W qv hl hpre hB hbq hown hbase
  have hxl := hB.iv.sl.numlen
  have hi : pre.length < xs.length := by omega
  have hd : xs.drop pre.length = at0 xs pre.length :: xs.drop (pre.length + 1) := by
    rw [List.drop_eq_getElem_cons hi]
    congr 1
    simp [at0, List.getD, hi]
  have hx0 := HP.at0 pre.length
  obtain ⟨X, hX⟩ := Int.eq_ofNat_of_zero_le hx0.1
  have HF := hid (show firstQ (goodQ (winS q) q xs) (xs.drop pre.length) pre = (List.range (X + 1)).findSome? fun v : Nat => firstQ (goodQ (winS q) q xs) (xs.drop (pre.length + 1)) (pre ++ [(v : Int)]) by rw [hd, firstQ_cons, hX, Int.toNat_natCast])
  have hX1000 : X ≤ 1000 := by omega
  have hi4 : pre.length ≤ 3 := by have := HP.nn.hi; omega
  -- what a next number does
  have HN := hid fun (k : Nat) (hk : k < X + 1) W' qv' hB' hbq' (ho' : W'.ownsRow base 3 1 qv' (pre.length + 1) ((pre ++ [(k : Int)]).map (Value.int .i64))) hb' =>
    IH (pre ++ [(k : Int)]) W' qv' (by simp; omega) (fun j hj => by
      simp only [List.length_append, List.length_cons, List.length_nil] at hj
      by_cases e : j < pre.length
      · have : at0 (pre ++ [(k : Int)]) j = at0 pre j := by simp [at0, List.getD, List.getElem?_append_left e]
        rw [this]; exact hpre j e
      · obtain rfl : j = pre.length := by omega
        have : at0 (pre ++ [(k : Int)]) pre.length = k := by simp [at0, List.getD]
        rw [this, hX]; omega) hB' hbq' (by simpa using ho') hb'
  have HRs := hid (show resQ (goodQ (winS q) q xs) xs pre = (firstQ (goodQ (winS q) q xs) (xs.drop pre.length) pre).getD pre from rfl)
  have HRn := hid (show ∀ k : Nat, resQ (goodQ (winS q) q xs) xs (pre ++ [(k : Int)]) = (firstQ (goodQ (winS q) q xs) (xs.drop (pre.length + 1)) (pre ++ [(k : Int)])).getD (pre ++ [(k : Int)]) from fun k => by unfold resQ; simp)
  have HNl := hid (show ∀ k : Nat, (pre ++ [(k : Int)]).length = pre.length + 1 from fun k => by simp)
  have HNt := hid (show ∀ k : Nat, ((pre ++ [(k : Int)]).map (Value.int .i64)).take pre.length = pre.map (Value.int .i64) from fun k => by simp)
  have HNm := hid (show ∀ k : Nat, (pre ++ [(k : Int)]).map (Value.int .i64) = pre.map (Value.int .i64) ++ [.int .i64 (k : Int)] from fun k => by simp)
  generalize hres : resQ (goodQ (winS q) q xs) xs pre = res at *
  generalize hfq : firstQ (goodQ (winS q) q xs) (xs.drop pre.length) pre = fq at *
  clear hfq hres
  obtain ⟨Aq, cq, rfl⟩ := own_form hown
  have zq := hbq.cell 0; have zs := hB.s.cell 0
  simp at zq zs
  obtain ⟨b, o, rfl, lb, _, ca⟩ := hB.iv.sl.num (k := pre.length) (by omega)
  rw [hX] at ca
  have hin : pre.length < n := by omega
  have g1 : ((pre.length : Int) == (n : Int)) = false := by rw [beq_eq_false_iff_ne]; omega
  have g2 : (pre.length == n) = false := by rw [beq_eq_false_iff_ne]; omega
  have HBX := hid hB; have HBQ := hid hbq; have HOW := hid hown; have HO := hid O; have HBS := hid hbase
  generalize hpl : pre.length = i at *
  generalize hpv : pre.map (Value.int .i64) = pv at *
  have HPL := hid hpl; have HPV := hid hpv
  clear hl hpre hB hbq hown hd hx0 hX hi IH HP hpl hpv hbase
  go_enter Try.func95, Try.ntmps95
  go_wp2
  clear zq zs ca lb
  go_loopg [59] (X + 1) (fun gk j wr => ∃ k : Nat, gk + k = X + 1 ∧ j = .int .i64 k ∧ (∀ v : Nat, v < k → firstQ (goodQ (winS q) q xs) (xs.drop (i + 1)) (pre ++ [(v : Int)]) = none) ∧ Chg (Rq bq M base) W wr ∧ Memo Try.prog 112 wr M OKw ∧ ∃ A' c', Blk wr bq 79 #[.slice A' i c'] ∧ wr.ownsRow base 3 1 (.slice A' i c') i pv)
  case atStart => exact ⟨0, by omega, rfl, fun v hv => absurd hv (by omega), Chg.refl _ _, HBX.out.iv.memo, Aq, cq, HBQ.out, HOW.out⟩
  case round =>
    obtain ⟨k, hk, rfl, hno, hc, hm, A1, c1, hbq, ho⟩ := hrel
    have HK := hid hk; have HNO := hid hno; have HC := hid hc; have HM := hid hm
    have hBr := HBX.out.chg HO.out hc hm
    have HBr := hid hBr; have HBq := hid hbq; have HOr := hid ho
    have hsz : base ≤ wr.heap.size := by have := hc.size; have := HBS.out; omega
    have HSZ := hid hsz
    have zq := hbq.cell 0
    have fq0 := hbq.free 0
    simp at zq
    have lq := hbq.lt
    clear hk hno hc hm hBr hbq ho
    by_cases hlt : k < X + 1
    · have hk1000 : k ≤ 1000 := by omega
      have hd1 : decide ((k : Int) < (X : Int) + 1) = true := decide_eq_true (by omega)
      have HLT := hid hlt
      clear hlt
      have HGQ := hid (show bg ≠ bq by have := HO.out.o6; omega)
      have hbqb : bq < base := by have := HO.out.o6; have := HO.out.o7; omega
      have HPA := hid (show ∀ v1 w3, w3.ownsRow base 3 1 v1 (i + 1) (pv ++ (#[Value.int .i64 (k : Int)] : Array Value).toList) → (wr.alloc (.cells #[.int .i64 (k : Int)] 3)).grownBy w3 (Value.slice A1 i c1).ownBlock →
          Boxes (w3.setCell ⟨bq, 0, none⟩ v1) bq bs bk bv bg vb M (some ⟨b, o, none⟩) n c xs q ∧ Blk (w3.setCell ⟨bq, 0, none⟩ v1) bq 79 #[v1] ∧ (w3.setCell ⟨bq, 0, none⟩ v1).ownsRow base 3 1 v1 (i + 1) ((pre ++ [(k : Int)]).map (Value.int .i64)) ∧ base ≤ (w3.setCell ⟨bq, 0, none⟩ v1).heap.size ∧ Chg (Rq bq M base) wr (w3.setCell ⟨bq, 0, none⟩ v1) ∧ Memo Try.prog 112 (w3.setCell ⟨bq, 0, none⟩ v1) M OKw ∧ w3.cell? ⟨bq, 0, none⟩ = some (.slice A1 i c1) ∧ w3.frozen? ⟨bq, 0, none⟩ = false ∧ w3.cell? ⟨bg, 0, none⟩ = some (.func (.func 95) #[] #[.pointer (some ⟨bq, 0, none⟩), .pointer (some ⟨bs, 0, none⟩), .pointer (some ⟨bk, 0, none⟩), .pointer (some ⟨bv, 0, none⟩), .pointer (some ⟨bg, 0, none⟩)]) from fun v1 w3 h1 h2 => by
        have hown := HOr.out
        have hob : ∀ g, (Value.slice A1 i c1).ownBlock = some g → base ≤ g := fun g hg => (hown.lt g hg).1
        have hcg : Chg (Rq bq M base) wr w3 := (Chg.of_below ((Below.refl _ _).alloc (Nat.le_refl _) _)).trans (Chg.of_grow h2 (fun g hg => .inr (.inr (hob g hg))))
        have hm3 : Memo Try.prog 112 w3 M OKw := ((HM.out.alloc _).grown h2 (by
          intro e
          have h5 := hob M e.symm
          have := HO.out.o2; have := HO.out.o3; have := HO.out.o4; have := HO.out.o5
          omega))
        have hb3 : Blk w3 bq 79 #[.slice A1 i c1] := (HBq.out.alloc _).grown h2 (by
          intro e
          have h5 := hob bq e.symm
          omega)
        have hmq : bq ≠ M := HM.out.ne_blk HBq.out
        have hm4 : Memo Try.prog 112 (w3.setCell ⟨bq, 0, none⟩ v1) M OKw := hm3.setCell (a := ⟨bq, 0, none⟩) hmq v1
        have hc4 := hcg.set (p := ⟨bq, 0, none⟩) (.inl rfl) v1
        refine ⟨HBr.out.chg HO.out hc4 hm4, ?_, ?_, ?_, hc4, hm4, by simpa using hb3.cell 0, hb3.free 0, ?_⟩
        · have := hb3.set 0 v1
          exact this
        · rw [HNm.out]
          exact own_set h1 hbqb v1
        · have := hc4.size; have := HSZ.out; omega
        · exact (HBr.out.chg HO.out hcg hm3).g.cell 0)
      go_wp2_with (at_builtin; refine push1 TS79 wr #[.int .i64 (k : Int)] _ i _ _ HOr.out _ _ rfl rfl rfl rfl rfl (by simp [Value.oneCell']) (by omega) (by omega) HSZ.out ?_; intro v1 w3 hown1 hgr; obtain ⟨A2, c2, rfl⟩ := own_form hown1; have hp3 := HPA.out _ w3 hown1 hgr; have c3 := hp3.2.2.2.2.2.2.1; have f3 := hp3.2.2.2.2.2.2.2.1; have zg := hp3.2.2.2.2.2.2.2.2; have hgq : bg ≠ bq := HGQ.out; have HP3 := hid hp3; clear hp3 hown1 hgr)
      have HNK := hid (HN.out k HLT.out (w3.setCell ⟨bq, 0, none⟩ (.slice A2 (i + 1) c2)) (.slice A2 (i + 1) c2) HP3.out.1 HP3.out.2.1 (by have := HP3.out.2.2.1; simpa using this) HP3.out.2.2.2.1)
      rw [HNl.out] at HNK
      have HRK := hid (HRn.out k)
      rw [HRK.out] at HNK
      have HBB := hid hbqb
      clear HPA hbqb HRK
      go_wp2_with fail
      cases hr : firstQ (goodQ (winS q) q xs) (xs.drop (i + 1)) (pre ++ [(k : Int)]) with
      | some rr =>
        have HZ := hid (show fq = some rr from HF.out.trans (range_some HLT.out HNO.out hr))
        have HRZ := hid (show res = rr by rw [HRs.out, HZ.out]; rfl)
        rw [hr] at HNK
        simp only [Option.getD_some, Option.isSome_some] at HNK
        clear hr
        refine HNK.out.mono ?_; rintro e w4 ⟨rfl, hc4, hm4, qv4, hb4, ho4⟩
        have HE4 := hid ((HC.out.trans HP3.out.2.2.2.2.1).trans hc4)
        have HM4 := hid hm4; have HB4 := hid hb4; have HO4 := hid ho4
        clear hc4 hm4 hb4 ho4
        go_wp2
        go_ret
        exact ⟨ret_b (by rw [HZ.out]; rfl), HE4.out, HM4.out, qv4, HB4.out, by rw [HRZ.out]; exact HO4.out⟩
      | none =>
        have HRR := hid hr
        rw [hr] at HNK
        simp only [Option.getD_none, Option.isSome_none] at HNK
        clear hr
        refine HNK.out.mono ?_; rintro e w4 ⟨rfl, hc4, hm4, qv4, hb4, ho4⟩
        rw [HNl.out] at ho4
        obtain ⟨A4, c4, rfl⟩ := own_form ho4
        have hsh := own_shrink ho4 (k := i) (by omega) (by omega)
        rw [HNt.out] at hsh
        obtain ⟨g4, rfl, hcap⟩ := own_some ho4 (by omega)
        have z4 := hb4.cell 0
        have f4 := hb4.free 0
        simp at z4
        have hcapI : (i : Int) ≤ (c4 : Int) := by omega
        have hcap2 : i ≤ c4 := by omega
        have HE4 := hid ((HC.out.trans HP3.out.2.2.2.2.1).trans hc4)
        have HM4 := hid hm4; have HB4 := hid hb4; have HS4 := hid hsh
        clear hc4 hm4 hb4 ho4 hsh hcap
        go_wp2
        go_roundg (gk - 1)
        case measure => have := HK.out; have := HLT.out; omega
        case rel => exact ⟨k + 1, by have := HK.out; have := HLT.out; omega, by go_num, fun v hv => (by
            rcases Nat.lt_or_ge v k with h | h
            · exact HNO.out v h
            · obtain rfl : v = k := by omega
              exact HRR.out), HE4.out.set (p := ⟨bq, 0, none⟩) (.inl rfl) _, HM4.out.setCell (a := ⟨bq, 0, none⟩) (HM4.out.ne_blk HB4.out) _, _, _, HB4.out.set 0 _, own_set HS4.out HBB.out _⟩
    · obtain rfl : k = X + 1 := by have := HK.out; omega
      have hd1 : decide (((X + 1 : Nat) : Int) < (X : Int) + 1) = false := decide_eq_false (by omega)
      have HZ := hid (show fq = none from HF.out.trans (range_none HNO.out))
      have HRZ := hid (show res = pre by rw [HRs.out, HZ.out]; rfl)
      go_wp2
      go_ret
      exact ⟨ret_b (by rw [HZ.out]; rfl), HC.out, HM.out, _, HBq.out, by rw [HRZ.out, HPL.out, HPV.out]; exact HOr.out⟩
end Go.Proofs.Ytdclmhmdkhpekaa
