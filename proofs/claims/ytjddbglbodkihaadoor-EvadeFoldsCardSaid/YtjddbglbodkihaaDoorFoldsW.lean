/- Walks of evade.Folds, and of evade.Folding where the slice is no family. Conditions: the slices read as numbers and as pairs; the table of the library stands. -/
import Derived.Test.YtjddbglbodkihaaDoorFoldL
namespace Go.Proofs.YtjddbglbodkihaaDoor
open Go.RowKit
attribute [local go_sem ↓] shl_p2 shl_u or_u shr_u and_shrF

theorem FRun.inv {F0 : Nat} {m : List (Int × Int)} {G : Nat} (h : FRun F0 m G) : ∀ l p, m = l ++ [p] → ∃ F s t : Nat, p = ((s : Int), (t : Int)) ∧ FRun F0 l F ∧ FR F s t ∧ G = remF F s t := by
  cases h with
  | nil => intro l p h; simp at h
  | @snoc l' F s t hl hr =>
    intro l p h
    obtain ⟨h1, h2⟩ := List.append_inj' h rfl
    subst h1
    simp at h2
    exact ⟨F, s, t, h2.symm, hl, hr, rfl⟩
theorem FRun.inv0 {F0 : Nat} {m : List (Int × Int)} {G : Nat} (h : FRun F0 m G) : m = [] → G = F0 := by
  cases h with
  | nil => intro _; rfl
  | snoc hl hr => intro h; simp at h
theorem FR.uniq {F s t t' : Nat} (h : FR F s t) (h' : FR F s t') : t = t' := h'.only t h.inT h.ne h.sub
theorem FRun.det {F0 : Nat} {l : List (Int × Int)} {G : Nat} (h : FRun F0 l G) : ∀ G', FRun F0 l G' → G = G' := by
  induction h with
  | nil =>
    intro G' h'
    exact (h'.inv0 rfl).symm
  | @snoc l F s t hl hr ih =>
    intro G' h'
    obtain ⟨F', s', t', hp, hl', hr', rfl⟩ := h'.inv _ _ rfl
    have := ih _ hl'
    subst this
    simp at hp
    have e1 : s = s' := by omega
    have e2 : t = t' := by omega
    subst e1 e2
    rfl
theorem FRun.pre {F0 : Nat} (l : List (Int × Int)) : ∀ (r : List (Int × Int)) (G : Nat), FRun F0 (l ++ r.reverse) G → ∃ G1, FRun F0 l G1 := by
  intro r
  induction r with
  | nil => intro G h; exact ⟨G, by simpa using h⟩
  | cons p r ih =>
    intro G h
    rw [List.reverse_cons, ← List.append_assoc] at h
    obtain ⟨F, s, t, _, hl, _⟩ := h.inv _ _ rfl
    exact ih F hl
/-- Where a fold fails, the whole row does. -/
theorem FRun.fail {F0 : Nat} {qs : List (Int × Int)} {d : Nat} {p : Int × Int} {G : Nat} (hd : qs[d]? = some p) (h : FRun F0 (qs.take d) G) (hn : ∀ s t : Nat, p = ((s : Int), (t : Int)) → ¬ FR G s t) : ∀ G', ¬ FRun F0 qs G' := by
  intro G' h'
  have e : qs = qs.take (d + 1) ++ ((qs.drop (d + 1)).reverse).reverse := by simp
  rw [e] at h'
  obtain ⟨G1, h1⟩ := FRun.pre _ _ _ h'
  rw [List.take_add_one, hd] at h1
  obtain ⟨F, s, t, hp, hl, hr, _⟩ := h1.inv (qs.take d) p rfl
  have := h.det _ hl
  subst this
  exact hn s t hp hr
set_option maxRecDepth 100000 in
set_option maxHeartbeats 1000000 in
theorem foldingNo (n : Int) (A : Option Addr) (m c : Nat) (xs : List Int) (w : World) (hs : Sl w A m c (xs.map (Value.int .i64))) (hT : Tab w) (H : ¬ Fam n xs) :
    Calls Tryd.prog 49 #[.int .i64 n, .slice A m c] w fun e w' => e = .returned (.tuple #[.slice none 0 0, .int .i64 2]) ∧ Below w.heap.size w w' := by
  have HR := hid (readNo n A m c xs w hs hT H)
  clear hs hT H
  go_enter Tryd.func49, Tryd.ntmps49
  go_wp2_with fail
  refine (HR.out).mono ?_; rintro e w1 ⟨⟨G, rfl⟩, b1⟩
  have HB1 := hid (b1.alloc b1.size (.cells #[.int .i64 n, .int .u64 G] 72))
  clear b1
  go_wp2
  go_ret2
  exact ⟨rfl, HB1.out⟩
set_option maxRecDepth 100000 in
set_option maxHeartbeats 1000000 in
theorem foldsNo (n : Int) (A : Option Addr) (m c : Nat) (xs : List Int) (X : Option Addr) (k kc : Nat) (w : World) (hs : Sl w A m c (xs.map (Value.int .i64))) (hT : Tab w) (H : ¬ Fam n xs) :
    Calls Tryd.prog 50 #[.int .i64 n, .slice A m c, .slice X k kc] w fun e w' => e = .returned (.tuple #[.bool false, .int .i64 2]) ∧ Below w.heap.size w w' := by
  have HR := hid (readNo n A m c xs w hs hT H)
  clear hs hT H
  go_enter Tryd.func50, Tryd.ntmps50
  go_wp2_with fail
  refine (HR.out).mono ?_; rintro e w1 ⟨⟨G, rfl⟩, b1⟩
  have HB1 := hid (b1.alloc b1.size (.cells #[.int .i64 n, .int .u64 G] 72))
  clear b1
  go_wp2
  go_ret2
  exact ⟨rfl, HB1.out⟩
set_option maxRecDepth 100000 in
set_option maxHeartbeats 4000000 in
theorem foldsYes (n : Nat) (A : Option Addr) (m c : Nat) (xs : List Int) (X : Option Addr) (k kc : Nat) (qs : List (Int × Int)) (w : World) (hs : Sl w A m c (xs.map (Value.int .i64))) (hq : Sl2 w X k kc qs) (hT : Tab w) (H : Fam n xs) :
    Calls Tryd.prog 50 #[.int .i64 n, .slice A m c, .slice X k kc] w fun e w' => (∃ b, e = .returned (.tuple #[.bool b, .int .i64 0]) ∧ (b = true ↔ ∃ G, FRun (setF xs) qs G ∧ Point G.testBit)) ∧ Below w.heap.size w w' := by
  have HR := hid (readYes n A m c xs w hs hT H)
  have hf := fs_of H
  have hn6 := H.n6n
  have HFO := hid fun G ps (h : FRun (setF xs) ps G) x W (hb : Below w.heap.size w W) => foldF n G x W hn6 (h.lt hf H.lt) (hT.below hb)
  have HAW := hid fun G ps (h : FRun (setF xs) ps G) W (hb : Below w.heap.size w W) => awayF n G W (h.fs hf) (hT.below hb)
  have HFS := hid fun G ps (h : FRun (setF xs) ps G) => h.fs hf
  have hkm := hq.len_le
  have HQL := hid hq.len
  have HQ := hid fun W (hb : Below w.heap.size w W) => hq.below hb
  generalize setF xs = F0 at *
  clear hs hT H hf hq
  go_enter Tryd.func50, Tryd.ntmps50
  go_wp2_with fail
  refine (HR.out).mono ?_; rintro e w1 ⟨rfl, b1⟩
  have hz1 := b1.size
  have HB1 := hid ((b1.alloc hz1 (.cells #[.int .i64 n, .int .u64 F0] 72)))
  have HK1 := hid (Blk.new w1 72 #[.int .i64 n, .int .u64 F0])
  have HZ := hid hz1
  clear b1 hz1
  go_wp2
  go_loopg [24] k (fun gk i wr => ∃ (d : Nat) (G : Nat), gk + d = k ∧ i = .int .i64 d ∧ FRun F0 (qs.take d) G ∧ Hid (Blk wr w1.heap.size 72 #[.int .i64 n, .int .u64 G]) ∧ Hid (Below w.heap.size w wr))
  case atStart => exact ⟨0, F0, by omega, rfl, .nil, HK1, HB1⟩
  case round =>
    obtain ⟨d, G, hd, rfl, hfr, HK, HB⟩ := hrel
    have HD := hid hd
    by_cases hlt : d < k
    · have HLT := hid hlt
      obtain ⟨b, o, u, rfl, lb, hu, q0, q1⟩ := (HQ.out wr HB.out).at hlt
      have HU := hid hu
      obtain ⟨s, t⟩ := u
      have HB2 := hid (HB.out.alloc HB.out.size (.cells #[.int .i64 s, .int .i64 t] 66))
      have HK2 := hid (HK.out.alloc (.cells #[.int .i64 s, .int .i64 t] 66))
      have HP2 := hid (Blk.new wr 66 #[.int .i64 s, .int .i64 t])
      have f0 := HK2.out.cell 0; have f1 := HK2.out.cell 1
      simp only [List.getElem?_toArray, List.getElem?_cons_zero, List.getElem?_cons_succ] at f0 f1
      have q1' : wr.cell? ⟨b, o + d * 2 + 1, none⟩ = some (.int .i64 t) := by rw [Nat.add_assoc]; exact q1
      clear hd lb hu q1
      go_wp2_with fail
      refine (HFO.out G _ hfr _ _ HB2.out).mono ?_; rintro e w5 ⟨⟨t', b5, rfl, hfo⟩, hl⟩
      have HB5 := hid (below_call HB2.out hl HB2.out.size)
      have HK5 := hid (HK2.out.keep hl)
      have HP5 := hid (HP2.out.keep hl)
      have f2 := HK5.out.cell 0; have f3 := HK5.out.cell 1
      have f4 := HP5.out.cell 0; have f5 := HP5.out.cell 1
      have z4 := HK5.out.free 0; have z5 := HK5.out.free 1
      simp only [List.getElem?_toArray, List.getElem?_cons_zero, List.getElem?_cons_succ] at f2 f3 f4 f5
      have HFA := hid fun hn => FRun.fail (p := (s, t)) HU.out hfr hn
      cases b5
      · have HRES := hid (show false = true ↔ ∃ G, FRun F0 qs G ∧ Point G.testBit from ⟨fun h => (by cases h), fun ⟨G', h1, _⟩ => absurd h1 (HFA.out (fun sn tn he => by
          simp at he
          exact hfo.2 rfl sn tn he.1) G')⟩)
        clear hl hfo f0 f1
        go_wp2
        go_ret2
        exact ⟨⟨false, rfl, HRES.out⟩, HB5.out⟩
      · obtain ⟨sn, tn, hsx, htx, hfrr⟩ := hfo.1 rfl
        by_cases het : t' = t
        · have g : (t' != t) = false := by simp [het]
          subst het
          subst hsx htx
          have HX := hid (show qs.take (d + 1) = qs.take d ++ [((sn : Int), (tn : Int))] from by rw [List.take_add_one, HU.out]; rfl)
          have hsn : sn < 64 := (HFS.out G _ hfr).small sn hfrr.inS
          have htn : tn < 64 := (HFS.out G _ hfr).small tn hfrr.inT
          have FS1 : FitF (sn : Int) := ⟨by omega, by omega⟩
          have FT1 : FitF (tn : Int) := ⟨by omega, by omega⟩
          have OP : OrPF (sn : Int) (tn : Int) := ⟨FS1, FT1⟩
          have AN : AnRF G (sn : Int) (tn : Int) := ⟨(HFS.out G _ hfr).lt, OP⟩
          have HFR2 := hid (FRun.snoc hfr hfrr)
          rw [← HX.out] at HFR2
          have hbv : bits .andNot .u64 (G : Int) (bits .or .u64 (p2 (sn : Int)) (p2 (tn : Int))) = (remF G sn tn : Nat) := by
            rw [two_bits OP]
            exact rem_bits AN
          have gn : ((tn : Int) != tn) = false := by simp
          clear hl hfo f0 f1
          go_wp2_with fail
          go_region
          have HKS := hid ((HK5.out.set 1 (.int .u64 (remF G sn tn : Nat))).drew)
          have HBS := hid ((HB5.out.setCell (p := ⟨w1.heap.size, 1, none⟩) HZ.out (.int .u64 (remF G sn tn : Nat))).drew)
          generalize (w5.setCell ⟨w1.heap.size, 1, none⟩ (.int .u64 (remF G sn tn : Nat))).drew = w7 at *
          clear hbv f2 f3 f4 f5 z4 z5
          go_wp2
          go_roundg (gk - 1)
          case measure => have := HD.out; have := HLT.out; omega
          case rel => exact ⟨d + 1, remF G sn tn, by have := HD.out; have := HLT.out; omega, by go_num, HFR2.out, HKS, HBS⟩
        · have g : (t' != t) = true := by simp [het]
          have HRES := hid (show false = true ↔ ∃ G, FRun F0 qs G ∧ Point G.testBit from ⟨fun h => (by cases h), fun ⟨G', h1, _⟩ => absurd h1 (HFA.out (fun sn' tn' he h2 => by
            simp at he
            obtain rfl : sn' = sn := by omega
            have := hfrr.uniq h2
            omega) G')⟩)
          clear hl hfo f0 f1 hsx htx het
          go_wp2
          go_ret2
          exact ⟨⟨false, rfl, HRES.out⟩, HB5.out⟩
    · obtain rfl : d = k := by have := HD.out; omega
      have e : qs.take d = qs := List.take_of_length_le (by have := HQL.out; omega)
      rw [e] at hfr
      have f0 := HK.out.cell 0; have f1 := HK.out.cell 1
      simp only [List.getElem?_toArray, List.getElem?_cons_zero, List.getElem?_cons_succ] at f0 f1
      clear hd hlt e
      go_wp2_with fail
      refine (HAW.out G qs hfr _ HB.out).mono ?_; rintro e wz ⟨⟨bz, rfl, hbz⟩, hlz⟩
      have HBZ := hid (below_call HB.out hlz HB.out.size)
      have HRES := hid (show bz = true ↔ ∃ G, FRun F0 qs G ∧ Point G.testBit from ⟨fun h => ⟨G, hfr, hbz.1 h⟩, fun ⟨G', h1, h2⟩ => hbz.2 (by rw [hfr.det _ h1]; exact h2)⟩)
      clear hlz hbz
      go_wp2
      go_ret2
      exact ⟨⟨bz, rfl, HRES.out⟩, HBZ.out⟩
end Go.Proofs.YtjddbglbodkihaaDoor
