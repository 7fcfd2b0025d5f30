/- Walks of evade.Close, part, Link and Without. Conditions: the slices read as numbers; the table of the library stands. -/
import Derived.Test.YtjddbglbodkihaaDoorJoinW
namespace Go.Proofs.YtjddbglbodkihaaDoor
open Go.RowKit
attribute [local go_sem ↓] shl_p2 shl_u or_u shr_u and_shrF shr_v and_shr andNot_v and_nn or_i

theorem sets_split {n : Nat} {xs : List Int} (h1 : 1 ≤ n) (h6 : n ≤ 6) (hm : xs.length ≤ 64) (h : setsOk n xs = true) : SetsP n xs :=
  ⟨by omega, by omega, hm, fun x hx => by rw [p2_nat]; exact sets_iff.1 h x hx⟩
theorem SetsP.ok {n : Nat} {xs : List Int} (h : SetsP n xs) : setsOk n xs = true := sets_iff.2 h.bdn
/-- The list of a family is its sets below 2^n. -/
theorem clo_list {n : Nat} {xs : List Int} (h : SetsP n xs) {G : Nat} (hG : Clo n (setF xs) G) : famL 64 G.testBit = famL (2 ^ n) (partsR xs) := by
  have h6 := h.n6
  rw [famL_wide (two64 (show n ≤ 6 by omega)) fun i hi => bit_lt hG.lt hi]
  exact famL_congr fun s _ => (parts_ref (fun x hx => (h.bdn x hx).1) hG hG.down fun x hx => (h.bdn x hx).2).symm

set_option maxRecDepth 100000 in
set_option maxHeartbeats 2000000 in
theorem closeYes (n : Nat) (A : Option Addr) (m c : Nat) (xs : List Int) (w : World) (hs : Sl w A m c (xs.map (Value.int .i64))) (hT : Tab w) (H : SetsP n xs) :
    Calls Tryd.prog 21 #[.int .i64 n, .slice A m c] w fun e w' => ∃ A' c' l, e = .returned (.tuple #[.slice A' l c', .int .i64 0]) ∧ w'.ownsRow w.heap.size 3 1 (.slice A' l c') l ((famL (2 ^ n) (partsR xs)).map (Value.int .i64)) ∧ Below w.heap.size w w' := by
  have h1 := H.n1; have h6 := H.n6; have hl := hs.numlen; have hle := H.len
  have hlt : setF xs < 2 ^ (2 ^ n) := setF_lt H.bdn
  have HOK := H.ok
  have HC := hid (collectF n A m c xs w (by omega) (by omega) (by omega) hs)
  rw [HOK] at HC
  have HCL := hid fun W => closedF n (setF xs) W (by omega) hlt
  have HG := hid fun G (hG : Clo n (setF xs) G) => And.intro (clo_list H hG) (fam64 (by omega) hG.lt)
  have HLI := hid fun (G : Nat) W (hG : G < 18446744073709551616) (hb : Below w.heap.size w W) => listF n G W hG (hT.below hb)
  generalize setF xs = F at *
  generalize famL (2 ^ n) (partsR xs) = l at *
  clear HOK hs hT H h1 h6 hl hle hlt
  go_enter Tryd.func21, Tryd.ntmps21
  go_wp2_with fail
  refine (HC.out).mono ?_; rintro e w1 ⟨⟨G, rfl, hG⟩, b1⟩
  obtain rfl := hG trivial
  have HB1 := hid b1
  clear b1 hG
  go_wp2_with fail
  have HB2 := hid (HB1.out.alloc HB1.out.size (.cells #[.int .i64 n, .int .u64 G] 72))
  refine (HCL.out _).mono ?_; rintro e w2 ⟨⟨G2, rfl, hG2⟩, b2⟩
  have HB3 := hid (below_call HB2.out b2 HB2.out.size)
  have HH := hid (HG.out _ hG2)
  clear b2 hG2
  go_wp2_with fail
  refine (HLI.out _ _ HH.out.2 HB3.out).mono ?_
  rw [HH.out.1]
  rintro e w3 ⟨A', c', rfl, ho, b3⟩
  have HB4 := hid (below_call HB3.out b3 HB3.out.size)
  have HO := hid (own_more ho HB3.out.size)
  clear b3 ho
  go_wp2
  go_ret2
  exact ⟨_, _, _, rfl, HO.out, HB4.out⟩
theorem collectAny (n : Int) (A : Option Addr) (m c : Nat) (xs : List Int) (w : World) (hs : Sl w A m c (xs.map (Value.int .i64))) (H : ¬ SetsP n xs) :
    Calls Tryd.prog 64 #[.int .i64 n, .slice A m c] w fun e w' => (∃ G : Nat, e = .returned (.tuple #[.agg #[.int .i64 n, .int .u64 G], .bool false])) ∧ Below w.heap.size w w' := by
  have hmm := hs.len_le
  have hl := hs.numlen
  by_cases hc : n < 1 ∨ 6 < n ∨ 64 < m
  · exact collectNo n A m c w hmm hc
  · obtain ⟨k, rfl⟩ := Int.eq_ofNat_of_zero_le (show 0 ≤ n by omega)
    have e := collectF k A m c xs w (by omega) (by omega) (by omega) hs
    cases hok : setsOk k xs with
    | true => exact absurd (sets_split (by omega) (by omega) (by omega) hok) H
    | false =>
      rw [hok] at e
      exact e.mono fun _ _ h => ⟨⟨h.1.choose, h.1.choose_spec.1⟩, h.2⟩
set_option maxRecDepth 100000 in
set_option maxHeartbeats 2000000 in
theorem closeNo (n : Int) (A : Option Addr) (m c : Nat) (xs : List Int) (w : World) (hs : Sl w A m c (xs.map (Value.int .i64))) (H : ¬ SetsP n xs) :
    Calls Tryd.prog 21 #[.int .i64 n, .slice A m c] w fun e w' => e = .returned (.tuple #[.slice none 0 0, .int .i64 2]) ∧ Below w.heap.size w w' := by
  have HC := hid (collectAny n A m c xs w hs H)
  clear hs H
  go_enter Tryd.func21, Tryd.ntmps21
  go_wp2_with fail
  refine (HC.out).mono ?_; rintro e w1 ⟨⟨G, rfl⟩, b1⟩
  have HB1 := hid b1
  clear b1
  go_wp2
  go_ret2
  exact ⟨rfl, HB1.out.alloc HB1.out.size _⟩

/-- A function value that tells q of a family and its sets. -/
structure TellsG (w : World) (g : Nat) (lb : Array Value) (n F N : Nat) (q : Nat → Bool) : Prop where
  ent : ∀ args W, (callFunc g args).run Tryd.prog W = .ok (.enter g args) W
  run : ∀ s : Nat, s < N → ∀ W, Below w.heap.size w W → Calls Tryd.prog g (#[.agg #[.int .i64 n, .int .u64 F], .int .i64 (s : Int)] ++ lb) W fun e W' => e = .returned (.bool (q s)) ∧ Below W.heap.size W W'
theorem TellsG.below {w w' : World} {g : Nat} {lb : Array Value} {n F N : Nat} {q : Nat → Bool} (h : TellsG w g lb n F N q) (hb : Below w.heap.size w w') : TellsG w' g lb n F N q :=
  ⟨h.ent, fun s hs W hW => h.run s hs W (hb.trans (hW.mono hb.size))⟩
theorem bitV_z {d y : Nat} (h : d.testBit y = false) : (bitV (d : Int) (y : Int) == 0) = true := by rw [bitV_nat, h]; rfl
theorem bitV_nz {d y : Nat} (h : d.testBit y = true) : (bitV (d : Int) (y : Int) == 0) = false := by rw [bitV_nat, h]; rfl
set_option maxRecDepth 100000 in
set_option maxHeartbeats 2000000 in
theorem part1F (bx bg bf g : Nat) (lb : Array Value) (n F N x s : Nat) (q : Nat → Bool) (w : World) (hs : s < N) (hx : x ≤ 5) (Bx : Blk w bx 3 #[.int .i64 x]) (Bg : Blk w bg 82 #[.func (.func g) #[] lb]) (Bf : Blk w bf 72 #[.int .i64 n, .int .u64 F]) (hg : TellsG w g lb n F N q) :
    Calls Tryd.prog 94 #[.int .i64 s, .pointer (some ⟨bx, 0, none⟩), .pointer (some ⟨bg, 0, none⟩), .pointer (some ⟨bf, 0, none⟩)] w fun e w' => e = .returned (.bool (!s.testBit x && q s)) ∧ Below w.heap.size w w' := by
  have c0 := Bx.cell 0; have d0 := Bg.cell 0; have e0 := Bf.cell 0; have e1 := Bf.cell 1
  simp only [List.getElem?_toArray, List.getElem?_cons_zero, List.getElem?_cons_succ] at c0 d0 e0 e1
  have FX : Fits (x : Int) := ⟨by omega, by omega⟩
  have HR := hid (hg.run s hs)
  have he := hg.ent
  have HB0 := hid (Below.refl w.heap.size w)
  clear hg hs Bx Bg Bf
  cases hb : s.testBit x
  · have g1 := bitV_z hb
    clear hb
    simp only [Bool.not_false, Bool.true_and]
    go_enter Tryd.func94, Tryd.ntmps94
    go_wp2_with fail
    refine (HR.out _ HB0.out).mono ?_; rintro e w1 ⟨rfl, b1⟩
    have HB1 := hid b1
    clear b1
    go_wp2
    go_ret
    exact ⟨rfl, HB1.out⟩
  · have g1 := bitV_nz hb
    clear hb
    simp only [Bool.not_true, Bool.false_and]
    go_enter Tryd.func94, Tryd.ntmps94
    go_wp2
    go_ret
    exact ⟨rfl, HB0.out⟩
set_option maxRecDepth 100000 in
set_option maxHeartbeats 2000000 in
theorem partYes (n x g : Nat) (lb : Array Value) (q : Nat → Bool) (A : Option Addr) (m c : Nat) (xs : List Int) (w : World) (hs : Sl w A m c (xs.map (Value.int .i64))) (hT : Tab w) (H : Fam n xs) (hx : x < n) (hg : TellsG w g lb n (setF xs) (2 ^ n) q) :
    Calls Tryd.prog 66 #[.int .i64 n, .slice A m c, .int .i64 x, .func (.func g) #[] lb] w fun e w' => ∃ A' c' l, e = .returned (.tuple #[.slice A' l c', .int .i64 0]) ∧ w'.ownsRow w.heap.size 3 1 (.slice A' l c') l ((famL (2 ^ n) fun s => !s.testBit x && q s).map (Value.int .i64)) ∧ Below w.heap.size w w' := by
  have h6 := H.n6n
  have HR1 := hid fun W (hb : Below w.heap.size w W) => readYes n A m c xs W (hs.below hb) (hT.below hb) H
  have HP := hid fun bx bg bf W (hb : Below w.heap.size w W) (B1 : Blk W bx 3 #[.int .i64 x]) (B2 : Blk W bg 82 #[.func (.func g) #[] lb]) (B3 : Blk W bf 72 #[.int .i64 n, .int .u64 (setF xs : Nat)]) =>
    (show TellsF W 94 #[.pointer (some ⟨bx, 0, none⟩), .pointer (some ⟨bg, 0, none⟩), .pointer (some ⟨bf, 0, none⟩)] (2 ^ n) (fun s => !s.testBit x && q s) from
      ⟨fun args W => enters Tryd.func94 (by kernel_rfl) rfl args W, fun s hs W1 hW => part1F bx bg bf g lb n (setF xs) (2 ^ n) x s q W1 hs (by omega) (B1.keep hW) (B2.keep hW) (B3.keep hW) (hg.below (hb.trans (hW.mono hb.size)))⟩)
  have HK := hid fun lb W hf => keptF n (setF xs) 94 lb (fun s => !s.testBit x && q s) W h6 hf
  have hmk : mkN (2 ^ n) (fun s => !s.testBit x && q s) < 18446744073709551616 := fam64 h6 (mkN_lt _ _)
  have HL := hid fun W (hb : Below w.heap.size w W) => listF (n : Int) (mkN (2 ^ n) (fun s => !s.testBit x && q s)) W hmk (hT.below hb)
  have hfl : famL 64 (mkN (2 ^ n) (fun s => !s.testBit x && q s)).testBit = famL (2 ^ n) (fun s => !s.testBit x && q s) := by
    rw [famL_wide (two64 h6) fun i hi => bit_lt (mkN_lt _ _) hi]
    exact famL_congr fun i hi => by rw [mkN_bit]; simp [hi]
  rw [hfl] at HL
  have q1 : decide ((x : Int) < 0) = false := decide_eq_false (by omega)
  have q2 : decide ((n : Int) ≤ x) = false := decide_eq_false (by omega)
  have q3 : decide (n ≤ x) = false := decide_eq_false (by omega)
  generalize setF xs = F at *
  generalize (fun s => !Nat.testBit s x && q s) = p at *
  generalize famL (2 ^ n) p = l at *
  generalize mkN (2 ^ n) p = MK at *
  generalize 2 ^ n = N at *
  clear hfl hmk hs hT H h6 hg hx
  go_enter Tryd.func66, Tryd.ntmps66
  go_wp2_with fail
  have HB0 := hid (((Below.refl w.heap.size w).alloc (Nat.le_refl _) (.cells #[.int .i64 x] 3)).alloc (by simp) (.cells #[.func (.func g) #[] lb] 82))
  have Bx0 := hid ((Blk.new w 3 #[.int .i64 x]).alloc (.cells #[.func (.func g) #[] lb] 82))
  have Bg0 := hid (Blk.new_at (w.alloc (.cells #[.int .i64 x] 3)) 82 #[.func (.func g) #[] lb] (n := w.heap.size + 1) (by simp))
  refine (HR1.out _ HB0.out).mono ?_; rintro e w1 ⟨rfl, b1⟩
  have HB1 := hid (below_call HB0.out b1 HB0.out.size)
  have Bx1 := hid (Bx0.out.keep b1)
  have Bg1 := hid (Bg0.out.keep b1)
  have d0 := Bx1.out.cell 0
  have lt0 := Bx1.out.lt
  simp only [List.getElem?_toArray, List.getElem?_cons_zero] at d0
  clear b1
  go_wp2_with fail
  have HB2 := hid (HB1.out.alloc HB1.out.size (.cells #[.int .i64 n, .int .u64 F] 72))
  have Bx2 := hid (Bx1.out.alloc (.cells #[.int .i64 n, .int .u64 F] 72))
  have Bg2 := hid (Bg1.out.alloc (.cells #[.int .i64 n, .int .u64 F] 72))
  have Bf2 := hid (Blk.new w1 72 #[.int .i64 n, .int .u64 F])
  refine (HK.out _ _ (HP.out _ _ _ _ HB2.out Bx2.out Bg2.out Bf2.out)).mono ?_
  rintro e w5 ⟨rfl, b5⟩
  have HB6 := hid (below_call HB2.out b5 HB2.out.size)
  clear b5
  go_wp2_with fail
  refine (HL.out _ HB6.out).mono ?_
  rintro e w6 ⟨A', c', rfl, ho, b6⟩
  have HB7 := hid (below_call HB6.out b6 HB6.out.size)
  have HO := hid (own_more ho HB6.out.size)
  clear b6 ho
  go_wp2
  go_ret2
  exact ⟨_, _, _, rfl, HO.out, HB7.out⟩
set_option maxRecDepth 100000 in
set_option maxHeartbeats 2000000 in
theorem partNo (n x : Int) (g : Nat) (lb : Array Value) (A : Option Addr) (m c : Nat) (xs : List Int) (w : World) (hs : Sl w A m c (xs.map (Value.int .i64))) (hT : Tab w) (H : ¬ (Fam n xs ∧ 0 ≤ x ∧ x < n)) :
    Calls Tryd.prog 66 #[.int .i64 n, .slice A m c, .int .i64 x, .func (.func g) #[] lb] w fun e w' => e = .returned (.tuple #[.slice none 0 0, .int .i64 2]) ∧ Below w.heap.size w w' := by
  have HR1 := hid fun W (hb : Below w.heap.size w W) => readAny n A m c xs W (hs.below hb) (hT.below hb)
  have HN := hid H
  clear hs hT H
  go_enter Tryd.func66, Tryd.ntmps66
  go_wp2_with fail
  have HB0 := hid (((Below.refl w.heap.size w).alloc (Nat.le_refl _) (.cells #[.int .i64 x] 3)).alloc (by simp) (.cells #[.func (.func g) #[] lb] 82))
  have Bx0 := hid ((Blk.new w 3 #[.int .i64 x]).alloc (.cells #[.func (.func g) #[] lb] 82))
  refine (HR1.out _ HB0.out).mono ?_; rintro e w1 ⟨⟨G, b, rfl, hF⟩, b1⟩
  have HB1 := hid (below_call HB0.out b1 HB0.out.size)
  have Bx1 := hid (Bx0.out.keep b1)
  have HF := hid hF
  have d0 := Bx1.out.cell 0
  have lt0 := Bx1.out.lt
  simp only [List.getElem?_toArray, List.getElem?_cons_zero] at d0
  clear b1 hF
  have HB2 := hid (HB1.out.alloc HB1.out.size (.cells #[.int .i64 n, .int .u64 G] 72))
  cases b
  · go_wp2
    go_ret2
    exact ⟨rfl, HB2.out⟩
  · by_cases h0 : x < 0
    · have q1 : decide (x < 0) = true := decide_eq_true h0
      go_wp2
      go_ret2
      exact ⟨rfl, HB2.out⟩
    · have q1 : decide (x < 0) = false := decide_eq_false h0
      have q2 : decide (n ≤ x) = true := decide_eq_true (by have := HN.out; have h1 := HF.out rfl; by_cases h : x < n; exact absurd ⟨h1, by omega, h⟩ this; omega)
      go_wp2
      go_ret2
      exact ⟨rfl, HB2.out⟩
set_option maxRecDepth 100000 in
set_option maxHeartbeats 2000000 in
theorem link1F (bx n x F s : Nat) (w : World) (hF : F < 18446744073709551616) (hs : s < 64) (hx : x ≤ 5) (Bx : Blk w bx 3 #[.int .i64 x]) :
    Calls Tryd.prog 67 #[.agg #[.int .i64 n, .int .u64 F], .int .i64 s, .pointer (some ⟨bx, 0, none⟩)] w fun e w' => e = .returned (.bool (F.testBit (ad s x))) ∧ Below w.heap.size w w' := by
  have c0 := Bx.cell 0
  have lt0 := Bx.lt
  simp only [List.getElem?_toArray, List.getElem?_cons_zero] at c0
  have FX : Fits (x : Int) := ⟨by omega, by omega⟩
  have OX : OrI s (x : Int) := ⟨by omega, by omega, by omega⟩
  have had : ad s x < 64 := or_lt (k := 6) hs (by omega)
  have H1 := hid fun W => hasF n F (ad s x : Nat) W ⟨hF, by omega, by omega⟩
  simp only [Int.toNat_natCast] at H1
  have e5 : ((x : Int)).toNat = x := Int.toNat_natCast x
  have HB0 := hid ((Below.refl w.heap.size w).alloc (Nat.le_refl _) (.cells #[.int .i64 n, .int .u64 F] 72))
  have b0 := Blk.new w 72 #[.int .i64 n, .int .u64 F]
  have b1 := Bx.alloc (.cells #[.int .i64 n, .int .u64 F] 72)
  clear hs hx Bx had c0 lt0
  go_enter Tryd.func67, Tryd.ntmps67
  go_wp2_with fail
  refine at_world fun W hW => ?_
  rw [← hW] at b0 b1 HB0
  have c0 := b0.cell 0; have c1 := b0.cell 1; have d0 := b1.cell 0
  simp only [List.getElem?_toArray, List.getElem?_cons_zero, List.getElem?_cons_succ] at c0 c1 d0
  have k0 : W.drew.cell? ⟨w.heap.size, 0, none⟩ = some (.int .i64 n) := c0
  have k1 : W.drew.cell? ⟨w.heap.size, 1, none⟩ = some (.int .u64 F) := c1
  have k2 : W.drew.cell? ⟨bx, 0, none⟩ = some (.int .i64 x) := d0
  clear hW b0 b1
  go_region_held3 (fun w' => w'.cell? ⟨w.heap.size, 0, none⟩ = some (.int .i64 n) ∧ w'.cell? ⟨w.heap.size, 1, none⟩ = some (.int .u64 F) ∧ w'.cell? ⟨bx, 0, none⟩ = some (.int .i64 x)) (first | assumption | go_keep)
    ((go_at_call 60; refine (H1.out _).mono ?_; rintro e w1 ⟨rfl, b1⟩; have hk1 : w1.cell? ⟨w.heap.size, 0, none⟩ = some (.int .i64 n) ∧ w1.cell? ⟨w.heap.size, 1, none⟩ = some (.int .u64 F) ∧ w1.cell? ⟨bx, 0, none⟩ = some (.int .i64 x) := ⟨cell_keep b1 k0, cell_keep b1 k1, cell_keep b1 k2⟩; have HB1 := hid (below_call HB0.out.drew b1 HB0.out.drew.size); clear b1))
  go_wp2
  go_ret
  exact ⟨rfl, HB1.out⟩
set_option maxRecDepth 100000 in
set_option maxHeartbeats 2000000 in
theorem linkNo (n x : Int) (A : Option Addr) (m c : Nat) (xs : List Int) (w : World) (hs : Sl w A m c (xs.map (Value.int .i64))) (hT : Tab w) (H : ¬ (Fam n xs ∧ 0 ≤ x ∧ x < n)) :
    Calls Tryd.prog 22 #[.int .i64 n, .slice A m c, .int .i64 x] w fun e w' => e = .returned (.tuple #[.slice none 0 0, .int .i64 2]) ∧ Below w.heap.size w w' := by
  have HB0 := hid ((Below.refl w.heap.size w).alloc (Nat.le_refl _) (.cells #[.int .i64 x] 3))
  have HP := hid (partNo n x 67 #[.pointer (some ⟨w.heap.size, 0, none⟩)] A m c xs (w.alloc (.cells #[.int .i64 x] 3)) (hs.below HB0.out) (hT.below HB0.out) H)
  clear hs hT H
  go_enter Tryd.func22, Tryd.ntmps22
  go_wp2_with fail
  refine (HP.out).mono ?_; rintro e w1 ⟨rfl, b1⟩
  have HB1 := hid (below_call HB0.out b1 HB0.out.size)
  clear b1
  go_wp2
  go_ret2
  exact ⟨rfl, HB1.out⟩
set_option maxRecDepth 100000 in
set_option maxHeartbeats 2000000 in
theorem withoutNo (n x : Int) (A : Option Addr) (m c : Nat) (xs : List Int) (w : World) (hs : Sl w A m c (xs.map (Value.int .i64))) (hT : Tab w) (H : ¬ (Fam n xs ∧ 0 ≤ x ∧ x < n)) :
    Calls Tryd.prog 23 #[.int .i64 n, .slice A m c, .int .i64 x] w fun e w' => e = .returned (.tuple #[.slice none 0 0, .int .i64 2]) ∧ Below w.heap.size w w' := by
  have HP := hid (partNo n x 60 #[] A m c xs w hs hT H)
  clear hs hT H
  go_enter Tryd.func23, Tryd.ntmps23
  go_wp2_with fail
  refine (HP.out).mono ?_; rintro e w1 ⟨rfl, b1⟩
  have HB1 := hid b1
  clear b1
  go_wp2
  go_ret2
  exact ⟨rfl, HB1.out⟩
set_option maxRecDepth 100000 in
set_option maxHeartbeats 2000000 in
theorem withoutYes (n x : Nat) (A : Option Addr) (m c : Nat) (xs : List Int) (w : World) (hs : Sl w A m c (xs.map (Value.int .i64))) (hT : Tab w) (H : Fam n xs) (hx : x < n) :
    Calls Tryd.prog 23 #[.int .i64 n, .slice A m c, .int .i64 x] w fun e w' => ∃ A' c' l, e = .returned (.tuple #[.slice A' l c', .int .i64 0]) ∧ w'.ownsRow w.heap.size 3 1 (.slice A' l c') l ((famL (2 ^ n) (outP x (setF xs))).map (Value.int .i64)) ∧ Below w.heap.size w w' := by
  have h6 := H.n6n
  have h64 := two6 h6
  have hF := fam64 h6 H.lt
  have HP := hid (partYes n x 60 #[] (setF xs).testBit A m c xs w hs hT H hx ⟨fun args W => enters Tryd.func60 (by kernel_rfl) rfl args W, fun s hs W hW => by
    have := hasF n (setF xs) (s : Nat) W ⟨hF, by omega, by omega⟩
    simpa using this⟩)
  rw [show (fun s => !Nat.testBit s x && (setF xs).testBit s) = outP x (setF xs) from rfl] at HP
  generalize famL (2 ^ n) (outP x (setF xs)) = l at *
  clear hs hT H h6 h64 hF hx
  go_enter Tryd.func23, Tryd.ntmps23
  go_wp2_with fail
  refine (HP.out).mono ?_; rintro e w1 ⟨A', c', l', rfl, ho, b1⟩
  have HB1 := hid b1
  have HO := hid ho
  clear b1 ho
  go_wp2
  go_ret2
  exact ⟨_, _, _, rfl, HO.out, HB1.out⟩
set_option maxRecDepth 100000 in
set_option maxHeartbeats 2000000 in
theorem linkYes (n x : Nat) (A : Option Addr) (m c : Nat) (xs : List Int) (w : World) (hs : Sl w A m c (xs.map (Value.int .i64))) (hT : Tab w) (H : Fam n xs) (hx : x < n) :
    Calls Tryd.prog 22 #[.int .i64 n, .slice A m c, .int .i64 x] w fun e w' => ∃ A' c' l, e = .returned (.tuple #[.slice A' l c', .int .i64 0]) ∧ w'.ownsRow w.heap.size 3 1 (.slice A' l c') l ((famL (2 ^ n) (linkP x (setF xs))).map (Value.int .i64)) ∧ Below w.heap.size w w' := by
  have h6 := H.n6n
  have h64 := two6 h6
  have hF := fam64 h6 H.lt
  have HB0 := hid ((Below.refl w.heap.size w).alloc (Nat.le_refl _) (.cells #[.int .i64 x] 3))
  have Bx := Blk.new w 3 #[.int .i64 x]
  have HP := hid (partYes n x 67 #[.pointer (some ⟨w.heap.size, 0, none⟩)] (fun s => (setF xs).testBit (ad s x)) A m c xs (w.alloc (.cells #[.int .i64 x] 3)) (hs.below HB0.out) (hT.below HB0.out) H hx ⟨fun args W => enters Tryd.func67 (by kernel_rfl) rfl args W, fun s hs W hW => link1F w.heap.size n x (setF xs) s W hF (by omega) (by omega) (Bx.keep hW)⟩)
  rw [show (fun s => !Nat.testBit s x && (setF xs).testBit (ad s x)) = linkP x (setF xs) from rfl] at HP
  generalize famL (2 ^ n) (linkP x (setF xs)) = l at *
  clear hs hT H h6 h64 hF hx Bx
  go_enter Tryd.func22, Tryd.ntmps22
  go_wp2_with fail
  refine (HP.out).mono ?_; rintro e w1 ⟨A', c', l', rfl, ho, b1⟩
  have HB1 := hid (below_call HB0.out b1 HB0.out.size)
  have HO := hid (own_more ho HB0.out.size)
  clear b1 ho
  go_wp2
  go_ret2
  exact ⟨_, _, _, rfl, HO.out, HB1.out⟩
end Go.Proofs.YtjddbglbodkihaaDoor
