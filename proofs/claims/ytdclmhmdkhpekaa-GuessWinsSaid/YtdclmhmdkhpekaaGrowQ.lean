/- Walk of ask's closure: the first good question, number by number. Conditions: the boxes hold what ask laid into them. -/
import Derived.Test.YtdclmhmdkhpekaaWin
import Derived.Test.YtdclmhmdkhpekaaAfter
import Derived.Deep.RegionHeld3
namespace Go.Proofs.Ytdclmhmdkhpekaa
open Go.RowKit Go.Maps

/-- Only blocks of which R holds have turned, and new ones. -/
structure Chg (R : Nat → Prop) (w w' : World) : Prop where
  os : w'.os = w.os
  tape : w'.tape = w.tape
  output : w'.output = w.output
  size : w.heap.size ≤ w'.heap.size
  block : ∀ k, k < w.heap.size → ¬ R k → w'.heap[k]? = w.heap[k]?
section
variable {R : Nat → Prop} {a b c : World}
theorem Chg.refl (R : Nat → Prop) (w : World) : Chg R w w := ⟨rfl, rfl, rfl, Nat.le_refl _, fun _ _ _ => rfl⟩
theorem Chg.trans (h : Chg R a b) (k : Chg R b c) : Chg R a c :=
  ⟨k.os.trans h.os, k.tape.trans h.tape, k.output.trans h.output, Nat.le_trans h.size k.size, fun i hi hr => (k.block i (by have := h.size; omega) hr).trans (h.block i hi hr)⟩
theorem Chg.of_grow {r : Option Nat} (h : a.grownBy b r) (hr : ∀ k, r = some k → R k) : Chg R a b :=
  ⟨h.os, h.tape, h.output, h.size, fun i hi hn => h.block i hi (fun e => hn (hr i e.symm))⟩
theorem Chg.of_below (h : Below a.heap.size a b) : Chg R a b := ⟨h.os, h.tape, h.output, h.size, fun i hi _ => h.block i hi⟩
theorem Chg.set (h : Chg R a b) {p : Addr} (hp : R p.block) (u : Value) : Chg R a (b.setCell p u) :=
  ⟨h.os, h.tape, h.output, by have := h.size; simpa using this, fun i hi hr => (Below.heap_setCell b p u i (fun e => hr (e ▸ hp))).trans (h.block i hi hr)⟩
end
theorem own_set {w : World} {base : Nat} {e : TypeId} {size n : Nat} {v : Value} {xs : List Value} (h : w.ownsRow base e size v n xs) {p : Addr} (hp : p.block < base) (u : Value) : (w.setCell p u).ownsRow base e size v n xs :=
  h.kept (row := some p.block) ⟨rfl, rfl, rfl, by simp, fun k _ hk => Below.heap_setCell w p u k (fun e => hk (by rw [e]))⟩ (by
    cases hv : v.ownBlock with
    | none => exact .inl rfl
    | some g => exact .inr (fun e => by have := (h.lt g hv).1; cases e; omega))
theorem own_grown {w w' : World} {base M : Nat} {e : TypeId} {size n : Nat} {v : Value} {xs : List Value} (h : w.ownsRow base e size v n xs) (hg : w.grownBy w' (some M)) (hM : M < base) : w'.ownsRow base e size v n xs :=
  h.kept hg (by
    cases hv : v.ownBlock with
    | none => exact .inl rfl
    | some g => exact .inr (fun e => by have := (h.lt g hv).1; cases e; omega))
theorem own_shrink {w : World} {base : Nat} {e : TypeId} {n c k : Nat} {A : Option Addr} {xs : List Value} (h : w.ownsRow base e 1 (.slice A n c) n xs) (hk : k ≤ n) (h0 : 0 < n) : w.ownsRow base e 1 (.slice A k c) k (xs.take k) := by
  have hl := h.1
  rcases h.2 with ⟨hv, hn⟩ | ⟨g, cap, cur, hv, hb, hg, hc, hm, hs, ht⟩
  · omega
  · simp at hv
    obtain ⟨rfl, rfl⟩ := hv
    refine ⟨by simp; omega, .inr ⟨g, c, cur, rfl, hb, hg, by omega, hm, hs, ?_⟩⟩
    rw [← ht, Nat.mul_one, Nat.mul_one, List.take_take, Nat.min_eq_left hk]
section
variable {P : Program} {ops : Array Oper} {Q : Exit → Act → World → Prop} {md : Region.Mode} {S : World → Prop}
/-- An operation taken first, its temporary named. -/
theorem takeD {i : Nat} {oi : Oper} {v : Value} {fuel : Nat} {listed : Array Bool} {a : Act} {w : World} (d : Option Tmp) (hi : ops[i]? = some oi) (hd : oi.dst = d)
    (hs : Region.noSelect ops = true) (hf : Region.free md ops listed i = true) (hr : (Region.ready md ops listed).contains i = true)
    (hQ : ∀ c a w, Q (.panic c) (a.put d v) w → Q (.panic c) a w) (hy : YieldsIf P ops S oi v a) (hS : S w)
    (h : wpAnyH P md ops Q S fuel (listed.setIfInBounds i true) (a.put d v) w) : wpAnyH P md ops Q S (fuel + 1) listed a w := by
  subst hd
  exact wpAnyH_take hi hs hf hr hQ hy hS h
end

/-- What ask laid into its boxes. -/
structure Boxes (W : World) (bq bs bk bv bg vb M : Nat) (A : Option Addr) (n c : Nat) (xs : List Int) (q : Nat) : Prop where
  v : Blk W bv 80 #[.pointer (some ⟨vb, 0, none⟩)]
  s : Blk W bs 79 #[.slice A n c]
  k : Blk W bk 3 #[.int .i64 ((q : Int) + 1)]
  g : Blk W bg 26 #[.func (.func 95) #[] #[.pointer (some ⟨bq, 0, none⟩), .pointer (some ⟨bs, 0, none⟩), .pointer (some ⟨bk, 0, none⟩), .pointer (some ⟨bv, 0, none⟩), .pointer (some ⟨bg, 0, none⟩)]]
  iv : Iv W vb M A n c xs
/-- Where the boxes lie. -/
structure Order (bq bs bk bv bg vb M base n : Nat) (A : Option Addr) : Prop where
  o1 : vb < bv
  o2 : M < bv
  o3 : bv < bs
  o4 : bs < bk
  o5 : bk < bq
  o6 : bq < bg
  o7 : bg < base
  oA : 0 < n → ∀ b o s, A = some ⟨b, o, s⟩ → b < bv
def Rq (bq M base : Nat) : Nat → Prop := fun k => k = bq ∨ k = M ∨ base ≤ k
section
variable {W w' : World} {bq bs bk bv bg vb M base : Nat} {A : Option Addr} {n c : Nat} {xs : List Int} {q : Nat}
theorem Boxes.chg (h : Boxes W bq bs bk bv bg vb M A n c xs q) (O : Order bq bs bk bv bg vb M base n A) (hc : Chg (Rq bq M base) W w') (hm : Memo Try.prog 112 w' M OKw) : Boxes w' bq bs bk bv bg vb M A n c xs q := by
  have hb : ∀ (b : Nat) (t : TypeId) (cs : Array Value), Blk W b t cs → b < base → b ≠ bq → b ≠ M → Blk w' b t cs := fun b t cs hB h1 h2 h3 =>
    (hc.block b hB.lt (by unfold Rq; omega)).trans hB
  have := O.o1; have := O.o2; have := O.o3; have := O.o4; have := O.o5; have := O.o6; have := O.o7
  have hvM := h.iv.ne
  refine ⟨hb _ _ _ h.v (by omega) (by omega) (by omega), hb _ _ _ h.s (by omega) (by omega) (by omega), hb _ _ _ h.k (by omega) (by omega) (by omega), hb _ _ _ h.g (by omega) (by omega) (by omega), hb _ _ _ h.iv.blk (by omega) (by omega) hvM, hm, h.iv.sl.len, h.iv.sl.cap, h.iv.sl.capm, fun hn => ?_⟩
  obtain ⟨b, o, e, hlt, hcs⟩ := h.iv.sl.pos hn
  have hA := O.oA hn _ _ _ e
  refine ⟨b, o, e, Nat.lt_of_lt_of_le hlt hc.size, fun j u hu => ?_⟩
  have h1 := hcs j u hu
  have hne := h.iv.memo.ne_cell h1
  exact (World.cell?_of_block (a := ⟨b, o + j, none⟩) (hc.block b hlt (by unfold Rq; simp only at hne; omega))).trans h1
end
def resQ (good : List Int → Bool) (xs pre : List Int) : List Int := (firstQ good (xs.drop pre.length) pre).getD pre
def GrowTo (bq bs bk bv bg vb M base : Nat) (A : Option Addr) (n c : Nat) (xs : List Int) (q r : Nat) : Prop :=
  ∀ (pre : List Int) (W : World) (qv : Value), pre.length + r = n → (∀ j, j < pre.length → 0 ≤ at0 pre j ∧ at0 pre j ≤ at0 xs j) → Boxes W bq bs bk bv bg vb M A n c xs q → Blk W bq 79 #[qv] → W.ownsRow base 3 1 qv pre.length (pre.map (Value.int .i64)) → base ≤ W.heap.size →
    Calls Try.prog 95 #[.pointer (some ⟨bq, 0, none⟩), .pointer (some ⟨bs, 0, none⟩), .pointer (some ⟨bk, 0, none⟩), .pointer (some ⟨bv, 0, none⟩), .pointer (some ⟨bg, 0, none⟩)] W fun e w' =>
      e = .returned (.bool (firstQ (goodQ (winS q) q xs) (xs.drop pre.length) pre).isSome) ∧ Chg (Rq bq M base) W w' ∧ Memo Try.prog 112 w' M OKw ∧
      ∃ qv', Blk w' bq 79 #[qv'] ∧ w'.ownsRow base 3 1 qv' (resQ (goodQ (winS q) q xs) xs pre).length ((resQ (goodQ (winS q) q xs) xs pre).map (Value.int .i64))

attribute [local go_sem ↓] shl_p2

theorem below_drew1 {B : Nat} {a w : World} (h : Below B a w) : Below B a w.drew := ⟨h.os, h.tape, h.output, h.size, h.block⟩
theorem Chg.drew1 {R : Nat → Prop} {a w : World} (h : Chg R a w) : Chg R a w.drew := ⟨h.os, h.tape, h.output, h.size, h.block⟩

set_option maxRecDepth 100000 in
set_option maxHeartbeats 4000000 in
theorem growZero (bq bs bk bv bg vb M base : Nat) (A : Option Addr) (n c : Nat) (xs : List Int) (q : Nat) (hq : q ≤ 50) (O : Order bq bs bk bv bg vb M base n A) (HP : Plays xs) (HW : WinTo q) : GrowTo bq bs bk bv bg vb M base A n c xs q 0 := by
  intro pre W qv hl hpre hB hbq hown hbase
  rw [Nat.add_zero] at hl
  have hxl := hB.iv.sl.numlen
  have hd : xs.drop pre.length = [] := List.drop_eq_nil_of_le (by omega)
  have hE : firstQ (goodQ (winS q) q xs) (xs.drop pre.length) pre = if goodQ (winS q) q xs pre = true then some pre else none := by rw [hd]; rfl
  have hR : resQ (goodQ (winS q) q xs) xs pre = pre := by unfold resQ; rw [hE]; split <;> rfl
  have hS : (firstQ (goodQ (winS q) q xs) (xs.drop pre.length) pre).isSome = goodQ (winS q) q xs pre := by
    rw [hE]; cases goodQ (winS q) q xs pre <;> rfl
  rw [hR, hS]
  have hok : askOk xs pre = true := askOk_iff.2 ⟨by omega, hpre⟩
  rw [hl] at hown ⊢
  obtain ⟨Aq, cq, rfl⟩ := own_form hown
  have hn4 : n ≤ 4 := by have := HP.nn.hi; omega
  have hn1 : 1 ≤ n := by have := HP.nn.lo; omega
  have FQ : Fits (q : Int) := ⟨by omega, by omega⟩
  -- the two states behind
  have pa : ∀ yes, Plays (after yes xs pre) := fun yes => ⟨HP.nn.after hok yes, by rw [total_after HP.nn.lo]; have := HP.sum; have := inA_nonneg (yes := !yes) hok (j := xs.length - 1) (by have := HP.nn.lo; omega); omega⟩
  have HAt := hid fun W' A' n' c' c2 (h1 : Sl W' A' n c' (xs.map (Value.int .i64))) (h2 : Sl W' n' n c2 (pre.map (Value.int .i64))) => progAfter A' n' n c' c2 xs pre true 1000 (by omega) (by omega) hn1 hn4 HP.bd hok W' h1 h2
  have HAf := hid fun W' A' n' c' c2 (h1 : Sl W' A' n c' (xs.map (Value.int .i64))) (h2 : Sl W' n' n c2 (pre.map (Value.int .i64))) => progAfter A' n' n c' c2 xs pre false 1000 (by omega) (by omega) hn1 hn4 HP.bd hok W' h1 h2
  have Pt := pa true
  have Pf := pa false
  have hG : goodQ (winS q) q xs pre = (decide (weight (after true xs pre) q ≤ p2 q) && decide (weight (after false xs pre) q ≤ p2 q) && winS q (after true xs pre) && winS q (after false xs pre)) := rfl
  rw [hG]
  generalize after true xs pre = ya at *
  generalize after false xs pre = yb at *
  generalize hgv : (decide (weight ya q ≤ p2 q) && decide (weight yb q ≤ p2 q) && winS q ya && winS q yb) = gv
  have HGV := hid hgv
  clear hgv
  have zs := hB.s.cell 0; have zq := hbq.cell 0; have zk := hB.k.cell 0; have zv := hB.v.cell 0
  simp at zs zq zk zv
  have h2 : ((n : Int) == (n : Int)) = true := by simp
  have ls := hB.s.lt; have lq := hbq.lt; have lk := hB.k.lt; have lv := hB.v.lt
  have HC := hid (show ∀ W', Below W.heap.size W W' → W'.cell? ⟨bs, 0, none⟩ = some (.slice A n c) ∧ W'.cell? ⟨bq, 0, none⟩ = some (.slice Aq n cq) ∧ W'.cell? ⟨bk, 0, none⟩ = some (.int .i64 ((q : Int) + 1)) ∧ W'.cell? ⟨bv, 0, none⟩ = some (.pointer (some ⟨vb, 0, none⟩)) from fun W' hb =>
    ⟨(hb.cell (p := ⟨bs, 0, none⟩) ls).trans zs, (hb.cell (p := ⟨bq, 0, none⟩) lq).trans zq, (hb.cell (p := ⟨bk, 0, none⟩) lk).trans zk, (hb.cell (p := ⟨bv, 0, none⟩) lv).trans zv⟩)
  have HSX := hid hB.iv.sl
  have HSP := hid (Sl.of_own hown)
  have HIV := hid hB.iv
  have HBQ := hid hbq
  have HOW := hid hown
  have HO := hid O
  clear hE hR hS hd hl hpre hB hbq hown hok pa hG zk zv ls lq lk lv h2
  go_enter Try.func95, Try.ntmps95
  go_wp2_with fail
  have Bd := hid (below_drew1 (Below.refl W.heap.size W))
  go_region_held3 (fun w' => w'.cell? ⟨bs, 0, none⟩ = some (.slice A n c) ∧ w'.cell? ⟨bq, 0, none⟩ = some (.slice Aq n cq)) (first | assumption | go_keep)
    ((first
      | (have _h := Q2.out
         go_at_call 63
         refine (HAf.out _ _ _ _ _ (HSX.out.below Q2.out) (HSP.out.below Q2.out)).mono ?_
         rintro e w3 ⟨Ab, cb, rfl, ob, b3⟩
         have Q3 := hid (below_call Q2.out b3 Q2.out.size)
         have k3 : w3.cell? ⟨bs, 0, none⟩ = some (.slice A n c) ∧ w3.cell? ⟨bq, 0, none⟩ = some (.slice Aq n cq) := ⟨(HC.out w3 Q3.out).1, (HC.out w3 Q3.out).2.1⟩
         have SA3 := hid (SA.out.below b3)
         have SB3 := hid (Sl.of_own ob)
         clear ob b3)
      | (go_at_call 63
         refine (HAt.out _ _ _ _ _ (HSX.out.below Bd.out) (HSP.out.below Bd.out)).mono ?_
         rintro e w2 ⟨Aa, ca, rfl, oa, b2⟩
         have Q2 := hid (below_call Bd.out b2 Bd.out.size)
         have k2 : w2.cell? ⟨bs, 0, none⟩ = some (.slice A n c) ∧ w2.cell? ⟨bq, 0, none⟩ = some (.slice Aq n cq) := ⟨(HC.out w2 Q2.out).1, (HC.out w2 Q2.out).2.1⟩
         have SA := hid (Sl.of_own oa)
         clear oa b2)))
  clear zs zq k2 k3 SA Q2 Bd HAt HAf
  have zk := (HC.out w3 Q3.out).2.2.1
  have zv := (HC.out w3 Q3.out).2.2.2
  have hs1 : IntKind.i64.wrap ((q : Int) + 1 - 1) = (q : Int) := by rw [IntKind.wrap_i64]; omega
  have hs2 : IntKind.i64.wrap (q : Int) = (q : Int) := by rw [IntKind.wrap_i64]; omega
  have HWa := hid fun m => progWeight Aa n ca ya q (by omega) (by omega) hn4 Pt.bd (w3.drewN m) (SA3.out.drewN m)
  have HWb := hid fun m => progWeight Ab n cb yb q (by omega) (by omega) hn4 Pf.bd (w3.drewN m) (SB3.out.drewN m)
  have HChg := hid (show ∀ w', w3.grownBy w' (some M) → Chg (Rq bq M base) W w' from fun w' hg => (Chg.of_below Q3.out).trans (Chg.of_grow hg (fun k hk => by cases hk; exact .inr (.inl rfl))))
  have HIV3 := hid (HIV.out.below Q3.out)
  have HM3 := hid HIV3.out.memo
  have HEnd := hid (show ∀ w', w3.grownBy w' (some M) → ∃ qv', Blk w' bq 79 #[qv'] ∧ w'.ownsRow base 3 1 qv' n (pre.map (Value.int .i64)) from fun w' hg => by
    have o2 := HO.out.o2; have o3 := HO.out.o3; have o4 := HO.out.o4; have o5 := HO.out.o5; have o6 := HO.out.o6; have o7 := HO.out.o7
    exact ⟨_, (HBQ.out.keep Q3.out).grown hg (by simp; omega), own_grown (own_below HOW.out Q3.out) hg (by omega)⟩)
  have HGd := hid (grow_below (below_drew1 (Below.refl w3.heap.size w3)) (r := some M))
  have HWa1 := hid (progWeight Aa n ca ya q (by omega) (by omega) hn4 Pt.bd w3.drew SA3.out.drew)
  have HWb1 := hid (progWeight Ab n cb yb q (by omega) (by omega) hn4 Pf.bd w3.drew SB3.out.drew)
  have hivA : Iv w3.drew vb M Aa n ca ya := ⟨HIV3.out.blk.drew, HIV3.out.memo.drew, SA3.out.drew⟩
  have hivB : Iv w3.drew vb M Ab n cb yb := ⟨HIV3.out.blk.drew, HIV3.out.memo.drew, SB3.out.drew⟩
  have HWa2 := hid (HW vb M Aa n ca ya w3.drew Pt hivA)
  have HIVb := hid fun w' (hg : w3.drew.grownBy w' (some M)) hm => hivB.grown hg hm
  have HWb2 := hid fun w' (hi : Iv w' vb M Ab n cb yb) => HW vb M Ab n cb yb w' Pf hi
  have HKV := hid (show ∀ w', w3.drew.grownBy w' (some M) → w'.cell? ⟨bk, 0, none⟩ = some (.int .i64 ((q : Int) + 1)) ∧ w'.cell? ⟨bv, 0, none⟩ = some (.pointer (some ⟨vb, 0, none⟩)) from fun w' hg => by
    have o2 := HO.out.o2; have o3 := HO.out.o3; have o4 := HO.out.o4
    exact ⟨(World.cell?_of_block (a := ⟨bk, 0, none⟩) (hg.block bk (World.block_lt_of_cell? w3 ⟨bk, 0, none⟩ zk) (by simp; omega))).trans zk, (World.cell?_of_block (a := ⟨bv, 0, none⟩) (hg.block bv (World.block_lt_of_cell? w3 ⟨bv, 0, none⟩ zv) (by simp; omega))).trans zv⟩)
  have FQ2 : Fits ((q : Int) + 1 - 1) := by have : (q : Int) + 1 - 1 = q := by omega
                                            rw [this]; exact FQ
  clear hivA hivB HIV HIV3 HBQ HOW HSX HSP HC Pt Pf HP
  by_cases c1 : weight ya q ≤ p2 q
  case neg =>
    have d1 : decide (weight ya q ≤ p2 q) = false := decide_eq_false c1
    have HZ := hid (show gv = false by rw [← HGV.out, d1]; rfl)
    clear c1
    go_wp2_with fail
    go_quiet ((go_at_call 64; with_reducible exact quiet_same (HWa.out _)))
    go_wp2
    go_ret
    have hg := grow_below (below_drewN (Below.refl w3.heap.size w3) nq) (r := some M)
    exact ⟨ret_b HZ.out, HChg.out _ hg, HM3.out, HEnd.out _ hg⟩
  case pos =>
  have d1 : decide (weight ya q ≤ p2 q) = true := decide_eq_true c1
  by_cases c2 : weight yb q ≤ p2 q
  case neg =>
    have d2 : decide (weight yb q ≤ p2 q) = false := decide_eq_false c2
    have HZ := hid (show gv = false by rw [← HGV.out, d1, d2]; rfl)
    clear c1 c2
    go_wp2_with fail
    go_quiet ((first | (go_at_call 64; with_reducible exact quiet_same (HWa.out _)) | (go_at_call 64; with_reducible exact quiet_same (HWb.out _))))
    go_wp2
    go_ret
    have hg := grow_below (below_drewN (Below.refl w3.heap.size w3) nq) (r := some M)
    exact ⟨ret_b HZ.out, HChg.out _ hg, HM3.out, HEnd.out _ hg⟩
  case pos =>
  have d2 : decide (weight yb q ≤ p2 q) = true := decide_eq_true c2
  clear c1 c2 HWa HWb
  cases ra : winS q ya with
  | false =>
    have HZ := hid (show gv = false by rw [← HGV.out, d1, d2, ra]; rfl)
    rw [ra] at HWa2
    clear ra
    go_wp2_with fail
    refine wp_region_held_drew (S := (fun w' => w'.cell? ⟨bk, 0, none⟩ = some (.int .i64 ((q : Int) + 1)) ∧ w'.cell? ⟨bv, 0, none⟩ = some (.pointer (some ⟨vb, 0, none⟩)))) (by kernel_rfl) (by (try dsimp only); (first | assumption | go_keep)) (fun hHeld => ?_)
    refine takeD (i := 0) (v := ?_) (some 22) rfl rfl (by kernel_rfl) (by kernel_rfl) (by kernel_rfl) (fun _ _ _ h => h) (Or.inl ⟨by rfl, ?_⟩) (by assumption) ?_
    rotate_left
    · intro w hSw
      (try dsimp only at hSw)
      first
        | (go_simp; done)
        | (go_simp; with_reducible rfl)
    try simp only [Act.put, List.setIfInBounds_toArray, List.set_cons_zero, List.set_cons_succ]
    refine takeD (i := 1) (v := ?_) (some 23) rfl rfl (by kernel_rfl) (by kernel_rfl) (by kernel_rfl) (fun _ _ _ h => h) (Or.inl ⟨by rfl, ?_⟩) (by assumption) ?_
    rotate_left
    · intro w hSw
      (try dsimp only at hSw)
      first
        | (go_simp; done)
        | (go_simp; with_reducible rfl)
    try simp only [Act.put, List.setIfInBounds_toArray, List.set_cons_zero, List.set_cons_succ]
    refine takeD (i := 2) (v := ?_) (some 24) rfl rfl (by kernel_rfl) (by kernel_rfl) (by kernel_rfl) (fun _ _ _ h => h) (Or.inl ⟨by rfl, ?_⟩) (by assumption) ?_
    rotate_left
    · intro w hSw
      (try dsimp only at hSw)
      first
        | (go_simp; done)
        | (go_simp; with_reducible rfl)
    try simp only [Act.put, List.setIfInBounds_toArray, List.set_cons_zero, List.set_cons_succ]
    refine takeD (i := 4) (v := ?_) (some 26) rfl rfl (by kernel_rfl) (by kernel_rfl) (by kernel_rfl) (fun _ _ _ h => h) (Or.inl ⟨by rfl, ?_⟩) (by assumption) ?_
    rotate_left
    · intro w hSw
      (try dsimp only at hSw)
      first
        | (go_simp; done)
        | (go_simp; with_reducible rfl)
    try simp only [Act.put, List.setIfInBounds_toArray, List.set_cons_zero, List.set_cons_succ]
    refine takeD (i := 5) (v := ?_) (some 27) rfl rfl (by kernel_rfl) (by kernel_rfl) (by kernel_rfl) (fun _ _ _ h => h) (Or.inl ⟨by rfl, ?_⟩) (by assumption) ?_
    rotate_left
    · intro w hSw
      (try dsimp only at hSw)
      first
        | (go_simp; done)
        | (go_simp; with_reducible rfl)
    try simp only [Act.put, List.setIfInBounds_toArray, List.set_cons_zero, List.set_cons_succ]
    refine takeD (i := 6) (v := ?_) (some 28) rfl rfl (by kernel_rfl) (by kernel_rfl) (by kernel_rfl) (fun _ _ _ h => h) (Or.inl ⟨by rfl, ?_⟩) (by assumption) ?_
    rotate_left
    · intro w hSw
      (try dsimp only at hSw)
      first
        | (go_simp; done)
        | (go_simp; with_reducible rfl)
    try simp only [Act.put, List.setIfInBounds_toArray, List.set_cons_zero, List.set_cons_succ]
    refine wpAnyH_ready (rs := [3]) (by kernel_rfl) (by simp) ?_
    refine AllReadyH.cons rfl (fun K hK => ?_) AllReadyH.nil
    go_simp
    try rw [hs2]
    refine (HWa1.out).mono ?_; rintro e w4 ⟨rfl, rfl⟩
    refine hK.out _ _ ?_ (fun hHeld => ?_)
    · (try dsimp only)
      (first | assumption | go_keep)
    clear hK K
    try simp only [Act.put, List.setIfInBounds_toArray, List.set_cons_zero, List.set_cons_succ]
    refine takeD (i := 7) (v := ?_) (some 29) rfl rfl (by kernel_rfl) (by kernel_rfl) (by kernel_rfl) (fun _ _ _ h => h) (Or.inl ⟨by rfl, ?_⟩) (by assumption) ?_
    rotate_left
    · intro w hSw
      (try dsimp only at hSw)
      first
        | (go_simp; done)
        | (go_simp; with_reducible rfl)
    try simp only [Act.put, List.setIfInBounds_toArray, List.set_cons_zero, List.set_cons_succ]
    refine takeD (i := 8) (v := ?_) (some 30) rfl rfl (by kernel_rfl) (by kernel_rfl) (by kernel_rfl) (fun _ _ _ h => h) (Or.inl ⟨by rfl, ?_⟩) (by assumption) ?_
    rotate_left
    · intro w hSw
      (try dsimp only at hSw)
      first
        | (go_simp; done)
        | (go_simp; with_reducible rfl)
    try simp only [Act.put, List.setIfInBounds_toArray, List.set_cons_zero, List.set_cons_succ]
    refine takeD (i := 9) (v := ?_) (some 31) rfl rfl (by kernel_rfl) (by kernel_rfl) (by kernel_rfl) (fun _ _ _ h => h) (Or.inl ⟨by rfl, ?_⟩) (by assumption) ?_
    rotate_left
    · intro w hSw
      (try dsimp only at hSw)
      first
        | (go_simp; done)
        | (go_simp; with_reducible rfl)
    try simp only [Act.put, List.setIfInBounds_toArray, List.set_cons_zero, List.set_cons_succ]
    refine takeD (i := 10) (v := ?_) (some 32) rfl rfl (by kernel_rfl) (by kernel_rfl) (by kernel_rfl) (fun _ _ _ h => h) (Or.inl ⟨by rfl, ?_⟩) (by assumption) ?_
    rotate_left
    · intro w hSw
      (try dsimp only at hSw)
      first
        | (go_simp; done)
        | (go_simp; with_reducible rfl)
    try simp only [Act.put, List.setIfInBounds_toArray, List.set_cons_zero, List.set_cons_succ]
    refine takeD (i := 11) (v := ?_) (some 33) rfl rfl (by kernel_rfl) (by kernel_rfl) (by kernel_rfl) (fun _ _ _ h => h) (Or.inl ⟨by rfl, ?_⟩) (by assumption) ?_
    rotate_left
    · intro w hSw
      (try dsimp only at hSw)
      first
        | (go_simp; done)
        | (go_simp; with_reducible rfl)
    try simp only [Act.put, List.setIfInBounds_toArray, List.set_cons_zero, List.set_cons_succ]
    refine takeD (i := 13) (v := ?_) (some 35) rfl rfl (by kernel_rfl) (by kernel_rfl) (by kernel_rfl) (fun _ _ _ h => h) (Or.inl ⟨by rfl, ?_⟩) (by assumption) ?_
    rotate_left
    · intro w hSw
      (try dsimp only at hSw)
      first
        | (go_simp; done)
        | (go_simp; with_reducible rfl)
    try simp only [Act.put, List.setIfInBounds_toArray, List.set_cons_zero, List.set_cons_succ]
    refine takeD (i := 14) (v := ?_) (some 36) rfl rfl (by kernel_rfl) (by kernel_rfl) (by kernel_rfl) (fun _ _ _ h => h) (Or.inl ⟨by rfl, ?_⟩) (by assumption) ?_
    rotate_left
    · intro w hSw
      (try dsimp only at hSw)
      first
        | (go_simp; done)
        | (go_simp; with_reducible rfl)
    try simp only [Act.put, List.setIfInBounds_toArray, List.set_cons_zero, List.set_cons_succ]
    refine takeD (i := 15) (v := ?_) (some 37) rfl rfl (by kernel_rfl) (by kernel_rfl) (by kernel_rfl) (fun _ _ _ h => h) (Or.inl ⟨by rfl, ?_⟩) (by assumption) ?_
    rotate_left
    · intro w hSw
      (try dsimp only at hSw)
      first
        | (go_simp; done)
        | (go_simp; with_reducible rfl)
    try simp only [Act.put, List.setIfInBounds_toArray, List.set_cons_zero, List.set_cons_succ]
    refine wpAnyH_ready (rs := [12]) (by kernel_rfl) (by simp) ?_
    refine AllReadyH.cons rfl (fun K hK => ?_) AllReadyH.nil
    go_simp
    try rw [hs2]
    refine (HWb1.out).mono ?_; rintro e w4 ⟨rfl, rfl⟩
    refine hK.out _ _ ?_ (fun hHeld => ?_)
    · (try dsimp only)
      (first | assumption | go_keep)
    clear hK K
    try simp only [Act.put, List.setIfInBounds_toArray, List.set_cons_zero, List.set_cons_succ]
    refine takeD (i := 16) (v := ?_) (some 38) rfl rfl (by kernel_rfl) (by kernel_rfl) (by kernel_rfl) (fun _ _ _ h => h) (Or.inl ⟨by rfl, ?_⟩) (by assumption) ?_
    rotate_left
    · intro w hSw
      (try dsimp only at hSw)
      first
        | (go_simp; done)
        | (go_simp; with_reducible rfl)
    try simp only [Act.put, List.setIfInBounds_toArray, List.set_cons_zero, List.set_cons_succ]
    refine takeD (i := 17) (v := ?_) (some 39) rfl rfl (by kernel_rfl) (by kernel_rfl) (by kernel_rfl) (fun _ _ _ h => h) (Or.inl ⟨by rfl, ?_⟩) (by assumption) ?_
    rotate_left
    · intro w hSw
      (try dsimp only at hSw)
      first
        | (go_simp; done)
        | (go_simp; with_reducible rfl)
    try simp only [Act.put, List.setIfInBounds_toArray, List.set_cons_zero, List.set_cons_succ]
    refine takeD (i := 18) (v := ?_) (some 40) rfl rfl (by kernel_rfl) (by kernel_rfl) (by kernel_rfl) (fun _ _ _ h => h) (Or.inl ⟨by rfl, ?_⟩) (by assumption) ?_
    rotate_left
    · intro w hSw
      (try dsimp only at hSw)
      first
        | (go_simp; done)
        | (go_simp; with_reducible rfl)
    try simp only [Act.put, List.setIfInBounds_toArray, List.set_cons_zero, List.set_cons_succ]
    refine takeD (i := 19) (v := ?_) (some 41) rfl rfl (by kernel_rfl) (by kernel_rfl) (by kernel_rfl) (fun _ _ _ h => h) (Or.inl ⟨by rfl, ?_⟩) (by assumption) ?_
    rotate_left
    · intro w hSw
      (try dsimp only at hSw)
      first
        | (go_simp; done)
        | (go_simp; with_reducible rfl)
    try simp only [Act.put, List.setIfInBounds_toArray, List.set_cons_zero, List.set_cons_succ]
    refine takeD (i := 20) (v := ?_) (some 42) rfl rfl (by kernel_rfl) (by kernel_rfl) (by kernel_rfl) (fun _ _ _ h => h) (Or.inl ⟨by rfl, ?_⟩) (by assumption) ?_
    rotate_left
    · intro w hSw
      (try dsimp only at hSw)
      first
        | (go_simp; done)
        | (go_simp; with_reducible rfl)
    try simp only [Act.put, List.setIfInBounds_toArray, List.set_cons_zero, List.set_cons_succ]
    refine takeD (i := 21) (v := ?_) (some 43) rfl rfl (by kernel_rfl) (by kernel_rfl) (by kernel_rfl) (fun _ _ _ h => h) (Or.inl ⟨by rfl, ?_⟩) (by assumption) ?_
    rotate_left
    · intro w hSw
      (try dsimp only at hSw)
      first
        | (go_simp; done)
        | (go_simp; with_reducible rfl)
    try simp only [Act.put, List.setIfInBounds_toArray, List.set_cons_zero, List.set_cons_succ]
    refine takeD (i := 22) (v := ?_) (some 44) rfl rfl (by kernel_rfl) (by kernel_rfl) (by kernel_rfl) (fun _ _ _ h => h) (Or.inl ⟨by rfl, ?_⟩) (by assumption) ?_
    rotate_left
    · intro w hSw
      (try dsimp only at hSw)
      first
        | (go_simp; done)
        | (go_simp; with_reducible rfl)
    try simp only [Act.put, List.setIfInBounds_toArray, List.set_cons_zero, List.set_cons_succ]
    refine wpAnyH_ready (rs := [23]) (by kernel_rfl) (by simp) ?_
    refine AllReadyH.cons rfl (fun K hK => ?_) AllReadyH.nil
    go_simp
    try rw [hs2]
    refine (HWa2.out).mono ?_
    rintro e w4 ⟨rfl, g4, mm4⟩
    have G4 := hid g4
    have M4 := hid mm4
    have k4 : w4.cell? ⟨bk, 0, none⟩ = some (.int .i64 ((q : Int) + 1)) ∧ w4.cell? ⟨bv, 0, none⟩ = some (.pointer (some ⟨vb, 0, none⟩)) := ⟨(HKV.out w4 g4).1, (HKV.out w4 g4).2⟩
    clear g4 mm4
    refine hK.out _ _ ?_ (fun hHeld => ?_)
    · (try dsimp only)
      (first | assumption | go_keep)
    clear hK K
    try simp only [Act.put, List.setIfInBounds_toArray, List.set_cons_zero, List.set_cons_succ]
    refine takeD (i := 24) (v := ?_) (some 46) rfl rfl (by kernel_rfl) (by kernel_rfl) (by kernel_rfl) (fun _ _ _ h => h) (Or.inl ⟨by rfl, ?_⟩) (by assumption) ?_
    rotate_left
    · intro w hSw
      (try dsimp only at hSw)
      first
        | (go_simp; done)
        | (go_simp; with_reducible rfl)
    try simp only [Act.put, List.setIfInBounds_toArray, List.set_cons_zero, List.set_cons_succ]
    refine takeD (i := 25) (v := ?_) (some 47) rfl rfl (by kernel_rfl) (by kernel_rfl) (by kernel_rfl) (fun _ _ _ h => h) (Or.inl ⟨by rfl, ?_⟩) (by assumption) ?_
    rotate_left
    · intro w hSw
      (try dsimp only at hSw)
      first
        | (go_simp; done)
        | (go_simp; with_reducible rfl)
    try simp only [Act.put, List.setIfInBounds_toArray, List.set_cons_zero, List.set_cons_succ]
    refine takeD (i := 26) (v := undef) (some 48) rfl rfl (by kernel_rfl) (by kernel_rfl) (by kernel_rfl) (fun _ _ _ h => h) (Or.inr ⟨by rfl, rfl⟩) (by assumption) ?_
    try simp only [Act.put, List.setIfInBounds_toArray, List.set_cons_zero, List.set_cons_succ]
    refine takeD (i := 27) (v := undef) (some 49) rfl rfl (by kernel_rfl) (by kernel_rfl) (by kernel_rfl) (fun _ _ _ h => h) (Or.inr ⟨by rfl, rfl⟩) (by assumption) ?_
    try simp only [Act.put, List.setIfInBounds_toArray, List.set_cons_zero, List.set_cons_succ]
    refine takeD (i := 28) (v := undef) (some 50) rfl rfl (by kernel_rfl) (by kernel_rfl) (by kernel_rfl) (fun _ _ _ h => h) (Or.inr ⟨by rfl, rfl⟩) (by assumption) ?_
    try simp only [Act.put, List.setIfInBounds_toArray, List.set_cons_zero, List.set_cons_succ]
    refine takeD (i := 29) (v := undef) (some 51) rfl rfl (by kernel_rfl) (by kernel_rfl) (by kernel_rfl) (fun _ _ _ h => h) (Or.inr ⟨by rfl, rfl⟩) (by assumption) ?_
    try simp only [Act.put, List.setIfInBounds_toArray, List.set_cons_zero, List.set_cons_succ]
    refine takeD (i := 30) (v := undef) (some 52) rfl rfl (by kernel_rfl) (by kernel_rfl) (by kernel_rfl) (fun _ _ _ h => h) (Or.inr ⟨by rfl, rfl⟩) (by assumption) ?_
    try simp only [Act.put, List.setIfInBounds_toArray, List.set_cons_zero, List.set_cons_succ]
    refine takeD (i := 31) (v := ?_) (some 53) rfl rfl (by kernel_rfl) (by kernel_rfl) (by kernel_rfl) (fun _ _ _ h => h) (Or.inl ⟨by rfl, ?_⟩) (by assumption) ?_
    rotate_left
    · intro w hSw
      (try dsimp only at hSw)
      first
        | (go_simp; done)
        | (go_simp; with_reducible rfl)
    try simp only [Act.put, List.setIfInBounds_toArray, List.set_cons_zero, List.set_cons_succ]
    refine takeD (i := 32) (v := ?_) (some 5) rfl rfl (by kernel_rfl) (by kernel_rfl) (by kernel_rfl) (fun _ _ _ h => h) (Or.inl ⟨by rfl, ?_⟩) (by assumption) ?_
    rotate_left
    · intro w hSw
      (try dsimp only at hSw)
      first
        | (go_simp; done)
        | (go_simp; with_reducible rfl)
    try simp only [Act.put, List.setIfInBounds_toArray, List.set_cons_zero, List.set_cons_succ]
    refine wpAnyH_done (by kernel_rfl) ?_ _
    all_goals go_wp2
    all_goals go_ret
    all_goals exact ⟨ret_b HZ.out, HChg.out _ (grow_trans HGd.out G4.out), M4.out, HEnd.out _ (grow_trans HGd.out G4.out)⟩
  | true =>
    have HZ := hid (show gv = winS q yb by rw [← HGV.out, d1, d2, ra]; rfl)
    rw [ra] at HWa2
    clear ra
    generalize winS q yb = rb at *
    go_wp2_with fail
    go_region_held3 (fun w' => w'.cell? ⟨bk, 0, none⟩ = some (.int .i64 ((q : Int) + 1)) ∧ w'.cell? ⟨bv, 0, none⟩ = some (.pointer (some ⟨vb, 0, none⟩))) (first | assumption | go_keep)
      ((first
      | (have _h := IVb.out
         go_at_call 58
         try rw [hs2]
         refine (HWb2.out _ IVb.out).mono ?_
         rintro e w5 ⟨rfl, g5, mm5⟩
         have G5 := hid (grow_trans G4.out g5)
         have M5 := hid mm5
         have k5 : w5.cell? ⟨bk, 0, none⟩ = some (.int .i64 ((q : Int) + 1)) ∧ w5.cell? ⟨bv, 0, none⟩ = some (.pointer (some ⟨vb, 0, none⟩)) := ⟨(HKV.out w5 G5.out).1, (HKV.out w5 G5.out).2⟩
         clear g5 mm5)
      | (have _h := X1.out
         go_at_call 64
         try rw [hs2]
         refine (HWb1.out).mono ?_
         rintro e w4 ⟨rfl, rfl⟩
         have X2 := hid trivial)
      | (go_at_call 64
         try rw [hs2]
         refine (HWa1.out).mono ?_
         rintro e w4 ⟨rfl, rfl⟩
         have X1 := hid trivial)
      | (go_at_call 58
         try rw [hs2]
         refine (HWa2.out).mono ?_
         rintro e w4 ⟨rfl, g4, mm4⟩
         have G4 := hid g4
         have M4 := hid mm4
         have k4 : w4.cell? ⟨bk, 0, none⟩ = some (.int .i64 ((q : Int) + 1)) ∧ w4.cell? ⟨bv, 0, none⟩ = some (.pointer (some ⟨vb, 0, none⟩)) := ⟨(HKV.out w4 g4).1, (HKV.out w4 g4).2⟩
         have IVb := hid (HIVb.out _ g4 mm4)
         clear g4 mm4)))
    go_wp2
    go_ret
    exact ⟨ret_b HZ.out, HChg.out _ (grow_trans HGd.out G5.out), M5.out, HEnd.out _ (grow_trans HGd.out G5.out)⟩
end Go.Proofs.Ytdclmhmdkhpekaa
