/- Walk of Tree; slices of nodes. Condition: the slice reads as a class. -/
import Derived.Test.YtpebglilphgamaaGrow
namespace Go.Proofs.Ytpebglilphgamaa
open Go.RowKit Go.Maps

/-- A slice of nodes that reads as ts. -/
structure Sl3 (w : World) (A : Option Addr) (n c : Nat) (ts : List Nd) : Prop where
  len : ts.length = n
  cap : n ≤ c
  capm : c ≤ maxLen
  pos : 0 < n → ∃ b o, A = some ⟨b, o, none⟩ ∧ b < w.heap.size ∧ ∀ (j : Nat) (u : Nd), ts[j]? = some u → w.cell? ⟨b, o + j * 3, none⟩ = some (.int .i64 u.pt) ∧ w.cell? ⟨b, o + (j * 3 + 1), none⟩ = some (.int .i64 u.zero) ∧ w.cell? ⟨b, o + (j * 3 + 2), none⟩ = some (.int .i64 u.one)
theorem flatN_get : ∀ (ts : List Nd) (j : Nat) (u : Nd), ts[j]? = some u → (flatN ts)[j * 3]? = some (.int .i64 u.pt) ∧ (flatN ts)[j * 3 + 1]? = some (.int .i64 u.zero) ∧ (flatN ts)[j * 3 + 2]? = some (.int .i64 u.one) := by
  intro ts
  induction ts with
  | nil => intro j u h; simp at h
  | cons v ts ih =>
    intro j u h
    have e : flatN (v :: ts) = .int .i64 v.pt :: .int .i64 v.zero :: .int .i64 v.one :: flatN ts := rfl
    rw [e]
    cases j with
    | zero => simp at h; subst h; exact ⟨rfl, rfl, rfl⟩
    | succ j =>
      have := ih j u (by simpa using h)
      have e2 : (j + 1) * 3 = j * 3 + 3 := by omega
      rw [e2]
      exact ⟨by simpa using this.1, by simpa using this.2.1, by simpa using this.2.2⟩
theorem flatN_one (ts : List Nd) : ∀ u ∈ flatN ts, u.oneCell' = true := by
  intro u hu
  unfold flatN at hu
  rw [List.mem_flatMap] at hu
  obtain ⟨v, _, h⟩ := hu
  simp [ndV] at h
  rcases h with h | h | h <;> subst h <;> rfl
section
variable {w w' : World} {A : Option Addr} {n c : Nat} {ts : List Nd}
theorem Sl3.below (h : Sl3 w A n c ts) (hb : Below w.heap.size w w') : Sl3 w' A n c ts :=
  ⟨h.len, h.cap, h.capm, fun hn => by
    obtain ⟨b, o, e, hl, hc⟩ := h.pos hn
    refine ⟨b, o, e, by have := hb.size; omega, fun j u hu => ?_⟩
    exact ⟨(hb.cell (p := ⟨b, o + j * 3, none⟩) hl).trans (hc j u hu).1, (hb.cell (p := ⟨b, o + (j * 3 + 1), none⟩) hl).trans (hc j u hu).2.1, (hb.cell (p := ⟨b, o + (j * 3 + 2), none⟩) hl).trans (hc j u hu).2.2⟩⟩
theorem Sl3.alloc (h : Sl3 w A n c ts) (o : Obj) : Sl3 (w.alloc o) A n c ts := h.below ((Below.refl _ _).alloc (Nat.le_refl _) _)
theorem Sl3.drewN (h : Sl3 w A n c ts) (k : Nat) : Sl3 (w.drewN k) A n c ts := ⟨h.len, h.cap, h.capm, h.pos⟩
theorem Sl3.at (h : Sl3 w A n c ts) {k : Nat} (hk : k < n) : ∃ b o, A = some ⟨b, o, none⟩ ∧ b < w.heap.size ∧ ts[k]? = some (nd ts k) ∧ w.cell? ⟨b, o + k * 3, none⟩ = some (.int .i64 (nd ts k).pt) ∧ w.cell? ⟨b, o + (k * 3 + 1), none⟩ = some (.int .i64 (nd ts k).zero) ∧ w.cell? ⟨b, o + (k * 3 + 2), none⟩ = some (.int .i64 (nd ts k).one) := by
  obtain ⟨b, o, e, hb, hc⟩ := h.pos (by omega)
  have hl : k < ts.length := by have := h.len; omega
  have e2 : nd ts k = ts[k] := nd_of (List.getElem?_eq_getElem hl)
  have hx : ts[k]? = some (nd ts k) := by rw [e2]; exact List.getElem?_eq_getElem hl
  exact ⟨b, o, e, hb, hx, hc k _ hx⟩
theorem Sl3.len_le (h : Sl3 w A n c ts) : n ≤ 9223372036854775807 := by have := h.cap; have := h.capm; unfold maxLen at this; omega
theorem Sl3.nil (w : World) : Sl3 w none 0 0 [] := ⟨rfl, Nat.le_refl _, Nat.zero_le _, fun h => absurd h (by omega)⟩
theorem Sl3.of_own {base : Nat} {e : TypeId} (h : w.ownsRow base e 3 (.slice A n c) n (flatN ts)) : Sl3 w A n c ts := by
  have hlen : ts.length = n := by
    have h1 := h.1
    have h2 := flatN_len ts
    omega
  rcases h.2 with ⟨hv, hn⟩ | ⟨g, cap, cur, hv, hb, hg, hc, hm, hs, ht⟩
  · simp at hv
    obtain ⟨rfl, -, rfl⟩ := hv
    subst hn
    exact ⟨hlen, Nat.le_refl _, Nat.zero_le _, fun h => absurd h (by omega)⟩
  · simp at hv
    obtain ⟨rfl, rfl⟩ := hv
    have hadd : ∀ j, (⟨g, 0, none⟩ : Addr).add j = ⟨g, j, none⟩ := fun j => by unfold Addr.add; split <;> simp_all
    refine ⟨hlen, hc, hm, fun _ => ⟨g, 0, rfl, lt_of_block hg, fun j u hu => ?_⟩⟩
    have hf := flatN_get ts j u hu
    have c0 := h.cells (g := g) rfl _ _ hf.1
    have c1 := h.cells (g := g) rfl _ _ hf.2.1
    have c2 := h.cells (g := g) rfl _ _ hf.2.2
    rw [hadd] at c0 c1 c2
    simpa using ⟨c0, c1, c2⟩
end
/-- The tree that Tree returns. -/
def bigTree (p : Nat) (xs : List Int) : List Nd := growL p (dimL p xs).toNat 0 xs
theorem bigTree_len (p : Nat) (xs : List Int) : (bigTree p xs).length = 2 ^ (dimL p xs).toNat - 1 := by
  have := growL_len p (dimL p xs).toNat 0 xs
  unfold bigTree; omega

set_option maxRecDepth 100000 in
set_option maxHeartbeats 1000000 in
theorem treePub (p : Nat) (A : Option Addr) (n c : Nat) (xs : List Int) (w : World) (hs : Sl w A n c (xs.map (Value.int .i64))) (H : Cls p xs) :
    Calls Try.prog 24 #[.int .i64 p, .slice A n c] w fun e w' => ∃ A' c', e = .returned (.tuple #[.slice A' (2 ^ (dimL p xs).toNat - 1) c', .int .i64 0]) ∧ w'.ownsRow w.heap.size 41 3 (.slice A' (2 ^ (dimL p xs).toNat - 1) c') (2 ^ (dimL p xs).toNat - 1) (flatN (bigTree p xs)) ∧ Below w.heap.size w w' := by
  have hl := hs.numlen
  have hn : n ≤ 16 := by have := H.n16; omega
  have hp : p ≤ 60 := by have := H.p5; omega
  have hne : xs ≠ [] := by rintro rfl; have := H.n1; simp at this
  have hd0 := dimL_nonneg (p := p) hne
  have hd1 := two_pow_dim p _ xs rfl hne
  have h16 := H.n16
  have hd4 : (dimL p xs).toNat ≤ 4 := by
    rcases Nat.lt_or_ge 4 (dimL p xs).toNat with g | g
    · have := Nat.pow_le_pow_right (show 0 < 2 by decide) (show 5 ≤ (dimL p xs).toNat by omega)
      omega
    · exact g
  have HR := hid (readOk p A n c xs w (OKd p n xs) hs H)
  have HD := hid fun s B W (hW : St W s p A n c xs B) => dimS s p A n c xs B hp hn (n + 1) (fun _ => true) (by have := sel_len n (fun _ => true) xs; omega) W hW
  have HA := hid fun s B W (hW : Sch W s p A n c xs B) => allS s p A n c xs B hn W hW
  have he : sel n (fun _ => true) xs = xs := by rw [← hl]; exact sel_all xs
  have HG := hid fun s B W (hW : St W s p A n c xs B) (OL : Old W.heap.size s A n B) => growS W.heap.size s p A n c xs B hp hn OL (dimL p xs).toNat (by omega) (fun _ => true) W (.slice none 0 0) 0 [] (by rw [he]; omega) rfl (by omega) hW (Nat.le_refl _) (World.ownsRow_nil _ _ _ _)
  rw [he] at HD
  have HE := hid he
  have hcast : ((dimL p xs).toNat : Int) = dimL p xs := by omega
  rw [hcast] at HG
  have HSL := hid hs
  clear he hs H hl hn hp hne hd0 hd1 h16 hd4 hcast
  go_enter Try.func24, Try.ntmps24
  go_wp2_with fail
  refine (HR.out).mono ?_; rintro e w1 ⟨s, B, rfl, hsz, hbz, hne, hsch, hm, hb⟩
  have hst : St w1 s p A n c xs B := ⟨hsch, hm, hne⟩
  have HB := hid hb
  have HBZ := hid hbz
  have HST := hid hst
  clear hsz hbz hne hsch hm hb hst
  go_wp2_with fail
  refine (HA.out s B _ HST.out.sch).mono ?_; rintro e w2 ⟨rfl, rfl⟩
  go_wp2_with fail
  refine (HA.out s B _ HST.out.sch).mono ?_; rintro e w2 ⟨rfl, rfl⟩
  go_wp2_with fail
  refine (HD.out s B _ HST.out).mono ?_; rintro e w3 ⟨rfl, g3, m3⟩
  have HS3 := hid (HST.out.grown g3 m3)
  have HB3 := hid (HB.out.grown g3 HB.out.size fun k hk => by cases hk; exact HBZ.out)
  have HOL := hid (show Old w3.heap.size s A n B from ⟨HS3.out.sch.blk.lt, HS3.out.memo.lt, fun b o h0 hA => by
    obtain ⟨b', o', e, hl, _⟩ := HS3.out.sch.sl.pos h0
    rw [hA] at e
    cases e
    exact hl⟩)
  clear g3 m3
  go_wp2_with fail
  refine (HG.out s B _ HS3.out HOL.out).mono ?_; rintro e w4 ⟨t4, rfl, o4, s4, c4, st4⟩
  obtain ⟨A4, cap4, rfl⟩ := own_form o4
  have O4 := hid o4
  have C4 := hid (c4.below HB3.out HB3.out.size (fun i hi => by
    rcases hi with hi | hi
    · have := HBZ.out; omega
    · cases hi))
  clear o4 s4 c4 st4
  go_wp2
  go_ret2
  have ho := O4.out
  rw [List.nil_append, HE.out] at ho
  have e0 : 0 + (2 ^ (dimL p xs).toNat - 1) = 2 ^ (dimL p xs).toNat - 1 := Nat.zero_add _
  rw [e0] at ho
  exact ⟨A4, cap4, rfl, own_more ho (Nat.le_trans HB3.out.size (Nat.le_refl _)), C4.out⟩
set_option maxRecDepth 100000 in
theorem treeBad (p : Int) (A : Option Addr) (n c : Nat) (xs : List Int) (w : World) (hs : Sl w A n c (xs.map (Value.int .i64))) (H : ¬ Cls p xs) :
    Calls Try.prog 24 #[.int .i64 p, .slice A n c] w fun e w' => e = .returned (.tuple #[.slice none 0 0, .int .i64 2]) ∧ Below w.heap.size w w' := by
  have HR := hid (readBad p A n c xs w hs H)
  clear hs H
  go_enter Try.func24, Try.ntmps24
  go_wp2_with fail
  refine (HR.out).mono ?_; rintro e w1 ⟨rfl, hb⟩
  go_wp2
  go_ret2
  exact ⟨rfl, hb⟩
end Go.Proofs.Ytpebglilphgamaa
