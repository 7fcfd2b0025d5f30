/- Walks of dim and dim2: with a table that is right, they return the plain dimension, and the table stays right. -/
import Derived.Test.YtpebglilphgamaaDimL
import Derived.Test.YtpebglilphgamaaRead
import Derived.Maps.OwnOps
namespace Go.Proofs.Ytpebglilphgamaa
open Go.RowKit Go.Maps

theorem grow_refl (w : World) (r : Option Nat) : w.grownBy w r := ⟨rfl, rfl, rfl, Nat.le_refl _, fun _ _ _ => rfl⟩
theorem grow_trans {a b c : World} {r : Option Nat} (h : a.grownBy b r) (k : b.grownBy c r) : a.grownBy c r :=
  ⟨k.os.trans h.os, k.tape.trans h.tape, k.output.trans h.output, Nat.le_trans h.size k.size, fun i hi hr => (k.block i (by have := h.size; omega) hr).trans (h.block i hi hr)⟩
theorem grow_below {a b : World} {r : Option Nat} (h : Below a.heap.size a b) : a.grownBy b r := ⟨h.os, h.tape, h.output, h.size, fun i hi _ => h.block i hi⟩

def OKd (p n : Nat) (xs : List Int) : Value → Value → Prop := fun key val => ∀ f, key = .int .i64 (mk n f) → val = .int .i64 (dimL p (sel n f xs))

/-- A school with a right table. -/
structure St (w : World) (s p : Nat) (A : Option Addr) (n c : Nat) (xs : List Int) (B : Nat) : Prop where
  sch : Sch w s p A n c xs B
  memo : Memo Try.prog 3 w B (OKd p n xs)
  ne : s ≠ B
section
variable {w w' : World} {s p : Nat} {A : Option Addr} {n c : Nat} {xs : List Int} {B : Nat}
theorem Sl.grown {ys : List Value} {OK : Value → Value → Prop} (h : Sl w A n c ys) (hm : Memo Try.prog 3 w B OK) (hg : w.grownBy w' (some B)) : Sl w' A n c ys :=
  ⟨h.len, h.cap, h.capm, fun hn => by
    obtain ⟨b, o, e, hb, hc⟩ := h.pos hn
    refine ⟨b, o, e, Nat.lt_of_lt_of_le hb hg.size, fun j u hu => ?_⟩
    have hj := hc j u hu
    have hne := hm.ne_cell hj
    exact (World.cell?_of_block (hg.block b hb (by simpa using hne))).trans hj⟩
theorem St.grown (h : St w s p A n c xs B) (hg : w.grownBy w' (some B)) (hm : Memo Try.prog 3 w' B (OKd p n xs)) : St w' s p A n c xs B :=
  ⟨⟨h.sch.blk.grown hg (by simpa using h.ne), h.sch.sl.grown h.memo hg⟩, hm, h.ne⟩
end
theorem K3 : Keyed Try.prog 3 := int_keyed Try.underlying3
theorem key_mk {n : Nat} (hn : n ≤ 60) (f : Nat → Bool) : keyOf Try.prog 3 (.int .i64 (mk n f)) = some (.int .i64 (mk n f)) :=
  keyOf_int_mk Try.underlying3 (by
    have := mk_bd hn f
    have hmin : IntKind.i64.min = -9223372036854775808 := rfl
    have hmax : IntKind.i64.max = 9223372036854775807 := rfl
    simp only [Lit.wf, Bool.and_eq_true, decide_eq_true_eq]
    omega)

/-- What dim does in every world with the school, for sets of fewer than m. -/
def DimTo (s p : Nat) (A : Option Addr) (n c : Nat) (xs : List Int) (B m : Nat) : Prop :=
  ∀ g, (sel n g xs).length < m → ∀ W, St W s p A n c xs B → Calls Try.prog 58 #[.pointer (some ⟨s, 0, none⟩), .int .i64 (mk n g)] W fun e w' => e = .returned (.int .i64 (dimL p (sel n g xs))) ∧ W.grownBy w' (some B) ∧ Memo Try.prog 3 w' B (OKd p n xs)

set_option maxRecDepth 100000 in
set_option maxHeartbeats 1000000 in
theorem dim2S (s p : Nat) (A : Option Addr) (n c : Nat) (xs : List Int) (B m : Nat) (HD : DimTo s p A n c xs B m) (f : Nat → Bool) (hf : (sel n f xs).length ≤ m) (x : Nat) (hx : x ≤ 60) (hn : n ≤ 16) (w : World) (hs : St w s p A n c xs B) :
    Calls Try.prog 76 #[.pointer (some ⟨s, 0, none⟩), .int .i64 (mk n f), .int .i64 x] w fun e w' => e = .returned (.int .i64 (dim2L p (sel n f xs) x)) ∧ w.grownBy w' (some B) ∧ Memo Try.prog 3 w' B (OKd p n xs) := by
  have hfx : Fits (x : Int) := ⟨by omega, by omega⟩
  have S0 := hid (saidS s p A n c xs B f x false hfx hn w hs.sch)
  have S1 := hid (saidS s p A n c xs B f x true hfx hn w hs.sch)
  have e0 := sel_split n f xs x false
  have e1 := sel_split n f xs x true
  have hlen := split_len (sel n f xs) x
  have n0 : (split (sel n f xs) x false = []) ↔ mk n (fun i => f i && (bitB (at0 xs i) x == false)) = 0 := by rw [e0]; exact sel_nil
  have n1 : (split (sel n f xs) x true = []) ↔ mk n (fun i => f i && (bitB (at0 xs i) x == true)) = 0 := by rw [e1]; exact sel_nil
  have hD2 : dim2L p (sel n f xs) x = if split (sel n f xs) x false = [] ∨ split (sel n f xs) x true = [] then -1 else min (dimL p (split (sel n f xs) x false)) (dimL p (split (sel n f xs) x true)) := rfl
  rw [hD2]
  clear hD2
  obtain ⟨f0, hf0⟩ : ∃ g, g = fun i => f i && (bitB (at0 xs i) x == false) := ⟨_, rfl⟩
  obtain ⟨f1, hf1⟩ : ∃ g, g = fun i => f i && (bitB (at0 xs i) x == true) := ⟨_, rfl⟩
  rw [← hf0] at S0 e0 n0
  rw [← hf1] at S1 e1 n1
  by_cases z0 : mk n f0 = 0
  · have hz : (split (sel n f xs) x false = [] ∨ split (sel n f xs) x true = []) := .inl (n0.2 z0)
    rw [if_pos hz]
    have hm := hid hs.memo
    have b0 : (mk n f0 == 0) = true := by simpa using z0
    clear hf0 hf1 hlen n0 n1 e0 e1 hz z0 hs
    go_enter Try.func76, Try.ntmps76
    go_wp2_with fail
    refine (S0.out).mono ?_; rintro e w1 ⟨rfl, rfl⟩
    go_wp2_with fail
    refine (S1.out).mono ?_; rintro e w1 ⟨rfl, rfl⟩
    go_wp2
    go_ret
    exact ⟨rfl, grow_refl _ _, hm.out⟩
  have b0 : (mk n f0 == 0) = false := by simpa using z0
  by_cases z1 : mk n f1 = 0
  · have hz : (split (sel n f xs) x false = [] ∨ split (sel n f xs) x true = []) := .inr (n1.2 z1)
    rw [if_pos hz]
    have hm := hid hs.memo
    have b1 : (mk n f1 == 0) = true := by simpa using z1
    clear hf0 hf1 hlen n0 n1 e0 e1 hz z0 z1 hs
    go_enter Try.func76, Try.ntmps76
    go_wp2_with fail
    refine (S0.out).mono ?_; rintro e w1 ⟨rfl, rfl⟩
    go_wp2_with fail
    refine (S1.out).mono ?_; rintro e w1 ⟨rfl, rfl⟩
    go_wp2
    go_ret
    exact ⟨rfl, grow_refl _ _, hm.out⟩
  have b1 : (mk n f1 == 0) = false := by simpa using z1
  have hz : ¬ (split (sel n f xs) x false = [] ∨ split (sel n f xs) x true = []) := fun h => h.elim (fun h => z0 (n0.1 h)) (fun h => z1 (n1.1 h))
  rw [if_neg hz]
  have l0 : (split (sel n f xs) x false).length ≠ 0 := fun e => hz (.inl (List.eq_nil_of_length_eq_zero e))
  have l1 : (split (sel n f xs) x true).length ≠ 0 := fun e => hz (.inr (List.eq_nil_of_length_eq_zero e))
  have D0 := hid fun W (hW : St W s p A n c xs B) => HD f0 (by rw [← e0]; omega) W hW
  have D1 := hid fun W (hW : St W s p A n c xs B) => HD f1 (by rw [← e1]; omega) W hW
  rw [e0, e1]
  clear hf0 hf1 hlen n0 n1 e0 e1 hz z0 z1 l0 l1
  have HS := hid hs
  go_enter Try.func76, Try.ntmps76
  go_wp2_with fail
  refine (S0.out).mono ?_; rintro e w1 ⟨rfl, rfl⟩
  go_wp2_with fail
  refine (S1.out).mono ?_; rintro e w1 ⟨rfl, rfl⟩
  go_wp2_with fail
  refine (D0.out _ HS.out).mono ?_; rintro e w1 ⟨rfl, g1, m1⟩
  have hs1 := HS.out.grown g1 m1
  go_wp2_with fail
  refine (D1.out _ hs1).mono ?_; rintro e w2 ⟨rfl, g2, m2⟩
  go_wp2
  all_goals go_ret
  all_goals exact ⟨ret_i (by omega), grow_trans g1 g2, m2⟩
theorem int_eq {a b : Int} (h : a = b) : Value.int .i64 a = .int .i64 b := by rw [h]
theorem sel_len (n : Nat) (f : Nat → Bool) (xs : List Int) : (sel n f xs).length ≤ n := by
  unfold sel
  have := List.length_filter_le f (List.range n)
  simpa using this
theorem MI0 : ∀ W : World, (zeroValue 3).run Try.prog W = .ok (.int .i64 0) W := by
  intro W
  simp [go_sem]

set_option maxRecDepth 100000 in
set_option maxHeartbeats 1000000 in
theorem dimStep (s p : Nat) (A : Option Addr) (n c : Nat) (xs : List Int) (B m : Nat) (HD : DimTo s p A n c xs B m) (f : Nat → Bool) (hf : (sel n f xs).length ≤ m) (hp : p ≤ 60) (hn : n ≤ 16) (w : World) (hs : St w s p A n c xs B) :
    Calls Try.prog 58 #[.pointer (some ⟨s, 0, none⟩), .int .i64 (mk n f)] w fun e w' => e = .returned (.int .i64 (dimL p (sel n f xs))) ∧ w.grownBy w' (some B) ∧ Memo Try.prog 3 w' B (OKd p n xs) := by
  by_cases z : mk n f = 0
  · have hm := hid hs.memo
    have b0 : (mk n f == 0) = true := by simpa using z
    have hd : dimL p (sel n f xs) = -1 := by rw [sel_nil.2 z, dimL_nil]
    rw [hd]
    clear hd z hs
    go_enter Try.func58, Try.ntmps58
    go_wp2
    go_ret
    exact ⟨rfl, grow_refl _ _, hm.out⟩
  have b0 : (mk n f == 0) = false := by simpa using z
  have hsel : sel n f xs ≠ [] := fun h => z (sel_nil.1 h)
  have c0 := hs.sch.c0
  have c2 := hs.sch.c2
  have hm := hid hs.memo
  have a2 : (⟨s, 0, none⟩ : Addr).add 2 = ⟨s, 2, none⟩ := rfl
  have a0 : (⟨s, 0, none⟩ : Addr).add 0 = ⟨s, 0, none⟩ := rfl
  rcases hs.memo.look K3 (t := 91) MI MI0 (key_mk (by omega) f) (.int .i64 (dimL p (sel n f xs))) (fun v hv => hv f rfl) with hlk | hlk
  · have hlk0 : (Instr.lookup 91 (.map (some B)) (.int .i64 (mk n f)) true).run Try.prog w = .ok (.tuple #[.int .i64 (dimL p (sel n f xs)), .bool true]) w := hlk 0
    clear hlk hs hsel z hf HD
    go_enter Try.func58, Try.ntmps58
    go_wp2
    go_ret
    exact ⟨rfl, grow_refl _ _, hm.out⟩
  · have hlk0 : (Instr.lookup 91 (.map (some B)) (.int .i64 (mk n f)) true).run Try.prog w = .ok (.tuple #[.int .i64 0, .bool false]) w := hlk 0
    have HE := hid (dimL_eq (p := p) hsel)
    have HS := hid hs
    have HB := hid fun x : Nat => dim2L_bd p (sel n f xs) x
    have HL := hid (sel_len n f xs)
    have H2 := hid fun (x : Nat) (hx : x ≤ 60) W (hW : St W s p A n c xs B) => dim2S s p A n c xs B m HD f hf x hx hn W hW
    have HU := hid fun W (hW : Memo Try.prog 3 W B (OKd p n xs)) => hW.update K3 (t := 91) MI (key_mk (n := n) (by omega) f) (val := .int .i64 (dimL p (sel n f xs))) (fun g hg => by
      have e : sel n f xs = sel n g xs := sel_congr xs fun i hi => mk_inj (by simpa using hg) i hi
      rw [e])
    have HN := hid hn
    clear hlk hs hsel z hf HD hm hn
    go_enter Try.func58, Try.ntmps58
    go_wp2
    clear c2 c0 hlk0
    go_loopg [7, 26] p (fun gk o i wr => ∃ k : Nat, gk + k = p ∧ i = .int .i64 k ∧ o = .int .i64 (best (fun x => 1 + dim2L p (sel n f xs) x) k) ∧ w.grownBy wr (some B) ∧ Memo Try.prog 3 wr B (OKd p n xs))
    case atStart => exact ⟨0, by omega, rfl, rfl, grow_refl _ _, HS.out.memo⟩
    case round =>
      obtain ⟨k, hk, rfl, rfl, hg, hm⟩ := hrel
      have HK := hid hk; clear hk
      have hst := HS.out.grown hg hm
      by_cases hlt : k < p
      · have hb := HB.out k
        have hl : (sel n f xs).length ≤ 16 := by have := HL.out; have := HN.out; omega
        have h60 : k < 60 := by omega
        go_wp2_with fail
        refine (H2.out k (by omega) _ hst).mono ?_; rintro e w2 ⟨rfl, g2, m2⟩
        go_wp2
        all_goals go_roundg (gk - 1)
        all_goals first
          | (have := HK.out; omega)
          | exact ⟨k + 1, by have := HK.out; omega, by go_num, int_eq (by simp only [best]; omega), grow_trans hg g2, m2⟩
      · obtain rfl : k = p := by have := HK.out; omega
        obtain ⟨w3, hu, m3, g3⟩ := HU.out wr hm
        rw [HE.out] at hu
        have c2 := hst.sch.c2
        go_wp2
        go_ret
        exact ⟨ret_i HE.out.symm, grow_trans hg g3, m3⟩
/-- dim returns the plain dimension. -/
theorem dimS (s p : Nat) (A : Option Addr) (n c : Nat) (xs : List Int) (B : Nat) (hp : p ≤ 60) (hn : n ≤ 16) : ∀ m, DimTo s p A n c xs B m := by
  intro m
  induction m with
  | zero => intro g hg; omega
  | succ m ih => intro g hg W hW; exact dimStep s p A n c xs B m ih g (by omega) hp hn W hW

set_option maxRecDepth 100000 in
set_option maxHeartbeats 400000 in
/-- Dim returns the dimension. -/
theorem dimPub (p : Nat) (A : Option Addr) (n c : Nat) (xs : List Int) (w : World) (hs : Sl w A n c (xs.map (Value.int .i64))) (H : Cls p xs) :
    Calls Try.prog 25 #[.int .i64 p, .slice A n c] w fun e w' => e = .returned (.tuple #[.int .i64 (dimL p xs), .int .i64 0]) ∧ Below w.heap.size w w' := by
  have hl := hs.numlen
  have hn : n ≤ 16 := by have := H.n16; omega
  have hp : p ≤ 60 := by have := H.p5; omega
  have HR := hid (readOk p A n c xs w (OKd p n xs) hs H)
  have HD := hid fun s B W (hW : St W s p A n c xs B) => dimS s p A n c xs B hp hn (n + 1) (fun _ => true) (by have := sel_len n (fun _ => true) xs; omega) W hW
  have HA := hid fun s B W (hW : Sch W s p A n c xs B) => allS s p A n c xs B hn W hW
  have he : sel n (fun _ => true) xs = xs := by rw [← hl]; exact sel_all xs
  rw [he] at HD
  clear he hs H hl
  go_enter Try.func25, Try.ntmps25
  go_wp2_with fail
  refine (HR.out).mono ?_; rintro e w1 ⟨s, B, rfl, hsz, hbz, hne, hsch, hm, hb⟩
  have hst : St w1 s p A n c xs B := ⟨hsch, hm, hne⟩
  go_wp2_with fail
  refine (HA.out s B _ hsch).mono ?_; rintro e w2 ⟨rfl, rfl⟩
  go_wp2_with fail
  refine (HD.out s B _ hst).mono ?_; rintro e w3 ⟨rfl, g3, m3⟩
  go_wp2
  go_ret2
  exact ⟨rfl, hb.grown g3 hb.size fun k hk => by cases hk; exact hbz⟩
set_option maxRecDepth 100000 in
theorem dimBad (p : Int) (A : Option Addr) (n c : Nat) (xs : List Int) (w : World) (hs : Sl w A n c (xs.map (Value.int .i64))) (H : ¬ Cls p xs) :
    Calls Try.prog 25 #[.int .i64 p, .slice A n c] w fun e w' => e = .returned (.tuple #[.int .i64 0, .int .i64 2]) ∧ Below w.heap.size w w' := by
  have HR := hid (readBad p A n c xs w hs H)
  clear hs H
  go_enter Try.func25, Try.ntmps25
  go_wp2_with fail
  refine (HR.out).mono ?_; rintro e w1 ⟨rfl, hb⟩
  go_wp2
  go_ret2
  exact ⟨rfl, hb⟩
end Go.Proofs.Ytpebglilphgamaa
