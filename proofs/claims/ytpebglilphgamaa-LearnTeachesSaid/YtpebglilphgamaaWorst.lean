/- Walks of worst and Worst: the plain greatest number of mistakes. Condition: the slice reads as a class. -/
import Derived.Test.YtpebglilphgamaaSay
import Derived.Test.YtpebglilphgamaaDimM
namespace Go.Proofs.Ytpebglilphgamaa
open Go.RowKit Go.Maps

/-- Only blocks of which R holds have turned, and new ones. -/
structure Chg (R : Nat → Prop) (w w' : World) : Prop where
  os : w'.os = w.os
  tape : w'.tape = w.tape
  output : w'.output = w.output
  size : w.heap.size ≤ w'.heap.size
  block : ∀ k, k < w.heap.size → ¬ R k → w'.heap[k]? = w.heap[k]?
section
variable {R S : Nat → Prop} {a b c : World}
theorem Chg.refl (R : Nat → Prop) (w : World) : Chg R w w := ⟨rfl, rfl, rfl, Nat.le_refl _, fun _ _ _ => rfl⟩
theorem Chg.trans (h : Chg R a b) (k : Chg R b c) : Chg R a c :=
  ⟨k.os.trans h.os, k.tape.trans h.tape, k.output.trans h.output, Nat.le_trans h.size k.size, fun i hi hr => (k.block i (by have := h.size; omega) hr).trans (h.block i hi hr)⟩
theorem Chg.of_grow {r : Nat} (h : a.grownBy b (some r)) (hr : R r) : Chg R a b :=
  ⟨h.os, h.tape, h.output, h.size, fun i hi hn => h.block i hi (fun e => by cases e; exact hn hr)⟩
theorem Chg.of_below (h : Below a.heap.size a b) : Chg R a b := ⟨h.os, h.tape, h.output, h.size, fun i hi _ => h.block i hi⟩
theorem Chg.mono (h : Chg R a b) (hs : ∀ k, R k → S k) : Chg S a b := ⟨h.os, h.tape, h.output, h.size, fun i hi hn => h.block i hi fun r => hn (hs i r)⟩
/-- Only new blocks of the call may have turned. -/
theorem Chg.below {B : Nat} (h : Below B a b) (k : Chg R b c) (hB : B ≤ b.heap.size) (hr : ∀ i, R i → B ≤ i) : Below B a c :=
  h.trans ⟨k.os, k.tape, k.output, k.size, fun i hi => k.block i (by omega) fun r => by have := hr i r; omega⟩
end
def Two (B K : Nat) : Nat → Prop := fun k => k = B ∨ k = K

def OKw (say : List Int → Int → Bool) (p n : Nat) (xs : List Int) : Value → Value → Prop := fun key val => ∀ f, key = .int .i64 (mk n f) → val = .int .i64 (worstL say p (sel n f xs))
/-- A school with a right table, and a map with what is known. -/
structure Stw (OK : Value → Value → Prop) (w : World) (s p : Nat) (A : Option Addr) (n c : Nat) (xs : List Int) (B K : Nat) : Prop where
  st : St w s p A n c xs B
  known : Memo Try.prog 3 w K OK
  ns : s ≠ K
  nb : B ≠ K
section
variable {OK : Value → Value → Prop} {w w' : World} {s p : Nat} {A : Option Addr} {n c : Nat} {xs : List Int} {B K : Nat}
theorem Stw.dims (h : Stw OK w s p A n c xs B K) (hg : w.grownBy w' (some B)) (hm : Memo Try.prog 3 w' B (OKd p n xs)) : Stw OK w' s p A n c xs B K :=
  ⟨h.st.grown hg hm, h.known.grown hg (by simpa using fun e => h.nb e.symm), h.ns, h.nb⟩
theorem Stw.chg (h : Stw OK w s p A n c xs B K) (hg : Chg (Two B K) w w') (hm : Memo Try.prog 3 w' B (OKd p n xs)) (hk : Memo Try.prog 3 w' K OK) : Stw OK w' s p A n c xs B K := by
  refine ⟨⟨⟨?_, ?_⟩, hm, h.st.ne⟩, hk, h.ns, h.nb⟩
  · exact (hg.block s h.st.sch.blk.lt (fun e => e.elim h.st.ne h.ns)).trans h.st.sch.blk
  · have hsl := h.st.sch.sl
    refine ⟨hsl.len, hsl.cap, hsl.capm, fun hn => ?_⟩
    obtain ⟨b, o, e, hb, hc⟩ := hsl.pos hn
    refine ⟨b, o, e, Nat.lt_of_lt_of_le hb hg.size, fun j u hu => ?_⟩
    have hj := hc j u hu
    have h1 := h.st.memo.ne_cell hj
    have h2 := h.known.ne_cell hj
    exact (World.cell?_of_block (hg.block b hb (fun e => e.elim h1 h2))).trans hj
end
theorem part_set {n : Nat} {f : Nat → Bool} {xs : List Int} {x : Int} : mk n (fun i => f i && bitB (at0 xs i) x) = mk n f ↔ split (sel n f xs) x false = [] := by
  rw [sel_split, sel_nil, mk_zero_iff]
  constructor
  · intro h i hi
    have := mk_inj h i hi
    cases hf : f i <;> simp_all
  · intro h
    apply mk_congr
    intro i hi
    have := h i hi
    cases hf : f i <;> cases hb : bitB (at0 xs i) x <;> simp_all
theorem part_zero {n : Nat} {f : Nat → Bool} {xs : List Int} {x : Int} : mk n (fun i => f i && bitB (at0 xs i) x) = 0 ↔ split (sel n f xs) x true = [] := by
  rw [sel_split, sel_nil]
  have e : mk n (fun i => f i && (bitB (at0 xs i) x == true)) = mk n (fun i => f i && bitB (at0 xs i) x) := mk_congr fun i _ => by simp
  rw [e]
theorem stepW_none {say : List Int → Int → Bool} {D : List Int → Int} {xs : List Int} {x : Int} (h : split xs x false = [] ∨ split xs x true = []) : stepW say D xs x = 0 := if_pos h
theorem stepW_both {say : List Int → Int → Bool} {D : List Int → Int} {xs : List Int} {x : Int} (h : ¬ (split xs x false = [] ∨ split xs x true = [])) : stepW say D xs x = max (D (split xs x false) + b01 (say xs x)) (D (split xs x true) + (1 - b01 (say xs x))) := by
  unfold stepW
  rw [if_neg h]
  cases say xs x <;> rfl

/-- What a learner's word does: it says, and turns nothing but the table. -/
structure Says (g : Nat) (say : List Int → Int → Bool) (s p : Nat) (A : Option Addr) (n c : Nat) (xs : List Int) (B : Nat) : Prop where
  ent : ∀ args W, (callFunc g args).run Try.prog W = .ok (.enter g args) W
  run : ∀ (f : Nat → Bool) (x : Nat), x ≤ 60 → ∀ W, St W s p A n c xs B → Calls Try.prog g #[.pointer (some ⟨s, 0, none⟩), .int .i64 (mk n f), .int .i64 x] W fun e w' => e = .returned (.int .i64 (b01 (say (sel n f xs) x))) ∧ W.grownBy w' (some B) ∧ Memo Try.prog 3 w' B (OKd p n xs)

def WorstTo (g : Nat) (say : List Int → Int → Bool) (s p : Nat) (A : Option Addr) (n c : Nat) (xs : List Int) (B K m : Nat) : Prop :=
  ∀ h, (sel n h xs).length < m → ∀ W, Stw (OKw say p n xs) W s p A n c xs B K → Calls Try.prog 66 #[.pointer (some ⟨s, 0, none⟩), .int .i64 (mk n h), .func (.func g) #[.pointer (some ⟨s, 0, none⟩)] #[], .map (some K)] W
    fun e w' => e = .returned (.int .i64 (worstL say p (sel n h xs))) ∧ Chg (Two B K) W w' ∧ Memo Try.prog 3 w' B (OKd p n xs) ∧ Memo Try.prog 3 w' K (OKw say p n xs)

set_option maxRecDepth 100000 in
set_option maxHeartbeats 4000000 in
theorem worstStep (g : Nat) (say : List Int → Int → Bool) (s p : Nat) (A : Option Addr) (n c : Nat) (xs : List Int) (B K m : Nat) (HY : Says g say s p A n c xs B) (HW : WorstTo g say s p A n c xs B K m) (f : Nat → Bool) (hf : (sel n f xs).length ≤ m) (hp : p ≤ 60) (hn : n ≤ 16) (w : World)
    (hs : Stw (OKw say p n xs) w s p A n c xs B K) :
    Calls Try.prog 66 #[.pointer (some ⟨s, 0, none⟩), .int .i64 (mk n f), .func (.func g) #[.pointer (some ⟨s, 0, none⟩)] #[], .map (some K)] w
      fun e w' => e = .returned (.int .i64 (worstL say p (sel n f xs))) ∧ Chg (Two B K) w w' ∧ Memo Try.prog 3 w' B (OKd p n xs) ∧ Memo Try.prog 3 w' K (OKw say p n xs) := by
  have ent := HY.ent
  have hsay := hid HY.run
  clear HY
  have HS := hid hs
  rcases hs.known.look K3 (t := 91) MI MI0 (key_mk (by omega) f) (.int .i64 (worstL say p (sel n f xs))) (fun v hv => hv f rfl) with hlk | hlk
  · have hlk0 : (Instr.lookup 91 (.map (some K)) (.int .i64 (mk n f)) true).run Try.prog w = .ok (.tuple #[.int .i64 (worstL say p (sel n f xs)), .bool true]) w := hlk 0
    clear hlk hs hf HW
    go_enter Try.func66, Try.ntmps66
    go_wp2
    go_ret
    exact ⟨rfl, Chg.refl _ _, HS.out.st.memo, HS.out.known⟩
  · have hlk0 : (Instr.lookup 91 (.map (some K)) (.int .i64 (mk n f)) true).run Try.prog w = .ok (.tuple #[.int .i64 0, .bool false]) w := hlk 0
    have c0 := hs.st.sch.c0
    have HE := hid (worstL_eq say p (sel n f xs))
    have HL := hid (sel_len n f xs)
    have HT := hid fun (x : Nat) (hx : x ≤ 60) W (hW : Stw (OKw say p n xs) W s p A n c xs B K) => withS s p A n c xs B f x ⟨by omega, by omega⟩ hn W hW.st.sch
    have HQ := hid fun (x : Nat) (hx : x ≤ 60) (y : Bool) W (hW : Stw (OKw say p n xs) W s p A n c xs B K) => saidS s p A n c xs B f x y ⟨by omega, by omega⟩ hn W hW.st.sch
    have HR := hid HW
    have HLF := hid hf
    have HU := hid fun W (hW : Memo Try.prog 3 W K (OKw say p n xs)) => hW.update K3 (t := 91) MI (key_mk (n := n) (by omega) f) (val := .int .i64 (worstL say p (sel n f xs))) (fun g hg => by
      have e : sel n f xs = sel n g xs := sel_congr xs fun i hi => mk_inj (by simpa using hg) i hi
      rw [e])
    have HN := hid hn
    have HPQ := hid hp
    clear hlk hs hf HW hn hp
    go_enter Try.func66, Try.ntmps66
    go_wp2
    clear c0 hlk0
    go_loopg [11, 28] p (fun gk o i wr => ∃ k : Nat, gk + k = p ∧ i = .int .i64 k ∧ o = .int .i64 (best (fun x => stepW say (worstL say p) (sel n f xs) x) k) ∧ Chg (Two B K) w wr ∧ Memo Try.prog 3 wr B (OKd p n xs) ∧ Memo Try.prog 3 wr K (OKw say p n xs))
    case atStart => exact ⟨0, by omega, rfl, rfl, Chg.refl _ _, HS.out.st.memo, HS.out.known⟩
    case round =>
      obtain ⟨k, hk, rfl, rfl, hg, hm, hkn⟩ := hrel
      have HK := hid hk; clear hk
      have hst := hid (HS.out.chg hg hm hkn)
      have HG := hid hg
      clear hg hm hkn
      by_cases hlt : k < p
      · have h60 : k < 60 := by have := HPQ.out; omega
        have hT := hid (HT.out k (by omega) _ hst.out)
        have hQ0 := hid fun W hW => HQ.out k (by omega) false W hW
        have hQ1 := hid fun W hW => HQ.out k (by omega) true W hW
        have hY := hid fun W hW => hsay.out f k (by omega) W hW
        have e0 := sel_split n f xs k false
        have e1 := sel_split n f xs k true
        have pz := part_zero (n := n) (f := f) (xs := xs) (x := k)
        have ps := part_set (n := n) (f := f) (xs := xs) (x := k)
        have hlen := split_len (sel n f xs) k
        generalize (fun i => f i && bitB (at0 xs i) k) = ft at *
        by_cases z1 : mk n ft = 0
        · have z1' : (mk n ft == 0) = true := by simpa using z1
          have HZ := hid (stepW_none (say := say) (D := worstL say p) (.inr (pz.1 z1)))
          have HP := hid (best_nonneg (fun x => stepW say (worstL say p) (sel n f xs) x) k)
          clear e0 e1 pz ps hlen z1
          go_wp2_with fail
          refine (hT.out).mono ?_; rintro e w1 ⟨rfl, rfl⟩
          go_wp2
          go_roundg (gk - 1)
          case measure => have := HK.out; omega
          case rel => exact ⟨k + 1, by have := HK.out; omega, by go_num, int_eq (by simp only [best]; rw [HZ.out]; have := HP.out; omega), HG.out, hst.out.st.memo, hst.out.known⟩
        have z1' : (mk n ft == 0) = false := by simpa using z1
        by_cases z0 : mk n ft = mk n f
        · have z0' : (mk n ft == mk n f) = true := by simpa using z0
          have HZ := hid (stepW_none (say := say) (D := worstL say p) (.inl (ps.1 z0)))
          have HP := hid (best_nonneg (fun x => stepW say (worstL say p) (sel n f xs) x) k)
          clear e0 e1 pz ps hlen z1 z0
          go_wp2_with fail
          refine (hT.out).mono ?_; rintro e w1 ⟨rfl, rfl⟩
          go_wp2
          go_roundg (gk - 1)
          case measure => have := HK.out; omega
          case rel => exact ⟨k + 1, by have := HK.out; omega, by go_num, int_eq (by simp only [best]; rw [HZ.out]; have := HP.out; omega), HG.out, hst.out.st.memo, hst.out.known⟩
        have z0' : (mk n ft == mk n f) = false := by simpa using z0
        have hno : ¬ (split (sel n f xs) k false = [] ∨ split (sel n f xs) k true = []) := fun h => h.elim (fun h => z0 (ps.2 h)) (fun h => z1 (pz.2 h))
        have HZ := hid (stepW_both (say := say) (D := worstL say p) hno)
        have l0 : (split (sel n f xs) k false).length ≠ 0 := fun e => hno (.inl (List.eq_nil_of_length_eq_zero e))
        have l1 : (split (sel n f xs) k true).length ≠ 0 := fun e => hno (.inr (List.eq_nil_of_length_eq_zero e))
        have HF := HLF.out
        have R0 := hid fun W hW => HR.out (fun i => f i && (bitB (at0 xs i) k == false)) (by rw [← e0]; omega) W hW
        have R1 := hid fun W hW => HR.out (fun i => f i && (bitB (at0 xs i) k == true)) (by rw [← e1]; omega) W hW
        rw [← e0] at R0
        rw [← e1] at R1
        have wb0 := worstL_le say p _ _ (rfl : (split (sel n f xs) k false).length = _)
        have wb1 := worstL_le say p _ _ (rfl : (split (sel n f xs) k true).length = _)
        have wn0 := worstL_nonneg say p (split (sel n f xs) k false)
        have wn1 := worstL_nonneg say p (split (sel n f xs) k true)
        have hl16 : (sel n f xs).length ≤ 16 := by have := HL.out; have := HN.out; omega
        generalize (fun i => f i && (bitB (at0 xs i) k == false)) = f0 at *
        generalize (fun i => f i && (bitB (at0 xs i) k == true)) = f1 at *
        generalize hd0 : worstL say p (split (sel n f xs) k false) = D0 at *
        generalize hd1 : worstL say p (split (sel n f xs) k true) = D1 at *
        generalize hbk : best (fun x => stepW say (worstL say p) (sel n f xs) x) k = bk at *
        generalize hsy : say (sel n f xs) k = sy at *
        have b0 : D0 ≤ 16 := by omega
        have b1 : D1 ≤ 16 := by omega
        have HBK := hid hbk
        clear e0 e1 pz ps hlen z1 z0 hno l0 l1 hl16 wb0 wb1 HF hd0 hd1 hbk hsy
        go_wp2_with fail
        refine (hT.out).mono ?_; rintro e w1 ⟨rfl, rfl⟩
        go_wp2
        go_loopg [11, 42] 2 (fun gk o i wr => ∃ j : Nat, gk + j = 2 ∧ i = .int .i64 j ∧ o = .int .i64 (if j = 0 then bk else if j = 1 then max bk (D0 + b01 sy) else max (max bk (D0 + b01 sy)) (D1 + (1 - b01 sy))) ∧ Stw (OKw say p n xs) wr s p A n c xs B K ∧ Chg (Two B K) w wr)
        case atStart => exact ⟨0, rfl, rfl, rfl, hst.out, HG.out⟩
        case round =>
          obtain ⟨j, hj, rfl, rfl, hsi, hgi⟩ := hrel
          have SI := hid hsi; have GI := hid hgi
          clear hsi hgi
          have hj3 : j = 0 ∨ j = 1 ∨ j = 2 := by omega
          rcases hj3 with rfl | rfl | rfl
          · obtain rfl : gk = 2 := by omega
            clear hj
            rw [if_pos rfl]
            cases sy with
            | false =>
              rw [b01_false] at hY
              try rw [b01_false]
              go_wp2_with fail
              refine (hQ0.out _ SI.out).mono ?_; rintro e w2 ⟨rfl, rfl⟩
              go_wp2_with fail
              refine (R0.out _ SI.out).mono ?_; rintro e w3 ⟨rfl, g3, m3, k3⟩
              have S3 := hid (SI.out.chg g3 m3 k3)
              have G3 := hid (GI.out.trans g3)
              clear g3 m3 k3
              go_wp2_with fail
              refine (hY.out _ S3.out.st).mono ?_; rintro e w4 ⟨rfl, g4, m4⟩
              have S4 := hid (S3.out.dims g4 m4)
              have G4 := hid (G3.out.trans (Chg.of_grow (R := Two B K) g4 (.inl rfl)))
              clear g4 m4
              go_wp2
              all_goals go_roundg 1
              all_goals first
                | omega
                | exact ⟨1, rfl, rfl, int_eq (by simp [b01]; omega), S4.out, G4.out⟩
            | true =>
              rw [b01_true] at hY
              try rw [b01_true]
              go_wp2_with fail
              refine (hQ0.out _ SI.out).mono ?_; rintro e w2 ⟨rfl, rfl⟩
              go_wp2_with fail
              refine (R0.out _ SI.out).mono ?_; rintro e w3 ⟨rfl, g3, m3, k3⟩
              have S3 := hid (SI.out.chg g3 m3 k3)
              have G3 := hid (GI.out.trans g3)
              clear g3 m3 k3
              go_wp2_with fail
              refine (hY.out _ S3.out.st).mono ?_; rintro e w4 ⟨rfl, g4, m4⟩
              have S4 := hid (S3.out.dims g4 m4)
              have G4 := hid (G3.out.trans (Chg.of_grow (R := Two B K) g4 (.inl rfl)))
              clear g4 m4
              go_wp2
              all_goals go_roundg 1
              all_goals first
                | omega
                | exact ⟨1, rfl, rfl, int_eq (by simp [b01]; omega), S4.out, G4.out⟩
          · obtain rfl : gk = 1 := by omega
            clear hj
            rw [if_neg (by decide), if_pos rfl]
            cases sy with
            | false =>
              rw [b01_false] at hY
              try rw [b01_false]
              go_wp2_with fail
              refine (hQ1.out _ SI.out).mono ?_; rintro e w2 ⟨rfl, rfl⟩
              go_wp2_with fail
              refine (R1.out _ SI.out).mono ?_; rintro e w3 ⟨rfl, g3, m3, k3⟩
              have S3 := hid (SI.out.chg g3 m3 k3)
              have G3 := hid (GI.out.trans g3)
              clear g3 m3 k3
              go_wp2_with fail
              refine (hY.out _ S3.out.st).mono ?_; rintro e w4 ⟨rfl, g4, m4⟩
              have S4 := hid (S3.out.dims g4 m4)
              have G4 := hid (G3.out.trans (Chg.of_grow (R := Two B K) g4 (.inl rfl)))
              clear g4 m4
              go_wp2
              all_goals go_roundg 0
              all_goals first
                | omega
                | exact ⟨2, rfl, rfl, int_eq (by simp [b01]; omega), S4.out, G4.out⟩
            | true =>
              rw [b01_true] at hY
              try rw [b01_true]
              go_wp2_with fail
              refine (hQ1.out _ SI.out).mono ?_; rintro e w2 ⟨rfl, rfl⟩
              go_wp2_with fail
              refine (R1.out _ SI.out).mono ?_; rintro e w3 ⟨rfl, g3, m3, k3⟩
              have S3 := hid (SI.out.chg g3 m3 k3)
              have G3 := hid (GI.out.trans g3)
              clear g3 m3 k3
              go_wp2_with fail
              refine (hY.out _ S3.out.st).mono ?_; rintro e w4 ⟨rfl, g4, m4⟩
              have S4 := hid (S3.out.dims g4 m4)
              have G4 := hid (G3.out.trans (Chg.of_grow (R := Two B K) g4 (.inl rfl)))
              clear g4 m4
              go_wp2
              all_goals go_roundg 0
              all_goals first
                | omega
                | exact ⟨2, rfl, rfl, int_eq (by simp [b01]; omega), S4.out, G4.out⟩
          · obtain rfl : gk = 0 := by omega
            clear hj
            rw [if_neg (by decide), if_neg (by decide)]
            have S4 := hid SI.out; have G4 := hid GI.out
            go_wp2
            go_roundg (p - k - 1)
            case measure => have := HK.out; omega
            case rel => exact ⟨k + 1, by omega, by go_num, int_eq (by simp only [best]; rw [HZ.out, HBK.out]; omega), G4.out, S4.out.st.memo, S4.out.known⟩
      · obtain rfl : k = p := by have := HK.out; omega
        obtain ⟨w3, hu, m3, g3⟩ := HU.out wr hst.out.known
        rw [HE.out] at hu
        have M3 := hid m3
        have S3 := hid (hst.out.st.memo.grown g3 (by simpa using hst.out.nb))
        have G3 := hid (HG.out.trans (Chg.of_grow (R := Two B K) g3 (.inr rfl)))
        clear m3 g3
        go_wp2
        go_ret
        exact ⟨ret_i HE.out.symm, G3.out, S3.out, M3.out⟩
theorem worstS (g : Nat) (say : List Int → Int → Bool) (s p : Nat) (A : Option Addr) (n c : Nat) (xs : List Int) (B K : Nat) (HY : Says g say s p A n c xs B) (hp : p ≤ 60) (hn : n ≤ 16) : ∀ m, WorstTo g say s p A n c xs B K m := by
  intro m
  induction m with
  | zero => intro h hh; omega
  | succ m ih => intro h hh W hW; exact worstStep g say s p A n c xs B K m HY ih h (by omega) hp hn W hW
end Go.Proofs.Ytpebglilphgamaa
