/- Walks of ask and Ask, and of the reference's Ask: the plain least length of a plan. Condition: the slice reads as a class. -/
import Derived.Test.YtpebglilphgamaaWorst
import Derived.Test.YtpebglilphgamaaAskM
import Derived.Test.YtpebglilphgamaaRefDim
namespace Go.Proofs.Ytpebglilphgamaa
open Go.RowKit Go.Maps

def OKa (p n : Nat) (xs : List Int) : Value → Value → Prop := fun key val => ∀ f, key = .int .i64 (mk n f) → val = .int .i64 (askL p (sel n f xs))
/-- A school, and a map with what is known. -/
structure Sta (w : World) (s p : Nat) (A : Option Addr) (n c : Nat) (xs : List Int) (B K : Nat) : Prop where
  sch : Sch w s p A n c xs B
  known : Memo Try.prog 3 w K (OKa p n xs)
  ns : s ≠ K
theorem Sta.grown {w w' : World} {s p : Nat} {A : Option Addr} {n c : Nat} {xs : List Int} {B K : Nat} (h : Sta w s p A n c xs B K) (hg : w.grownBy w' (some K)) (hm : Memo Try.prog 3 w' K (OKa p n xs)) : Sta w' s p A n c xs B K :=
  ⟨⟨h.sch.blk.grown hg (by simpa using h.ns), h.sch.sl.grown h.known hg⟩, hm, h.ns⟩
def AskTo (s p : Nat) (A : Option Addr) (n c : Nat) (xs : List Int) (B K m : Nat) : Prop :=
  ∀ g, (sel n g xs).length < m → ∀ W, Sta W s p A n c xs B K → Calls Try.prog 72 #[.pointer (some ⟨s, 0, none⟩), .int .i64 (mk n g), .map (some K)] W fun e w' => e = .returned (.int .i64 (askL p (sel n g xs))) ∧ W.grownBy w' (some K) ∧ Memo Try.prog 3 w' K (OKa p n xs)
theorem stepA_none {D : List Int → Int} {b : Int} {xs : List Int} {x : Int} (h : split xs x false = [] ∨ split xs x true = []) : stepA D b xs x = b := if_pos h
theorem stepA_some {D : List Int → Int} {b : Int} {xs : List Int} {x : Int} (h : ¬ (split xs x false = [] ∨ split xs x true = [])) : stepA D b xs x = 1 + max (D (split xs x false)) (D (split xs x true)) := if_neg h
theorem sel_t {n : Nat} {f : Nat → Bool} {xs : List Int} {x : Int} : split (sel n f xs) x true = sel n (fun i => f i && bitB (at0 xs i) x) xs := by
  rw [sel_split]
  exact sel_congr xs fun i _ => by simp
theorem sel_f {n : Nat} {f : Nat → Bool} {xs : List Int} {x : Int} : split (sel n f xs) x false = sel n (fun i => f i && !(f i && bitB (at0 xs i) x)) xs := by
  rw [sel_split]
  exact sel_congr xs fun i _ => by cases f i <;> simp

set_option maxRecDepth 100000 in
set_option maxHeartbeats 2000000 in
theorem askStep (s p : Nat) (A : Option Addr) (n c : Nat) (xs : List Int) (B K m : Nat) (HA : AskTo s p A n c xs B K m) (f : Nat → Bool) (hf : (sel n f xs).length ≤ m) (hp : p ≤ 60) (hn : n ≤ 16) (w : World) (hs : Sta w s p A n c xs B K) :
    Calls Try.prog 72 #[.pointer (some ⟨s, 0, none⟩), .int .i64 (mk n f), .map (some K)] w fun e w' => e = .returned (.int .i64 (askL p (sel n f xs))) ∧ w.grownBy w' (some K) ∧ Memo Try.prog 3 w' K (OKa p n xs) := by
  have HC := hid (countMk hn f xs w)
  have HS := hid hs
  have hlb := sel_len n f xs
  by_cases h1 : (sel n f xs).length = 1
  · rw [askL_one h1]
    rw [h1] at HC
    clear hs h1 hf HA hlb
    go_enter Try.func72, Try.ntmps72
    go_wp2_with fail
    refine (HC.out).mono ?_; rintro e w1 ⟨rfl, rfl⟩
    go_wp2
    go_ret
    exact ⟨rfl, grow_refl _ _, HS.out.known⟩
  have HE := hid (askL_eq (p := p) h1)
  generalize hq : (sel n f xs).length = q at *
  have h1' : ((q : Int) == 1) = false := by rw [beq_eq_false_iff_ne]; omega
  have h1'' : (q == 1) = false := by rw [beq_eq_false_iff_ne]; omega
  rcases hs.known.look K3 (t := 91) MI MI0 (key_mk (by omega) f) (.int .i64 (askL p (sel n f xs))) (fun v hv => hv f rfl) with hlk | hlk
  · have hlk0 : (Instr.lookup 91 (.map (some K)) (.int .i64 (mk n f)) true).run Try.prog w = .ok (.tuple #[.int .i64 (askL p (sel n f xs)), .bool true]) w := hlk 0
    clear hlk hs hf HA h1 hq hlb
    go_enter Try.func72, Try.ntmps72
    go_wp2_with fail
    refine (HC.out).mono ?_; rintro e w1 ⟨rfl, rfl⟩
    go_wp2
    go_ret
    exact ⟨rfl, grow_refl _ _, HS.out.known⟩
  · have hlk0 : (Instr.lookup 91 (.map (some K)) (.int .i64 (mk n f)) true).run Try.prog w = .ok (.tuple #[.int .i64 0, .bool false]) w := hlk 0
    have c0 := hs.sch.c0
    have HT := hid fun (x : Nat) (hx : x ≤ 60) W (hW : Sta W s p A n c xs B K) => withS s p A n c xs B f x ⟨by omega, by omega⟩ hn W hW.sch
    have HR := hid HA
    have HLF := hid hf
    have HU := hid fun W (hW : Memo Try.prog 3 W K (OKa p n xs)) => hW.update K3 (t := 91) MI (key_mk (n := n) (by omega) f) (val := .int .i64 (askL p (sel n f xs))) (fun g hg => by
      have e : sel n f xs = sel n g xs := sel_congr xs fun i hi => mk_inj (by simpa using hg) i hi
      rw [e])
    have HAN := hid fun g => mk_andNot (n := n) (show n ≤ 60 by omega) f g
    have HQ := hid hq
    have HPQ := hid hp
    clear hlk hs hf HA hn hp h1 hq hlb
    go_enter Try.func72, Try.ntmps72
    go_wp2_with fail
    refine (HC.out).mono ?_; rintro e w1 ⟨rfl, rfl⟩
    go_wp2
    clear c0 hlk0
    go_loopg [9, 31] p (fun gk o i wr => ∃ k : Nat, gk + k = p ∧ i = .int .i64 k ∧ o = .int .i64 (least (fun x => stepA (askL p) p (sel n f xs) x) p k) ∧ w.grownBy wr (some K) ∧ Memo Try.prog 3 wr K (OKa p n xs))
    case atStart => exact ⟨0, by omega, rfl, rfl, grow_refl _ _, HS.out.known⟩
    case round =>
      obtain ⟨k, hk, rfl, rfl, hg, hm⟩ := hrel
      have HK := hid hk; clear hk
      have hst := hid (HS.out.grown hg hm)
      have HG := hid hg
      clear hg hm
      by_cases hlt : k < p
      · have h60 : k < 60 := by have := HPQ.out; omega
        have hT := hid (HT.out k (by omega) _ hst.out)
        have pz := part_zero (n := n) (f := f) (xs := xs) (x := k)
        have ps := part_set (n := n) (f := f) (xs := xs) (x := k)
        have hlen := split_len (sel n f xs) k
        have est := sel_t (n := n) (f := f) (xs := xs) (x := k)
        have esf := sel_f (n := n) (f := f) (xs := xs) (x := k)
        have hAN := HAN.out (fun i => f i && bitB (at0 xs i) k)
        generalize hft : (fun i => f i && bitB (at0 xs i) k) = ft at *
        have hff : (fun i => f i && !(f i && bitB (at0 xs i) k)) = fun i => f i && !ft i := by rw [← hft]
        rw [hff] at esf hAN
        generalize (fun i => f i && !ft i) = ff at *
        clear hff hft
        have HP := hid (least_le (fun x => stepA (askL p) p (sel n f xs) x) p k)
        by_cases z1 : mk n ft = 0
        · have z1' : (mk n ft != 0) = false := by rw [bne_eq_false_iff_eq]; exact z1
          have HZ := hid (stepA_none (D := askL p) (b := (p : Int)) (.inr (pz.1 z1)))
          clear pz ps hlen z1 est esf hAN
          go_wp2_with fail
          refine (hT.out).mono ?_; rintro e w1 ⟨rfl, rfl⟩
          go_wp2
          go_roundg (gk - 1)
          case measure => have := HK.out; omega
          case rel => exact ⟨k + 1, by have := HK.out; omega, by go_num, int_eq (by simp only [least]; rw [HZ.out]; have := HP.out; omega), HG.out, hst.out.known⟩
        have z1' : (mk n ft != 0) = true := by rw [bne_iff_ne]; exact z1
        by_cases z0 : mk n ft = mk n f
        · have z0' : (mk n ft != mk n f) = false := by rw [bne_eq_false_iff_eq]; exact z0
          have HZ := hid (stepA_none (D := askL p) (b := (p : Int)) (.inl (ps.1 z0)))
          clear pz ps hlen z1 z0 est esf hAN
          go_wp2_with fail
          refine (hT.out).mono ?_; rintro e w1 ⟨rfl, rfl⟩
          go_wp2
          go_roundg (gk - 1)
          case measure => have := HK.out; omega
          case rel => exact ⟨k + 1, by have := HK.out; omega, by go_num, int_eq (by simp only [least]; rw [HZ.out]; have := HP.out; omega), HG.out, hst.out.known⟩
        have z0' : (mk n ft != mk n f) = true := by rw [bne_iff_ne]; exact z0
        have hno : ¬ (split (sel n f xs) k false = [] ∨ split (sel n f xs) k true = []) := fun h => h.elim (fun h => z0 (ps.2 h)) (fun h => z1 (pz.2 h))
        have HZ := hid (stepA_some (D := askL p) (b := (p : Int)) hno)
        have l0 : (split (sel n f xs) k false).length ≠ 0 := fun e => hno (.inl (List.eq_nil_of_length_eq_zero e))
        have l1 : (split (sel n f xs) k true).length ≠ 0 := fun e => hno (.inr (List.eq_nil_of_length_eq_zero e))
        have HF := HLF.out
        have hqq := HQ.out
        have R1 := hid fun W hW => HR.out ft (by rw [← est]; omega) W hW
        have R0 := hid fun W hW => HR.out ff (by rw [← esf]; omega) W hW
        rw [← est] at R1
        rw [← esf] at R0
        have n0 := askL_nonneg p _ (split (sel n f xs) k false) rfl
        have n1 := askL_nonneg p _ (split (sel n f xs) k true) rfl
        have u0 := askL_le p (split (sel n f xs) k false)
        have u1 := askL_le p (split (sel n f xs) k true)
        have hpb := HPQ.out
        generalize hd0 : askL p (split (sel n f xs) k false) = D0 at *
        generalize hd1 : askL p (split (sel n f xs) k true) = D1 at *
        generalize hbk : least (fun x => stepA (askL p) p (sel n f xs) x) p k = bk at *
        have HBK := hid hbk
        have b0 : D0 ≤ 60 := by omega
        have b1 : D1 ≤ 60 := by omega
        clear pz ps hlen z1 z0 est esf hno l0 l1 HF hqq hd0 hd1 hbk u0 u1 hpb h1' h1''
        go_wp2_with fail
        refine (hT.out).mono ?_; rintro e w1 ⟨rfl, rfl⟩
        go_wp2_with fail
        refine (R1.out _ hst.out).mono ?_; rintro e w2 ⟨rfl, g2, m2⟩
        have hst2 := hid (hst.out.grown g2 m2)
        have G2 := hid (grow_trans HG.out g2)
        clear g2 m2
        go_wp2_with fail
        refine (R0.out _ hst2.out).mono ?_; rintro e w3 ⟨rfl, g3, m3⟩
        have hst3 := hid (hst2.out.grown g3 m3)
        have G3 := hid (grow_trans G2.out g3)
        clear g3 m3
        go_wp2
        all_goals go_roundg (gk - 1)
        all_goals first
          | (have := HK.out; omega)
          | exact ⟨k + 1, by have := HK.out; omega, by go_num, int_eq (by simp only [least]; rw [HZ.out, HBK.out]; (try split) <;> omega), G3.out, hst3.out.known⟩
      · obtain rfl : k = p := by have := HK.out; omega
        obtain ⟨w3, hu, m3, g3⟩ := HU.out wr hst.out.known
        rw [HE.out] at hu
        have M3 := hid m3
        have G3 := hid (grow_trans HG.out g3)
        clear m3 g3
        go_wp2
        go_ret
        exact ⟨ret_i HE.out.symm, G3.out, M3.out⟩
theorem askS (s p : Nat) (A : Option Addr) (n c : Nat) (xs : List Int) (B K : Nat) (hp : p ≤ 60) (hn : n ≤ 16) : ∀ m, AskTo s p A n c xs B K m := by
  intro m
  induction m with
  | zero => intro g hg; omega
  | succ m ih => intro g hg W hW; exact askStep s p A n c xs B K m ih g (by omega) hp hn W hW

set_option maxRecDepth 100000 in
set_option maxHeartbeats 1000000 in
theorem askPub (p : Nat) (A : Option Addr) (n c : Nat) (xs : List Int) (w : World) (hs : Sl w A n c (xs.map (Value.int .i64))) (H : Cls p xs) :
    Calls Try.prog 43 #[.int .i64 p, .slice A n c] w fun e w' => e = .returned (.tuple #[.int .i64 (askL p xs), .int .i64 0]) ∧ Below w.heap.size w w' := by
  have hl := hs.numlen
  have hn : n ≤ 16 := by have := H.n16; omega
  have hp : p ≤ 60 := by have := H.p5; omega
  have HR := hid (readOk p A n c xs w (fun _ _ => True) hs H)
  have HW := hid fun s B K W (hW : Sta W s p A n c xs B K) => askS s p A n c xs B K hp hn (n + 1) (fun _ => true) (by have := sel_len n (fun _ => true) xs; omega) W hW
  have HA := hid fun s B W (hW : Sch W s p A n c xs B) => allS s p A n c xs B hn W hW
  have he : sel n (fun _ => true) xs = xs := by rw [← hl]; exact sel_all xs
  rw [he] at HW
  have hmm := @run_makeMap Try.prog
  clear he hs H hl hn hp
  go_enter Try.func43, Try.ntmps43
  go_wp2_with fail
  refine (HR.out).mono ?_; rintro e w1 ⟨s, B, rfl, hsz, hbz, hne, hsch, hm, hb⟩
  have HST := hid (show Sta (w1.alloc (.map #[] 0)) s p A n c xs B w1.heap.size from
    ⟨hsch.keep ((Below.refl _ _).alloc (Nat.le_refl _) _), Memo.made _, by have := hsch.blk.lt; omega⟩)
  have HB := hid hb
  clear hb hbz hsz hm
  go_wp2_with fail
  refine (HA.out s B _ hsch).mono ?_; rintro e w2 ⟨rfl, rfl⟩
  go_wp2_with fail
  refine (HW.out s B _ _ HST.out).mono ?_; rintro e w3 ⟨rfl, g3, m3⟩
  go_wp2
  go_ret2
  exact ⟨rfl, (HB.out.alloc HB.out.size _).grown g3 (by have := HB.out.size; simp; omega) fun k hk => by cases hk; exact HB.out.size⟩
set_option maxRecDepth 100000 in
theorem askBad (p : Int) (A : Option Addr) (n c : Nat) (xs : List Int) (w : World) (hs : Sl w A n c (xs.map (Value.int .i64))) (H : ¬ Cls p xs) :
    Calls Try.prog 43 #[.int .i64 p, .slice A n c] w fun e w' => e = .returned (.tuple #[.int .i64 0, .int .i64 2]) ∧ Below w.heap.size w w' := by
  have HR := hid (readBad p A n c xs w hs H)
  clear hs H
  go_enter Try.func43, Try.ntmps43
  go_wp2_with fail
  refine (HR.out).mono ?_; rintro e w1 ⟨rfl, hb⟩
  go_wp2
  go_ret2
  exact ⟨rfl, hb⟩

set_option maxRecDepth 100000 in
set_option maxHeartbeats 4000000 in
theorem refAsk (p : Nat) (hp : p ≤ 60) : ∀ (m : Nat) (A : Option Addr) (n c : Nat) (xs : List Int), xs.length ≤ m → m ≤ 1000 → ∀ w, Sl w A n c (xs.map (Value.int .i64)) →
    Calls Try.prog 45 #[.int .i64 p, .slice A n c] w fun e w' => e = .returned (.int .i64 (askL p xs)) ∧ Below w.heap.size w w' := by
  intro m
  induction m using Nat.strongRecOn with
  | _ m ih =>
    intro A n c xs hm hm1000 w hs
    have hl := hs.numlen
    by_cases h1 : n = 1
    · subst h1
      rw [askL_one hl]
      clear ih
      go_enter Try.func45, Try.ntmps45
      go_wp2
      go_ret
      exact ⟨rfl, Below.refl _ _⟩
    have h1' : ((n : Int) == 1) = false := by rw [beq_eq_false_iff_ne]; omega
    have h1'' : (n == 1) = false := by rw [beq_eq_false_iff_ne]; omega
    have hn1000 : n ≤ 1000 := by omega
    have HE := hid (askL_eq (p := p) (xs := xs) (by omega))
    have HS := hid hs
    have HL := hid fun x : Int => split_len xs x
    have HD := hid fun (k : Nat) (hk : k < m) (A' : Option Addr) (n' c' : Nat) (ys : List Int) (h : ys.length ≤ k) (W : World) (hW : Sl W A' n' c' (ys.map (Value.int .i64))) => ih k hk A' n' c' ys h (by omega) W hW
    have HXL := hid hl
    have HM := hid hm
    clear ih hm hl hs hm1000
    go_enter Try.func45, Try.ntmps45
    go_wp2
    clear h1' h1''
    go_loopg [5, 14] p (fun gk o i wr => ∃ k : Nat, gk + k = p ∧ i = .int .i64 k ∧ o = .int .i64 (least (fun x => stepA (askL p) p xs x) p k) ∧ Below w.heap.size w wr)
    case atStart => exact ⟨0, by omega, rfl, rfl, Below.refl _ _⟩
    case round =>
      obtain ⟨k, hk, rfl, rfl, hb⟩ := hrel
      have HK := hid hk; clear hk
      by_cases hlt : k < p
      · have hf : Fits (k : Int) := ⟨by omega, by omega⟩
        have h60 : k < 60 := by omega
        have hln := HL.out k
        have S0 := hid (refSplit0 A n c xs k hf hn1000 wr (HS.out.below hb))
        go_wp2_with fail
        refine (S0.out).mono ?_; rintro e w1 ⟨A1, c1, rfl, s1, b1⟩
        have hb1 : Below w.heap.size w w1 := below_call hb b1 hb.size
        have S1 := hid (refSplit1 A n c xs k hf hn1000 w1 (HS.out.below hb1))
        go_wp2_with fail
        refine (S1.out).mono ?_; rintro e w2 ⟨A2, c2, rfl, s2, b2⟩
        have hb2 : Below w.heap.size w w2 := below_call hb1 b2 hb1.size
        have s1' := s1.below b2
        have HN := hid fun h => stepA_none (D := askL p) (b := (p : Int)) (xs := xs) (x := k) h
        have HO := hid fun h => stepA_some (D := askL p) (b := (p : Int)) (xs := xs) (x := k) h
        have hl16 : xs.length ≤ 1000 := by have := HXL.out; omega
        have u0 := askL_le p (split xs k false)
        have u1 := askL_le p (split xs k true)
        have n0 := askL_nonneg p _ (split xs k false) rfl
        have n1 := askL_nonneg p _ (split xs k true) rfl
        generalize ea : split xs k false = us at *
        generalize eb : split xs k true = vs at *
        have HU := hid s1'; have HV := hid s2
        generalize eq0 : us.length = q0 at *
        generalize eq1 : vs.length = q1 at *
        clear b1 b2 s1 s1' s2
        have HP := hid (least_le (fun x => stepA (askL p) p xs x) p k)
        by_cases z0 : q0 = 0
        · have HZ := hid (HN.out (.inl (List.eq_nil_of_length_eq_zero (eq0.trans z0))))
          have hd0 : decide (0 < (q0 : Int)) = false := decide_eq_false (by omega)
          have hd1 : decide (0 < q0) = false := decide_eq_false (by omega)
          clear eq0 eq1 hln z0 ea eb
          go_wp2
          go_roundg (gk - 1)
          case measure => have := HK.out; omega
          case rel => exact ⟨k + 1, by have := HK.out; omega, by go_num, int_eq (by simp only [least]; rw [HZ.out]; have := HP.out; omega), hb2⟩
        have hd0 : decide (0 < (q0 : Int)) = true := decide_eq_true (by omega)
        have hd1 : decide (0 < q0) = true := decide_eq_true (by omega)
        by_cases z1 : q1 = 0
        · have HZ := hid (HN.out (.inr (List.eq_nil_of_length_eq_zero (eq1.trans z1))))
          have hd3 : decide (0 < (q1 : Int)) = false := decide_eq_false (by omega)
          have hd4 : decide (0 < q1) = false := decide_eq_false (by omega)
          clear eq0 eq1 hln z0 z1 ea eb
          go_wp2
          go_roundg (gk - 1)
          case measure => have := HK.out; omega
          case rel => exact ⟨k + 1, by have := HK.out; omega, by go_num, int_eq (by simp only [least]; rw [HZ.out]; have := HP.out; omega), hb2⟩
        have hd3 : decide (0 < (q1 : Int)) = true := decide_eq_true (by omega)
        have hd4 : decide (0 < q1) = true := decide_eq_true (by omega)
        have hu : us ≠ [] := fun e => z0 (by rw [← eq0, e]; rfl)
        have hv : vs ≠ [] := fun e => z1 (by rw [← eq1, e]; rfl)
        have HZ := hid (HO.out (fun h => h.elim hu hv))
        have hm0 := HM.out
        have D0 := hid fun W hW => HD.out q0 (by omega) A1 q0 c1 us (by omega) W hW
        have D1 := hid fun W hW => HD.out q1 (by omega) A2 q1 c2 vs (by omega) W hW
        clear eq0 eq1 hln z0 z1 ea eb hu hv hm0 hl16
        go_wp2_with fail
        refine (D0.out _ HU.out).mono ?_; rintro e w4 ⟨rfl, b4⟩
        have hb4 : Below w.heap.size w w4 := below_call hb2 b4 hb2.size
        have HV4 := hid (HV.out.below b4)
        clear b4
        go_wp2_with fail
        refine (D1.out _ HV4.out).mono ?_; rintro e w5 ⟨rfl, b5⟩
        have hb5 : Below w.heap.size w w5 := below_call hb4 b5 hb4.size
        clear b5
        go_wp2
        all_goals go_roundg (gk - 1)
        all_goals first
          | (have := HK.out; omega)
          | exact ⟨k + 1, by have := HK.out; omega, by go_num, int_eq (by simp only [least]; rw [HZ.out]; omega), hb5⟩
      · obtain rfl : k = p := by have := HK.out; omega
        go_wp2
        go_ret
        exact ⟨ret_i HE.out.symm, hb⟩
end Go.Proofs.Ytpebglilphgamaa
