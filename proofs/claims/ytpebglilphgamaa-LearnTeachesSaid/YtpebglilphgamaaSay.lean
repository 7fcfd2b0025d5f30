/- Walks of both learners, and of Say and Halve. Conditions: the slices read as lists. -/
import Derived.Test.YtpebglilphgamaaLeft
import Derived.Test.YtpebglilphgamaaSize
import Derived.Test.YtpebglilphgamaaWalkLeft
namespace Go.Proofs.Ytpebglilphgamaa
open Go.RowKit Go.Maps

/-- A truth value as a number. -/
def b01 (b : Bool) : Int := if b then 1 else 0
theorem b01_true : b01 true = 1 := rfl
theorem b01_false : b01 false = 0 := rfl

set_option maxRecDepth 100000 in
set_option maxHeartbeats 1000000 in
theorem carefulS (s p : Nat) (A : Option Addr) (n c : Nat) (xs : List Int) (B : Nat) (hp : p ≤ 60) (hn : n ≤ 16) (f : Nat → Bool) (x : Nat) (hx : x ≤ 60) (w : World) (hs : St w s p A n c xs B) :
    Calls Try.prog 61 #[.pointer (some ⟨s, 0, none⟩), .int .i64 (mk n f), .int .i64 x] w fun e w' => e = .returned (.int .i64 (b01 (careful p (sel n f xs) x))) ∧ w.grownBy w' (some B) ∧ Memo Try.prog 3 w' B (OKd p n xs) := by
  have hfx : Fits (x : Int) := ⟨by omega, by omega⟩
  have S0 := hid fun W (hW : St W s p A n c xs B) => saidS s p A n c xs B f x false hfx hn W hW.sch
  have S1 := hid fun W (hW : St W s p A n c xs B) => saidS s p A n c xs B f x true hfx hn W hW.sch
  have e0 := sel_split n f xs x false
  have e1 := sel_split n f xs x true
  have HD := hid fun g W (hW : St W s p A n c xs B) => dimS s p A n c xs B hp hn _ g (Nat.lt_succ_self _) W hW
  have hC : careful p (sel n f xs) x = decide (dimL p (split (sel n f xs) x false) < dimL p (split (sel n f xs) x true)) := rfl
  rw [hC, e0, e1]
  have HS := hid hs
  clear hs hC e0 e1
  generalize (fun i => f i && (bitB (at0 xs i) x == false)) = f0 at *
  generalize (fun i => f i && (bitB (at0 xs i) x == true)) = f1 at *
  have D0 := hid (HD.out f0)
  have D1 := hid (HD.out f1)
  clear HD
  by_cases h : dimL p (sel n f0 xs) < dimL p (sel n f1 xs)
  · have h' : decide (dimL p (sel n f0 xs) < dimL p (sel n f1 xs)) = true := decide_eq_true h
    rw [h']
    first | rw [b01_true] | rw [b01_false]
    clear h
    go_enter Try.func61, Try.ntmps61
    go_wp2_with fail
    refine (S0.out _ HS.out).mono ?_; rintro e w1 ⟨rfl, rfl⟩
    go_wp2_with fail
    refine (D0.out _ HS.out).mono ?_; rintro e w1 ⟨rfl, g1, m1⟩
    have hs1 := hid (HS.out.grown g1 m1)
    have G1 := hid g1
    clear g1 m1
    go_wp2_with fail
    refine (S1.out _ hs1.out).mono ?_; rintro e w2 ⟨rfl, rfl⟩
    go_wp2_with fail
    refine (D1.out _ hs1.out).mono ?_; rintro e w2 ⟨rfl, g2, m2⟩
    have G2 := hid (grow_trans G1.out g2)
    have M2 := hid m2
    clear g2 m2
    go_wp2
    go_ret
    exact ⟨rfl, G2.out, M2.out⟩
  · have h' : decide (dimL p (sel n f0 xs) < dimL p (sel n f1 xs)) = false := decide_eq_false h
    rw [h']
    first | rw [b01_true] | rw [b01_false]
    clear h
    go_enter Try.func61, Try.ntmps61
    go_wp2_with fail
    refine (S0.out _ HS.out).mono ?_; rintro e w1 ⟨rfl, rfl⟩
    go_wp2_with fail
    refine (D0.out _ HS.out).mono ?_; rintro e w1 ⟨rfl, g1, m1⟩
    have hs1 := hid (HS.out.grown g1 m1)
    have G1 := hid g1
    clear g1 m1
    go_wp2_with fail
    refine (S1.out _ hs1.out).mono ?_; rintro e w2 ⟨rfl, rfl⟩
    go_wp2_with fail
    refine (D1.out _ hs1.out).mono ?_; rintro e w2 ⟨rfl, g2, m2⟩
    have G2 := hid (grow_trans G1.out g2)
    have M2 := hid m2
    clear g2 m2
    go_wp2
    go_ret
    exact ⟨rfl, G2.out, M2.out⟩

set_option maxRecDepth 100000 in
set_option maxHeartbeats 1000000 in
theorem halvingS (s p : Nat) (A : Option Addr) (n c : Nat) (xs : List Int) (B : Nat) (_ : p ≤ 60) (hn : n ≤ 16) (f : Nat → Bool) (x : Nat) (hx : x ≤ 60) (w : World) (hs : St w s p A n c xs B) :
    Calls Try.prog 65 #[.pointer (some ⟨s, 0, none⟩), .int .i64 (mk n f), .int .i64 x] w fun e w' => e = .returned (.int .i64 (b01 (halving (sel n f xs) x))) ∧ w.grownBy w' (some B) ∧ Memo Try.prog 3 w' B (OKd p n xs) := by
  have hfx : Fits (x : Int) := ⟨by omega, by omega⟩
  have S1 := hid (withS s p A n c xs B f x hfx hn w hs.sch)
  have e1 : split (sel n f xs) x true = sel n (fun i => f i && bitB (at0 xs i) x) xs := (sel_split n f xs x true).trans (sel_congr xs fun i _ => by simp)
  have hC : halving (sel n f xs) x = decide ((sel n f xs).length < 2 * (split (sel n f xs) x true).length) := rfl
  rw [hC, e1]
  have hm := hid hs.memo
  clear hs hC e1
  generalize (fun i => f i && bitB (at0 xs i) x) = f1 at *
  have C0 := hid (countMk hn f xs w)
  have C1 := hid (countMk hn f1 xs w)
  have b0 := sel_len n f xs
  have b1 := sel_len n f1 xs
  generalize (sel n f xs).length = a0 at *
  generalize (sel n f1 xs).length = a1 at *
  by_cases h : a0 < 2 * a1
  · have h' : decide ((a0 : Int) < 2 * a1) = true := decide_eq_true (by omega)
    have h2 : decide (a0 < 2 * a1) = true := decide_eq_true h
    rw [h2]
    first | rw [b01_true] | rw [b01_false]
    clear h
    go_enter Try.func65, Try.ntmps65
    go_wp2_with fail
    refine (S1.out).mono ?_; rintro e w1 ⟨rfl, rfl⟩
    go_wp2_with fail
    refine (C1.out).mono ?_; rintro e w1 ⟨rfl, rfl⟩
    go_wp2_with fail
    refine (C0.out).mono ?_; rintro e w1 ⟨rfl, rfl⟩
    go_wp2
    go_ret
    exact ⟨rfl, grow_refl _ _, hm.out⟩
  · have h' : decide ((a0 : Int) < 2 * a1) = false := decide_eq_false (by omega)
    have h2 : decide (a0 < 2 * a1) = false := decide_eq_false h
    rw [h2]
    first | rw [b01_true] | rw [b01_false]
    clear h
    go_enter Try.func65, Try.ntmps65
    go_wp2_with fail
    refine (S1.out).mono ?_; rintro e w1 ⟨rfl, rfl⟩
    go_wp2_with fail
    refine (C1.out).mono ?_; rintro e w1 ⟨rfl, rfl⟩
    go_wp2_with fail
    refine (C0.out).mono ?_; rintro e w1 ⟨rfl, rfl⟩
    go_wp2
    go_ret
    exact ⟨rfl, grow_refl _ _, hm.out⟩

set_option maxRecDepth 100000 in
set_option maxHeartbeats 1000000 in
theorem saysCNone (p : Nat) (A : Option Addr) (n c : Nat) (xs : List Int) (H : Cls p xs) (E : Option Addr) (m d : Nat) (ls : List (Int × Int)) (X : Exs p ls) (x : Nat) (hx : x < p) (h0 : leftL xs ls = []) (w : World) (hs : Sl w A n c (xs.map (Value.int .i64))) (he : Sl2 w E m d ls) :
    Calls Try.prog 59 #[.int .i64 p, .slice A n c, .slice E m d, .int .i64 x, .func (.func 60) #[] #[]] w fun e w' => e = .returned (.tuple #[.int .i64 0, .int .i64 5]) ∧ Below w.heap.size w w' := by
  have hl := hs.numlen
  have hn : n ≤ 16 := by have := H.n16; omega
  have hp : p ≤ 60 := by have := H.p5; omega
  have hx0 : decide ((x : Int) < 0) = false := decide_eq_false (by omega)
  have hx1 : decide ((p : Int) ≤ x) = false := decide_eq_false (by omega)
  have hx2 : decide (p ≤ x) = false := decide_eq_false (by omega)
  have hx60 : x ≤ 60 := by omega
  have HR := hid (readOk p A n c xs w (OKd p n xs) hs H)
  have HF := hid fun s B W (hW : Sch W s p A n c xs B) (hW2 : Sl2 W E m d ls) => afterOk s p A n c xs B (by omega) hn E m d ls X W hW hW2
  have HE := hid he
  have he : sel n (fun _ => true) xs = xs := by rw [← hl]; exact sel_all xs
  rw [he] at HF
  have HG := hid fun s B f W (hW : St W s p A n c xs B) => carefulS s p A n c xs B hp hn f x hx60 W hW
  have H0 := hid h0
  clear he hs H hl X hx h0
  go_enter Try.func59, Try.ntmps59
  go_wp2_with fail
  refine (HR.out).mono ?_; rintro e w1 ⟨s, B, rfl, hsz, hbz, hne, hsch, hm, hb⟩
  have HB := hid hb
  have HBZ := hid hbz
  clear hb hbz hsz
  go_wp2_with fail
  refine (HF.out s B _ hsch (HE.out.below HB.out)).mono ?_; rintro e w2 ⟨g, rfl, hg, hb2⟩
  have HB2 := hid (below_call HB.out hb2 HB.out.size)
  have HST := hid (show St w2 s p A n c xs B from ⟨hsch.keep hb2, hm.keep hb2, hne⟩)
  have HGG := hid hg
  clear hg hb2 hsch hm
  have hz : (mk n g == 0) = true := by
    have := H0.out
    rw [← HGG.out] at this
    simpa using sel_nil.1 this
  go_wp2
  go_ret2
  exact ⟨rfl, HB2.out⟩

set_option maxRecDepth 100000 in
set_option maxHeartbeats 1000000 in
theorem saysCOk (p : Nat) (A : Option Addr) (n c : Nat) (xs : List Int) (H : Cls p xs) (E : Option Addr) (m d : Nat) (ls : List (Int × Int)) (X : Exs p ls) (x : Nat) (hx : x < p) (h0 : leftL xs ls ≠ []) (w : World) (hs : Sl w A n c (xs.map (Value.int .i64))) (he : Sl2 w E m d ls) :
    Calls Try.prog 59 #[.int .i64 p, .slice A n c, .slice E m d, .int .i64 x, .func (.func 60) #[] #[]] w fun e w' => e = .returned (.tuple #[.int .i64 (b01 (careful p (leftL xs ls) x)), .int .i64 0]) ∧ Below w.heap.size w w' := by
  have hl := hs.numlen
  have hn : n ≤ 16 := by have := H.n16; omega
  have hp : p ≤ 60 := by have := H.p5; omega
  have hx0 : decide ((x : Int) < 0) = false := decide_eq_false (by omega)
  have hx1 : decide ((p : Int) ≤ x) = false := decide_eq_false (by omega)
  have hx2 : decide (p ≤ x) = false := decide_eq_false (by omega)
  have hx60 : x ≤ 60 := by omega
  have HR := hid (readOk p A n c xs w (OKd p n xs) hs H)
  have HF := hid fun s B W (hW : Sch W s p A n c xs B) (hW2 : Sl2 W E m d ls) => afterOk s p A n c xs B (by omega) hn E m d ls X W hW hW2
  have HE := hid he
  have he : sel n (fun _ => true) xs = xs := by rw [← hl]; exact sel_all xs
  rw [he] at HF
  have HG := hid fun s B f W (hW : St W s p A n c xs B) => carefulS s p A n c xs B hp hn f x hx60 W hW
  have H0 := hid h0
  clear he hs H hl X hx h0
  go_enter Try.func59, Try.ntmps59
  go_wp2_with fail
  refine (HR.out).mono ?_; rintro e w1 ⟨s, B, rfl, hsz, hbz, hne, hsch, hm, hb⟩
  have HB := hid hb
  have HBZ := hid hbz
  clear hb hbz hsz
  go_wp2_with fail
  refine (HF.out s B _ hsch (HE.out.below HB.out)).mono ?_; rintro e w2 ⟨g, rfl, hg, hb2⟩
  have HB2 := hid (below_call HB.out hb2 HB.out.size)
  have HST := hid (show St w2 s p A n c xs B from ⟨hsch.keep hb2, hm.keep hb2, hne⟩)
  have HGG := hid hg
  clear hg hb2 hsch hm
  have hz : (mk n g == 0) = false := by
    have := H0.out
    rw [← HGG.out] at this
    simpa using fun e => this (sel_nil.2 e)
  have HG2 := hid (HG.out s B g _ HST.out)
  rw [HGG.out] at HG2
  go_wp2_with (first | (go_at_call 61; refine (HG2.out).mono ?_; rintro e w3 ⟨rfl, g3, m3⟩) | go_in)
  go_ret2
  exact ⟨rfl, HB2.out.grown g3 HB2.out.size fun k hk => by cases hk; exact HBZ.out⟩

set_option maxRecDepth 100000 in
set_option maxHeartbeats 1000000 in
theorem sayNone (p : Nat) (A : Option Addr) (n c : Nat) (xs : List Int) (H : Cls p xs) (E : Option Addr) (m d : Nat) (ls : List (Int × Int)) (X : Exs p ls) (x : Nat) (hx : x < p) (h0 : leftL xs ls = []) (w : World) (hs : Sl w A n c (xs.map (Value.int .i64))) (he : Sl2 w E m d ls) :
    Calls Try.prog 26 #[.int .i64 p, .slice A n c, .slice E m d, .int .i64 x] w fun e w' => e = .returned (.tuple #[.int .i64 0, .int .i64 5]) ∧ Below w.heap.size w w' := by
  have HG := hid (saysCNone p A n c xs H E m d ls X x hx h0 w hs he)
  clear H X hx hs he h0
  go_enter Try.func26, Try.ntmps26
  go_wp2_with (go_at_call 59; refine (HG.out).mono ?_; rintro e w3 ⟨rfl, b3⟩)
  go_ret2
  exact ⟨rfl, b3⟩

set_option maxRecDepth 100000 in
set_option maxHeartbeats 1000000 in
theorem sayOk (p : Nat) (A : Option Addr) (n c : Nat) (xs : List Int) (H : Cls p xs) (E : Option Addr) (m d : Nat) (ls : List (Int × Int)) (X : Exs p ls) (x : Nat) (hx : x < p) (h0 : leftL xs ls ≠ []) (w : World) (hs : Sl w A n c (xs.map (Value.int .i64))) (he : Sl2 w E m d ls) :
    Calls Try.prog 26 #[.int .i64 p, .slice A n c, .slice E m d, .int .i64 x] w fun e w' => e = .returned (.tuple #[.int .i64 (b01 (careful p (leftL xs ls) x)), .int .i64 0]) ∧ Below w.heap.size w w' := by
  have HG := hid (saysCOk p A n c xs H E m d ls X x hx h0 w hs he)
  clear H X hx hs he h0
  go_enter Try.func26, Try.ntmps26
  go_wp2_with (go_at_call 59; refine (HG.out).mono ?_; rintro e w3 ⟨rfl, b3⟩)
  go_ret2
  exact ⟨rfl, b3⟩

set_option maxRecDepth 100000 in
set_option maxHeartbeats 1000000 in
theorem saysCBad (p : Int) (A : Option Addr) (n c : Nat) (xs : List Int) (E : Option Addr) (m d : Nat) (ls : List (Int × Int)) (x : Int) (hno : ¬ (Cls p xs ∧ Exs p ls ∧ 0 ≤ x ∧ x < p)) (w : World) (hs : Sl w A n c (xs.map (Value.int .i64))) (he : Sl2 w E m d ls) :
    Calls Try.prog 59 #[.int .i64 p, .slice A n c, .slice E m d, .int .i64 x, .func (.func 60) #[] #[]] w fun e w' => e = .returned (.tuple #[.int .i64 0, .int .i64 2]) ∧ Below w.heap.size w w' := by
  by_cases H : Cls p xs
  · have hl := hs.numlen
    have hn : n ≤ 16 := by have := H.n16; omega
    have hp : p ≤ 60 := by have := H.p5; omega
    have HR := hid (readOk p A n c xs w (fun _ _ => True) hs H)
    by_cases hx0 : x < 0
    · have hx0' : decide (x < 0) = true := decide_eq_true hx0
      clear hno H hl hs he
      go_enter Try.func59, Try.ntmps59
      go_wp2_with fail
      refine (HR.out).mono ?_; rintro e w1 ⟨s, B, rfl, hsz, hbz, hne, hsch, hm, hb⟩
      go_wp2
      go_ret2
      exact ⟨rfl, hb⟩
    have hx0' : decide (x < 0) = false := decide_eq_false hx0
    by_cases hx1 : p ≤ x
    · have hx1' : decide (p ≤ x) = true := decide_eq_true hx1
      clear hno H hl hs he
      go_enter Try.func59, Try.ntmps59
      go_wp2_with fail
      refine (HR.out).mono ?_; rintro e w1 ⟨s, B, rfl, hsz, hbz, hne, hsch, hm, hb⟩
      go_wp2
      go_ret2
      exact ⟨rfl, hb⟩
    have hx1' : decide (p ≤ x) = false := decide_eq_false hx1
    have HF := hid fun s B W (hW : Sch W s p A n c xs B) (hW2 : Sl2 W E m d ls) => afterBad s p A n c xs B hp hn E m d ls (fun X => hno ⟨H, X, by omega, by omega⟩) W hW hW2
    have HE := hid he
    clear hno H hl hs he
    go_enter Try.func59, Try.ntmps59
    go_wp2_with fail
    refine (HR.out).mono ?_; rintro e w1 ⟨s, B, rfl, hsz, hbz, hne, hsch, hm, hb⟩
    go_wp2_with fail
    refine (HF.out s B _ hsch (HE.out.below hb)).mono ?_; rintro e w2 ⟨rfl, hb2⟩
    have hbb := below_call hb hb2 hb.size
    go_wp2
    go_ret2
    exact ⟨rfl, hbb⟩
  · have HR := hid (readBad p A n c xs w hs H)
    clear hs he H hno
    go_enter Try.func59, Try.ntmps59
    go_wp2_with fail
    refine (HR.out).mono ?_; rintro e w1 ⟨rfl, hb⟩
    go_wp2
    go_ret2
    exact ⟨rfl, hb⟩

set_option maxRecDepth 100000 in
set_option maxHeartbeats 1000000 in
theorem sayBad (p : Int) (A : Option Addr) (n c : Nat) (xs : List Int) (E : Option Addr) (m d : Nat) (ls : List (Int × Int)) (x : Int) (hno : ¬ (Cls p xs ∧ Exs p ls ∧ 0 ≤ x ∧ x < p)) (w : World) (hs : Sl w A n c (xs.map (Value.int .i64))) (he : Sl2 w E m d ls) :
    Calls Try.prog 26 #[.int .i64 p, .slice A n c, .slice E m d, .int .i64 x] w fun e w' => e = .returned (.tuple #[.int .i64 0, .int .i64 2]) ∧ Below w.heap.size w w' := by
  have HG := hid (saysCBad p A n c xs E m d ls x hno w hs he)
  clear hno hs he
  go_enter Try.func26, Try.ntmps26
  go_wp2_with (go_at_call 59; refine (HG.out).mono ?_; rintro e w3 ⟨rfl, b3⟩)
  go_ret2
  exact ⟨rfl, b3⟩

set_option maxRecDepth 100000 in
set_option maxHeartbeats 1000000 in
theorem saysHNone (p : Nat) (A : Option Addr) (n c : Nat) (xs : List Int) (H : Cls p xs) (E : Option Addr) (m d : Nat) (ls : List (Int × Int)) (X : Exs p ls) (x : Nat) (hx : x < p) (h0 : leftL xs ls = []) (w : World) (hs : Sl w A n c (xs.map (Value.int .i64))) (he : Sl2 w E m d ls) :
    Calls Try.prog 59 #[.int .i64 p, .slice A n c, .slice E m d, .int .i64 x, .func (.func 67) #[] #[]] w fun e w' => e = .returned (.tuple #[.int .i64 0, .int .i64 5]) ∧ Below w.heap.size w w' := by
  have hl := hs.numlen
  have hn : n ≤ 16 := by have := H.n16; omega
  have hp : p ≤ 60 := by have := H.p5; omega
  have hx0 : decide ((x : Int) < 0) = false := decide_eq_false (by omega)
  have hx1 : decide ((p : Int) ≤ x) = false := decide_eq_false (by omega)
  have hx2 : decide (p ≤ x) = false := decide_eq_false (by omega)
  have hx60 : x ≤ 60 := by omega
  have HR := hid (readOk p A n c xs w (OKd p n xs) hs H)
  have HF := hid fun s B W (hW : Sch W s p A n c xs B) (hW2 : Sl2 W E m d ls) => afterOk s p A n c xs B (by omega) hn E m d ls X W hW hW2
  have HE := hid he
  have he : sel n (fun _ => true) xs = xs := by rw [← hl]; exact sel_all xs
  rw [he] at HF
  have HG := hid fun s B f W (hW : St W s p A n c xs B) => halvingS s p A n c xs B hp hn f x hx60 W hW
  have H0 := hid h0
  clear he hs H hl X hx h0
  go_enter Try.func59, Try.ntmps59
  go_wp2_with fail
  refine (HR.out).mono ?_; rintro e w1 ⟨s, B, rfl, hsz, hbz, hne, hsch, hm, hb⟩
  have HB := hid hb
  have HBZ := hid hbz
  clear hb hbz hsz
  go_wp2_with fail
  refine (HF.out s B _ hsch (HE.out.below HB.out)).mono ?_; rintro e w2 ⟨g, rfl, hg, hb2⟩
  have HB2 := hid (below_call HB.out hb2 HB.out.size)
  have HST := hid (show St w2 s p A n c xs B from ⟨hsch.keep hb2, hm.keep hb2, hne⟩)
  have HGG := hid hg
  clear hg hb2 hsch hm
  have hz : (mk n g == 0) = true := by
    have := H0.out
    rw [← HGG.out] at this
    simpa using sel_nil.1 this
  go_wp2
  go_ret2
  exact ⟨rfl, HB2.out⟩

set_option maxRecDepth 100000 in
set_option maxHeartbeats 1000000 in
theorem saysHOk (p : Nat) (A : Option Addr) (n c : Nat) (xs : List Int) (H : Cls p xs) (E : Option Addr) (m d : Nat) (ls : List (Int × Int)) (X : Exs p ls) (x : Nat) (hx : x < p) (h0 : leftL xs ls ≠ []) (w : World) (hs : Sl w A n c (xs.map (Value.int .i64))) (he : Sl2 w E m d ls) :
    Calls Try.prog 59 #[.int .i64 p, .slice A n c, .slice E m d, .int .i64 x, .func (.func 67) #[] #[]] w fun e w' => e = .returned (.tuple #[.int .i64 (b01 (halving (leftL xs ls) x)), .int .i64 0]) ∧ Below w.heap.size w w' := by
  have hl := hs.numlen
  have hn : n ≤ 16 := by have := H.n16; omega
  have hp : p ≤ 60 := by have := H.p5; omega
  have hx0 : decide ((x : Int) < 0) = false := decide_eq_false (by omega)
  have hx1 : decide ((p : Int) ≤ x) = false := decide_eq_false (by omega)
  have hx2 : decide (p ≤ x) = false := decide_eq_false (by omega)
  have hx60 : x ≤ 60 := by omega
  have HR := hid (readOk p A n c xs w (OKd p n xs) hs H)
  have HF := hid fun s B W (hW : Sch W s p A n c xs B) (hW2 : Sl2 W E m d ls) => afterOk s p A n c xs B (by omega) hn E m d ls X W hW hW2
  have HE := hid he
  have he : sel n (fun _ => true) xs = xs := by rw [← hl]; exact sel_all xs
  rw [he] at HF
  have HG := hid fun s B f W (hW : St W s p A n c xs B) => halvingS s p A n c xs B hp hn f x hx60 W hW
  have H0 := hid h0
  clear he hs H hl X hx h0
  go_enter Try.func59, Try.ntmps59
  go_wp2_with fail
  refine (HR.out).mono ?_; rintro e w1 ⟨s, B, rfl, hsz, hbz, hne, hsch, hm, hb⟩
  have HB := hid hb
  have HBZ := hid hbz
  clear hb hbz hsz
  go_wp2_with fail
  refine (HF.out s B _ hsch (HE.out.below HB.out)).mono ?_; rintro e w2 ⟨g, rfl, hg, hb2⟩
  have HB2 := hid (below_call HB.out hb2 HB.out.size)
  have HST := hid (show St w2 s p A n c xs B from ⟨hsch.keep hb2, hm.keep hb2, hne⟩)
  have HGG := hid hg
  clear hg hb2 hsch hm
  have hz : (mk n g == 0) = false := by
    have := H0.out
    rw [← HGG.out] at this
    simpa using fun e => this (sel_nil.2 e)
  have HG2 := hid (HG.out s B g _ HST.out)
  rw [HGG.out] at HG2
  go_wp2_with (first | (go_at_call 65; refine (HG2.out).mono ?_; rintro e w3 ⟨rfl, g3, m3⟩) | go_in)
  go_ret2
  exact ⟨rfl, HB2.out.grown g3 HB2.out.size fun k hk => by cases hk; exact HBZ.out⟩

set_option maxRecDepth 100000 in
set_option maxHeartbeats 1000000 in
theorem halveNone (p : Nat) (A : Option Addr) (n c : Nat) (xs : List Int) (H : Cls p xs) (E : Option Addr) (m d : Nat) (ls : List (Int × Int)) (X : Exs p ls) (x : Nat) (hx : x < p) (h0 : leftL xs ls = []) (w : World) (hs : Sl w A n c (xs.map (Value.int .i64))) (he : Sl2 w E m d ls) :
    Calls Try.prog 34 #[.int .i64 p, .slice A n c, .slice E m d, .int .i64 x] w fun e w' => e = .returned (.tuple #[.int .i64 0, .int .i64 5]) ∧ Below w.heap.size w w' := by
  have HG := hid (saysHNone p A n c xs H E m d ls X x hx h0 w hs he)
  clear H X hx hs he h0
  go_enter Try.func34, Try.ntmps34
  go_wp2_with (go_at_call 59; refine (HG.out).mono ?_; rintro e w3 ⟨rfl, b3⟩)
  go_ret2
  exact ⟨rfl, b3⟩

set_option maxRecDepth 100000 in
set_option maxHeartbeats 1000000 in
theorem halveOk (p : Nat) (A : Option Addr) (n c : Nat) (xs : List Int) (H : Cls p xs) (E : Option Addr) (m d : Nat) (ls : List (Int × Int)) (X : Exs p ls) (x : Nat) (hx : x < p) (h0 : leftL xs ls ≠ []) (w : World) (hs : Sl w A n c (xs.map (Value.int .i64))) (he : Sl2 w E m d ls) :
    Calls Try.prog 34 #[.int .i64 p, .slice A n c, .slice E m d, .int .i64 x] w fun e w' => e = .returned (.tuple #[.int .i64 (b01 (halving (leftL xs ls) x)), .int .i64 0]) ∧ Below w.heap.size w w' := by
  have HG := hid (saysHOk p A n c xs H E m d ls X x hx h0 w hs he)
  clear H X hx hs he h0
  go_enter Try.func34, Try.ntmps34
  go_wp2_with (go_at_call 59; refine (HG.out).mono ?_; rintro e w3 ⟨rfl, b3⟩)
  go_ret2
  exact ⟨rfl, b3⟩

set_option maxRecDepth 100000 in
set_option maxHeartbeats 1000000 in
theorem saysHBad (p : Int) (A : Option Addr) (n c : Nat) (xs : List Int) (E : Option Addr) (m d : Nat) (ls : List (Int × Int)) (x : Int) (hno : ¬ (Cls p xs ∧ Exs p ls ∧ 0 ≤ x ∧ x < p)) (w : World) (hs : Sl w A n c (xs.map (Value.int .i64))) (he : Sl2 w E m d ls) :
    Calls Try.prog 59 #[.int .i64 p, .slice A n c, .slice E m d, .int .i64 x, .func (.func 67) #[] #[]] w fun e w' => e = .returned (.tuple #[.int .i64 0, .int .i64 2]) ∧ Below w.heap.size w w' := by
  by_cases H : Cls p xs
  · have hl := hs.numlen
    have hn : n ≤ 16 := by have := H.n16; omega
    have hp : p ≤ 60 := by have := H.p5; omega
    have HR := hid (readOk p A n c xs w (fun _ _ => True) hs H)
    by_cases hx0 : x < 0
    · have hx0' : decide (x < 0) = true := decide_eq_true hx0
      clear hno H hl hs he
      go_enter Try.func59, Try.ntmps59
      go_wp2_with fail
      refine (HR.out).mono ?_; rintro e w1 ⟨s, B, rfl, hsz, hbz, hne, hsch, hm, hb⟩
      go_wp2
      go_ret2
      exact ⟨rfl, hb⟩
    have hx0' : decide (x < 0) = false := decide_eq_false hx0
    by_cases hx1 : p ≤ x
    · have hx1' : decide (p ≤ x) = true := decide_eq_true hx1
      clear hno H hl hs he
      go_enter Try.func59, Try.ntmps59
      go_wp2_with fail
      refine (HR.out).mono ?_; rintro e w1 ⟨s, B, rfl, hsz, hbz, hne, hsch, hm, hb⟩
      go_wp2
      go_ret2
      exact ⟨rfl, hb⟩
    have hx1' : decide (p ≤ x) = false := decide_eq_false hx1
    have HF := hid fun s B W (hW : Sch W s p A n c xs B) (hW2 : Sl2 W E m d ls) => afterBad s p A n c xs B hp hn E m d ls (fun X => hno ⟨H, X, by omega, by omega⟩) W hW hW2
    have HE := hid he
    clear hno H hl hs he
    go_enter Try.func59, Try.ntmps59
    go_wp2_with fail
    refine (HR.out).mono ?_; rintro e w1 ⟨s, B, rfl, hsz, hbz, hne, hsch, hm, hb⟩
    go_wp2_with fail
    refine (HF.out s B _ hsch (HE.out.below hb)).mono ?_; rintro e w2 ⟨rfl, hb2⟩
    have hbb := below_call hb hb2 hb.size
    go_wp2
    go_ret2
    exact ⟨rfl, hbb⟩
  · have HR := hid (readBad p A n c xs w hs H)
    clear hs he H hno
    go_enter Try.func59, Try.ntmps59
    go_wp2_with fail
    refine (HR.out).mono ?_; rintro e w1 ⟨rfl, hb⟩
    go_wp2
    go_ret2
    exact ⟨rfl, hb⟩

set_option maxRecDepth 100000 in
set_option maxHeartbeats 1000000 in
theorem halveBad (p : Int) (A : Option Addr) (n c : Nat) (xs : List Int) (E : Option Addr) (m d : Nat) (ls : List (Int × Int)) (x : Int) (hno : ¬ (Cls p xs ∧ Exs p ls ∧ 0 ≤ x ∧ x < p)) (w : World) (hs : Sl w A n c (xs.map (Value.int .i64))) (he : Sl2 w E m d ls) :
    Calls Try.prog 34 #[.int .i64 p, .slice A n c, .slice E m d, .int .i64 x] w fun e w' => e = .returned (.tuple #[.int .i64 0, .int .i64 2]) ∧ Below w.heap.size w w' := by
  have HG := hid (saysHBad p A n c xs E m d ls x hno w hs he)
  clear hno hs he
  go_enter Try.func34, Try.ntmps34
  go_wp2_with (go_at_call 59; refine (HG.out).mono ?_; rintro e w3 ⟨rfl, b3⟩)
  go_ret2
  exact ⟨rfl, b3⟩
end Go.Proofs.Ytpebglilphgamaa
