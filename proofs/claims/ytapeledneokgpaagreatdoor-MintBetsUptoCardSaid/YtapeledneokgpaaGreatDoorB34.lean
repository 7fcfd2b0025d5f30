/- Texts of this proof, one behind the other; each says its condition at its head. -/
import Derived.Test.YtapeledneokgpaaGreatDoorB32
import Derived.Test.YtapeledneokgpaaGreatDoorB33
import Derived.Test.YtapeledneokgpaaGreatDoorB31
import Derived.Test.YtapeledneokgpaaGreatDoorB30
/- Walk of the question price. Conditions: what a mint's books keep; the bets are sound; the library's variables stand. -/
namespace Go.Proofs.YtapeledneokgpaaGreatDoor
open Go.RowKit Go.Maps
def sPrice : ByteArray := ⟨#[112, 114, 105, 99, 101]⟩
/-- What 'price' replies. -/
def replyPrice (s : Bk) (e : Nat) : ByteArray × Nat := if e < 8 then (numd sPrice (priceL (allB s.bets) e), 0) else (ByteArray.empty, 2)
theorem price_lt {l : List (Int × Int)} {e : Int} {c : Nat} (h : c ∈ priceL l e) : c < 13 := (price_mem.1 h).1
theorem price_len (l : List (Int × Int)) (e : Int) : (priceL l e).length ≤ 13 := by
 unfold priceL
 exact Nat.le_trans (List.length_filter_le _ _) (by simp)
theorem toldPrice (l : List (Int × Int)) (e : Int) (O : Option Addr) (oc : Nat) (W : World) (h : Sl W O (priceL l e).length oc (nV (priceL l e))) (he : EnvN W) :
 Calls Tryz.prog 168 #[.int .i64 0, .string sPrice, .slice O (priceL l e).length oc] W fun x w' => x = .returned (.tuple #[.string (numd sPrice (priceL l e)), .int .i64 0]) ∧ Below W.heap.size W w' :=
 toldF sPrice O _ oc (priceL l e) W h (fun _ hi => Nat.lt_trans (price_lt hi) (by decide)) (by decide) (Nat.le_trans (price_len l e) (by decide)) he
set_option maxRecDepth 100000 in
set_option maxHeartbeats 4000000 in
theorem priceQ (s : Bk) (hs : BkT s) (hn : SndI s) (e : Nat) (he : e ≤ 1000) : AskC 125 s [] [(e : Int)] (replyPrice s e) := by
 intro w G sb A c D d hst hA hD hE hT
 obtain ⟨M, mc, U, uc, Q, pc, T, tc, E, ec, g1, _, _, _, _, g6, _, _, _, _, _, _⟩ := hst.ex
 have hok := allB_ok hs.bk.1.bet
 unfold SndI at hn
 have B1 := (Below.refl w.heap.size w).alloc (Nat.le_refl _) (.cells #[.slice A 0 c, .slice D 1 d] 139)
 have HB1 := hid B1
 have c5 := (g1.keep B1).cell 9
 have H3 := hid (Blk.new w 139 #[.slice A 0 c, .slice D 1 d])
 have l1 := H3.out.cell 1
 simp only [stV, List.getElem?_toArray, List.getElem?_cons_zero, List.getElem?_cons_succ] at c5 l1
 have HE2 := hid (g6.below B1)
 have HEN := hid (hE.keep B1)
 obtain ⟨db, dd, u, rfl, lb, e1, hd0⟩ := hD.at (k := 0) (by simp)
 obtain rfl : u = .int .i64 (e : Nat) := by simpa [intV] using e1.symm
 have d0 := cell_keep B1 hd0
 rw [Nat.add_zero] at d0
 have hfull := price_len (allB s.bets) e
 unfold replyPrice
 have hal : allB s.bets = if s.bets.length = 0 then [(0, 0)] else s.bets := rfl
 clear hs hst hA hD hE hT g1 B1 e1 hd0 lb H3
 generalize hnl : s.bets.length = n at *
 obtain ⟨W, hW⟩ : ∃ W, W = w.alloc (.cells #[.slice A 0 c, .slice (some ⟨db, dd, none⟩) 1 d] 139) := ⟨_, rfl⟩
 rw [← hW] at HB1 c5 l1 HE2 HEN d0
 by_cases h0 : n = 0
 · rw [if_pos h0] at hal
   rw [hal] at hok hn hfull ⊢
   subst h0
   have bA := (Below.refl W.heap.size W).alloc (Nat.le_refl _) (.cells #[.int .i64 0, .int .i64 0] 65)
   have hsl : Sl2 (W.alloc (.cells #[.int .i64 0, .int .i64 0] 65)) (some ⟨W.heap.size, 0, none⟩) 1 1 [(0, 0)] := ⟨rfl, Nat.le_refl _, by unfold maxLen; omega, fun _ => ⟨W.heap.size, 0, rfl, by simp, fun j u hu => by
    match j, hu with
    | 0, hu =>
     cases hu
     exact ⟨(Blk.new W 65 #[.int .i64 0, .int .i64 0]).cell 0, (Blk.new W 65 #[.int .i64 0, .int .i64 0]).cell 1⟩⟩⟩
   have HAB := hid (below_call HB1.out bA HB1.out.size)
   have HAEN := hid (HEN.out.keep bA)
   have hsz : W.heap.size = w.heap.size + 1 := by rw [hW]; simp
   have d0 := cell_keep bA d0
   have l1 := cell_keep bA l1
   by_cases h8 : e < 8
   · rw [if_pos h8]
     have HP := hid (priceF _ _ _ _ e h8 _ hsl hok hn)
     have HTL := hid fun O oc W2 hsl2 hen => toldPrice [(0, 0)] e O oc W2 hsl2 hen
     clear hsl bA hok hn hfull hal h8
     rw [hsz] at HP
     generalize numd sPrice (priceL [(0, 0)] e) = rep at *
     generalize (priceL [(0, 0)] e).length = pl at *
     generalize priceL [(0, 0)] e = pv at *
     unfold sPrice at HTL
     subst hW
     go_enter Tryz.func125, Tryz.ntmps125
     go_wp2_with fail
     refine (HP.out).mono ?_; rintro r w2 ⟨O, oc, rfl, ho, b2⟩
     have HT2 := hid (HTL.out O oc w2 ho (HAEN.out.keep b2))
     have HB2 := hid (below_call HAB.out b2 HAB.out.size)
     clear HTL HP ho b2
     go_wp2_with fail
     refine (HT2.out).mono ?_; rintro r w3 ⟨rfl, b3⟩
     have HB3 := hid (below_call HB2.out b3 HB2.out.size)
     clear b3 HT2
     go_wp2
     go_ret2
     exact ⟨rfl, HB3.out⟩
   · rw [if_neg h8]
     have HP := hid (priceNo _ _ _ _ e he h8 _ hsl hok)
     rw [hsz] at HP
     have HTL := hid fun W2 => toldErr 2 (by decide) sPrice none 0 0 W2
     clear hsl bA hok hn hfull hal h8
     unfold sPrice at HTL
     subst hW
     go_enter Tryz.func125, Tryz.ntmps125
     go_wp2_with fail
     refine (HP.out).mono ?_; rintro r w2 ⟨rfl, b2⟩
     have HB2 := hid (below_call HAB.out b2 HAB.out.size)
     clear HP b2
     go_wp2_with fail
     refine (HTL.out _).mono ?_; rintro r w3 ⟨rfl, rfl⟩
     go_wp2
     go_ret2
     exact ⟨rfl, HB2.out⟩
 · rw [if_neg h0] at hal
   rw [hal] at hok hn hfull ⊢
   have hz : ((n : Int) == 0) = false := by rw [beq_eq_false_iff_ne]; omega
   have hz2 : (n == 0) = false := by rw [beq_eq_false_iff_ne]; exact h0
   have HAB := HB1
   have HAEN := HEN
   have hsl := HE2.out
   clear h0
   by_cases h8 : e < 8
   · rw [if_pos h8]
     have HP := hid (priceF _ _ _ _ e h8 _ hsl hok hn)
     have HTL := hid fun O oc W2 hsl2 hen => toldPrice s.bets e O oc W2 hsl2 hen
     clear hsl hok hn hfull hal h8
     skip
     generalize numd sPrice (priceL s.bets e) = rep at *
     generalize (priceL s.bets e).length = pl at *
     generalize priceL s.bets e = pv at *
     unfold sPrice at HTL
     subst hW
     go_enter Tryz.func125, Tryz.ntmps125
     go_wp2_with fail
     refine (HP.out).mono ?_; rintro r w2 ⟨O, oc, rfl, ho, b2⟩
     have HT2 := hid (HTL.out O oc w2 ho (HAEN.out.keep b2))
     have HB2 := hid (below_call HAB.out b2 HAB.out.size)
     clear HTL HP ho b2
     go_wp2_with fail
     refine (HT2.out).mono ?_; rintro r w3 ⟨rfl, b3⟩
     have HB3 := hid (below_call HB2.out b3 HB2.out.size)
     clear b3 HT2
     go_wp2
     go_ret2
     exact ⟨rfl, HB3.out⟩
   · rw [if_neg h8]
     have HP := hid (priceNo _ _ _ _ e he h8 _ hsl hok)
     skip
     have HTL := hid fun W2 => toldErr 2 (by decide) sPrice none 0 0 W2
     clear hsl hok hn hfull hal h8
     unfold sPrice at HTL
     subst hW
     go_enter Tryz.func125, Tryz.ntmps125
     go_wp2_with fail
     refine (HP.out).mono ?_; rintro r w2 ⟨rfl, b2⟩
     have HB2 := hid (below_call HAB.out b2 HAB.out.size)
     clear HP b2
     go_wp2_with fail
     refine (HTL.out _).mono ?_; rintro r w3 ⟨rfl, rfl⟩
     go_wp2
     go_ret2
     exact ⟨rfl, HB2.out⟩
end Go.Proofs.YtapeledneokgpaaGreatDoor
/- The question price at closed texts. Conditions: what a mint's books keep; the bets are sound; the library's variables stand. -/
namespace Go.Proofs.YtapeledneokgpaaGreatDoor
open Go.RowKit Go.Maps
/-- What is asked of a text that asks for the price of an event. -/
def PrT (x : ByteArray) (e : Nat) : Prop := x.size ≤ 100000000 ∧ asS questionsL (.string (wordOf x)) = some (.agg #[.int .i64 (0 : Nat), .int .i64 (1 : Nat), .nilFunc, .func (.func 125) #[] #[]]) ∧ readP 0 1 (parts x).tail = some ([], [(e : Int)]) ∧ isLn x = true
def prX (c : UInt8) : ByteArray := ⟨#[112, 114, 105, 99, 101, 32, c]⟩
set_option maxRecDepth 100000 in
theorem prT0 : PrT (prX 48) 0 := by
 refine ⟨?_, ?_, ?_, ?_⟩
 · exact Nat.le_of_ble_eq_true rfl
 · kernel_rfl
 · kernel_rfl
 · kernel_rfl
theorem prN0 : numd sPrice [0] = prX 48 := by kernel_rfl
set_option maxRecDepth 100000 in
theorem prT1 : PrT (prX 49) 1 := by
 refine ⟨?_, ?_, ?_, ?_⟩
 · exact Nat.le_of_ble_eq_true rfl
 · kernel_rfl
 · kernel_rfl
 · kernel_rfl
theorem prN1 : numd sPrice [1] = prX 49 := by kernel_rfl
set_option maxRecDepth 100000 in
theorem prT2 : PrT (prX 50) 2 := by
 refine ⟨?_, ?_, ?_, ?_⟩
 · exact Nat.le_of_ble_eq_true rfl
 · kernel_rfl
 · kernel_rfl
 · kernel_rfl
theorem prN2 : numd sPrice [2] = prX 50 := by kernel_rfl
set_option maxRecDepth 100000 in
theorem prT3 : PrT (prX 51) 3 := by
 refine ⟨?_, ?_, ?_, ?_⟩
 · exact Nat.le_of_ble_eq_true rfl
 · kernel_rfl
 · kernel_rfl
 · kernel_rfl
theorem prN3 : numd sPrice [3] = prX 51 := by kernel_rfl
set_option maxRecDepth 100000 in
theorem prT4 : PrT (prX 52) 4 := by
 refine ⟨?_, ?_, ?_, ?_⟩
 · exact Nat.le_of_ble_eq_true rfl
 · kernel_rfl
 · kernel_rfl
 · kernel_rfl
theorem prN4 : numd sPrice [4] = prX 52 := by kernel_rfl
set_option maxRecDepth 100000 in
theorem prT5 : PrT (prX 53) 5 := by
 refine ⟨?_, ?_, ?_, ?_⟩
 · exact Nat.le_of_ble_eq_true rfl
 · kernel_rfl
 · kernel_rfl
 · kernel_rfl
theorem prN5 : numd sPrice [5] = prX 53 := by kernel_rfl
set_option maxRecDepth 100000 in
theorem prT6 : PrT (prX 54) 6 := by
 refine ⟨?_, ?_, ?_, ?_⟩
 · exact Nat.le_of_ble_eq_true rfl
 · kernel_rfl
 · kernel_rfl
 · kernel_rfl
theorem prN6 : numd sPrice [6] = prX 54 := by kernel_rfl
set_option maxRecDepth 100000 in
theorem prT7 : PrT (prX 55) 7 := by
 refine ⟨?_, ?_, ?_, ?_⟩
 · exact Nat.le_of_ble_eq_true rfl
 · kernel_rfl
 · kernel_rfl
 · kernel_rfl
theorem prN7 : numd sPrice [7] = prX 55 := by kernel_rfl
set_option maxRecDepth 100000 in
theorem prT8 : PrT (prX 56) 8 := by
 refine ⟨?_, ?_, ?_, ?_⟩
 · exact Nat.le_of_ble_eq_true rfl
 · kernel_rfl
 · kernel_rfl
 · kernel_rfl
theorem prN8 : numd sPrice [8] = prX 56 := by kernel_rfl
theorem prT_all (e : Nat) (he : e < 9) : PrT (numd sPrice [e]) e := by
 rcases (show e = 0 ∨ e = 1 ∨ e = 2 ∨ e = 3 ∨ e = 4 ∨ e = 5 ∨ e = 6 ∨ e = 7 ∨ e = 8 by omega) with rfl | rfl | rfl | rfl | rfl | rfl | rfl | rfl | rfl
 · rw [prN0]; exact prT0
 · rw [prN1]; exact prT1
 · rw [prN2]; exact prT2
 · rw [prN3]; exact prT3
 · rw [prN4]; exact prT4
 · rw [prN5]; exact prT5
 · rw [prN6]; exact prT6
 · rw [prN7]; exact prT7
 · rw [prN8]; exact prT8
theorem mintPriceQ (e : Nat) (he : e < 9) (R : Nat → Prop) (m : Nat) (d : Value) (L : List (Nat × Nat)) (k : Int) (s : Bk) (J : List ByteArray) (out : Bool) (w : World) (hm : MinM w R m d L k s J out) (hs : BkT s) (hn : SndI s) (hE : EnvN w) (hT : Tab w) :
 Calls Tryz.prog 12 #[.pointer (some ⟨m, 0, none⟩), .string (numd sPrice [e])] w (AskR w (replyPrice s e)) := by
 obtain ⟨h1, h2, h3, h4⟩ := prT_all e he
 exact mintAskF R m d L k s J out _ (replyPrice s e) w hm fun sb hst => askYes 0 1 125 (by decide) R sb s _ [] [(e : Int)] (replyPrice s e) h1 w hE hT hst h2 (fun args W => enters Tryz.func125 (by kernel_rfl) rfl args W) h3 h4 (priceQ s hs hn e (by omega))
end Go.Proofs.YtapeledneokgpaaGreatDoor
/- Plain law of the corners of bets: of any belief that agrees there is a corner that gives no more of any weight. No program in sight. -/
namespace Go.Proofs.YtapeledneokgpaaGreatDoor
open Go.RowKit
/-- A belief as a function of its world. -/
def evV (e : Int) (b : Nat → Int) : Int := evB e (b 0) (b 1) (b 2)
/-- A belief on D scales that agrees. -/
structure AgD (l : List (Int × Int)) (D : Int) (b : Nat → Int) : Prop where
 pos : 0 < D
 nn : ∀ v, v < 3 → 0 ≤ b v
 row : ∀ i, i < l.length + 1 → evV (evE l i) b = D * rtE l i
theorem supp_row {D : Int} {l : List (Int × Int)} {s : Nat} (h1 : 1 ≤ s) (h8 : s < 8) {b : Nat → Int} (hz : ∀ v, v < 3 → s.testBit v = false → b v = 0) (i : Nat) : linF D (wsOf s).length (eqF l (wsOf s)) (fun c => b ((wsOf s).getD c 0)) i = 12 * evV (evE l i) b - D * (12 * rtE l i) := by
 rw [row_lin]
 unfold evV evB
 rcases (show s = 1 ∨ s = 2 ∨ s = 3 ∨ s = 4 ∨ s = 5 ∨ s = 6 ∨ s = 7 by omega) with rfl | rfl | rfl | rfl | rfl | rfl | rfl
 · rw [show wsOf 1 = [0] from rfl, hz 1 (by decide) (by decide), hz 2 (by decide) (by decide)]
   simp [linS, m12]
 · rw [show wsOf 2 = [1] from rfl, hz 0 (by decide) (by decide), hz 2 (by decide) (by decide)]
   simp [linS, m12]
 · rw [show wsOf 3 = [0, 1] from rfl, hz 2 (by decide) (by decide)]
   simp [linS, m12]; omega
 · rw [show wsOf 4 = [2] from rfl, hz 0 (by decide) (by decide), hz 1 (by decide) (by decide)]
   simp [linS, m12]
 · rw [show wsOf 5 = [0, 2] from rfl, hz 1 (by decide) (by decide)]
   simp [linS, m12]; omega
 · rw [show wsOf 6 = [1, 2] from rfl, hz 0 (by decide) (by decide)]
   simp [linS, m12]; omega
 · rw [show wsOf 7 = [0, 1, 2] from rfl]
   simp [linS, m12]; omega
/-- What is said of the columns, said of the worlds. -/
theorem supp_up {s : Nat} (h1 : 1 ≤ s) (h8 : s < 8) (y : Nat → Int) : ∃ yb : Nat → Int, (∀ v, v < 3 → s.testBit v = false → yb v = 0) ∧ ∀ c, c < (wsOf s).length → yb ((wsOf s).getD c 0) = y c := by
 refine ⟨fun v => if s.testBit v = true then y ((wsOf s).idxOf v) else 0, fun v _ h => by simp [h], fun c hc => ?_⟩
 have key : ∀ s : Fin 8, ∀ c : Fin 3, c.val < (wsOf s.val).length → s.val.testBit ((wsOf s.val).getD c.val 0) = true ∧ (wsOf s.val).idxOf ((wsOf s.val).getD c.val 0) = c.val := by decide
 have hk := wsOf_len ⟨s, h8⟩ h1
 simp only at hk
 have := key ⟨s, h8⟩ ⟨c, by omega⟩ hc
 simp only at this
 simp only
 rw [if_pos this.1, this.2]
theorem linF_congr {D : Int} {k : Nat} {f : Mx} {x y : Nat → Int} {i : Nat} (h : ∀ c, c < k → x c = y c) : linF D k f x i = linF D k f y i := by
 unfold linF
 congr 1
 have : ∀ n, n ≤ k → linS (f i) x n = linS (f i) y n := fun n => by
  induction n with
  | zero => intro _; rfl
  | succ n ih => intro hn; unfold linS; rw [ih (by omega), h n (by omega)]
 exact this k (Nat.le_refl _)
theorem supp_belief {s : Nat} (h1 : 1 ≤ s) (h8 : s < 8) {D : Int} {b : Nat → Int} (hz : ∀ v, v < 3 → s.testBit v = false → b v = 0) {xs : List Int} (hlen : xs.length = (wsOf s).length) (hx : ∀ c, c < (wsOf s).length → b ((wsOf s).getD c 0) = D * xs.getD c 0) :
 ∃ c0 c1 c2, beliefOf (wsOf s) xs = [c0, c1, c2] ∧ b 0 = D * c0 ∧ b 1 = D * c1 ∧ b 2 = D * c2 := by
 rcases (show s = 1 ∨ s = 2 ∨ s = 3 ∨ s = 4 ∨ s = 5 ∨ s = 6 ∨ s = 7 by omega) with rfl | rfl | rfl | rfl | rfl | rfl | rfl
 · rw [show wsOf 1 = [0] from rfl] at *
   match xs, hlen with
   | [x], _ => exact ⟨x, 0, 0, rfl, hx 0 (by decide), by rw [hz 1 (by decide) (by decide), Int.mul_zero], by rw [hz 2 (by decide) (by decide), Int.mul_zero]⟩
 · rw [show wsOf 2 = [1] from rfl] at *
   match xs, hlen with
   | [x], _ => exact ⟨0, x, 0, rfl, by rw [hz 0 (by decide) (by decide), Int.mul_zero], hx 0 (by decide), by rw [hz 2 (by decide) (by decide), Int.mul_zero]⟩
 · rw [show wsOf 3 = [0, 1] from rfl] at *
   match xs, hlen with
   | [x, y], _ => exact ⟨x, y, 0, rfl, hx 0 (by decide), hx 1 (by decide), by rw [hz 2 (by decide) (by decide), Int.mul_zero]⟩
 · rw [show wsOf 4 = [2] from rfl] at *
   match xs, hlen with
   | [x], _ => exact ⟨0, 0, x, rfl, by rw [hz 0 (by decide) (by decide), Int.mul_zero], by rw [hz 1 (by decide) (by decide), Int.mul_zero], hx 0 (by decide)⟩
 · rw [show wsOf 5 = [0, 2] from rfl] at *
   match xs, hlen with
   | [x, y], _ => exact ⟨x, 0, y, rfl, hx 0 (by decide), by rw [hz 1 (by decide) (by decide), Int.mul_zero], hx 1 (by decide)⟩
 · rw [show wsOf 6 = [1, 2] from rfl] at *
   match xs, hlen with
   | [x, y], _ => exact ⟨0, x, y, rfl, by rw [hz 0 (by decide) (by decide), Int.mul_zero], hx 0 (by decide), hx 1 (by decide)⟩
 · rw [show wsOf 7 = [0, 1, 2] from rfl] at *
   match xs, hlen with
   | [x, y, z], _ => exact ⟨x, y, z, rfl, hx 0 (by decide), hx 1 (by decide), hx 2 (by decide)⟩
/-- The worlds that a belief gives something. -/
def supp (b : Nat → Int) : Nat := (if b 0 = 0 then 0 else 1) + (if b 1 = 0 then 0 else 2) + (if b 2 = 0 then 0 else 4)
def cntB (b : Nat → Int) : Nat := (if b 0 = 0 then 0 else 1) + (if b 1 = 0 then 0 else 1) + (if b 2 = 0 then 0 else 1)
theorem supp_lt (b : Nat → Int) : supp b < 8 := by unfold supp; split <;> split <;> split <;> decide
theorem supp_zero {b : Nat → Int} {v : Nat} (hv : v < 3) (h : (supp b).testBit v = false) : b v = 0 := by
 unfold supp at h
 by_cases e0 : b 0 = 0 <;> by_cases e1 : b 1 = 0 <;> by_cases e2 : b 2 = 0 <;>
  rcases (show v = 0 ∨ v = 1 ∨ v = 2 by omega) with rfl | rfl | rfl <;> first | assumption | (simp only [e0, e1, e2, if_true, if_false] at h; exact absurd h (by decide))
theorem supp_pos {b : Nat → Int} (h : b 0 ≠ 0 ∨ b 1 ≠ 0 ∨ b 2 ≠ 0) : 1 ≤ supp b := by
 unfold supp
 rcases h with h | h | h <;> simp only [if_neg h] <;> omega
theorem evV_mul {e k : Int} {b : Nat → Int} : evV e (fun v => b v * k) = evV e b * k := by
 unfold evV evB
 simp only [Int.add_mul, Int.mul_assoc]
theorem evV_add {e : Int} {b c : Nat → Int} : evV e (fun v => b v + c v) = evV e b + evV e c := by
 unfold evV evB
 simp only [Int.mul_add]
 omega
theorem evV_neg {e : Int} {b : Nat → Int} : evV e (fun v => - b v) = - evV e b := by
 unfold evV evB
 simp only [Int.mul_neg]
 omega
theorem evV_seven (b : Nat → Int) : evV 7 b = b 0 + b 1 + b 2 := evB_seven _ _ _
/-- The world that comes to nothing first. -/
theorem first_gone {b y : Nat → Int} (hs : y 0 + y 1 + y 2 = 0) (hy : y 0 ≠ 0 ∨ y 1 ≠ 0 ∨ y 2 ≠ 0) : ∃ v, v < 3 ∧ y v < 0 ∧ ∀ u, u < 3 → y u < 0 → b v * (- y u) ≤ b u * (- y v) := by
 have one : ∀ v u w : Nat, v < 3 → (∀ t, t < 3 → t = v ∨ t = u ∨ t = w) → y v < 0 → ¬ y u < 0 → ¬ y w < 0 → ∃ v, v < 3 ∧ y v < 0 ∧ ∀ u, u < 3 → y u < 0 → b v * (- y u) ≤ b u * (- y v) := fun v u w hv ha h1 h2 h3 => ⟨v, hv, h1, fun t ht h => by
  rcases ha t ht with rfl | rfl | rfl
  · exact Int.le_refl _
  · exact absurd h h2
  · exact absurd h h3⟩
 have two : ∀ v u w : Nat, v < 3 → u < 3 → (∀ t, t < 3 → t = v ∨ t = u ∨ t = w) → y v < 0 → y u < 0 → ¬ y w < 0 → ∃ v, v < 3 ∧ y v < 0 ∧ ∀ u, u < 3 → y u < 0 → b v * (- y u) ≤ b u * (- y v) := fun v u w hv hu ha h1 h2 h3 => by
  rcases Int.le_total (b v * (- y u)) (b u * (- y v)) with hc | hc
  · exact ⟨v, hv, h1, fun t ht h => by
     rcases ha t ht with rfl | rfl | rfl
     · exact Int.le_refl _
     · exact hc
     · exact absurd h h3⟩
  · exact ⟨u, hu, h2, fun t ht h => by
     rcases ha t ht with rfl | rfl | rfl
     · exact hc
     · exact Int.le_refl _
     · exact absurd h h3⟩
 by_cases e0 : y 0 < 0 <;> by_cases e1 : y 1 < 0 <;> by_cases e2 : y 2 < 0
 · omega
 · exact two 0 1 2 (by decide) (by decide) (fun t h => by omega) e0 e1 e2
 · exact two 0 2 1 (by decide) (by decide) (fun t h => by omega) e0 e2 e1
 · exact one 0 1 2 (by decide) (fun t h => by omega) e0 e1 e2
 · exact two 1 2 0 (by decide) (by decide) (fun t h => by omega) e1 e2 e0
 · exact one 1 0 2 (by decide) (fun t h => by omega) e1 e0 e2
 · exact one 2 0 1 (by decide) (fun t h => by omega) e2 e0 e1
 · omega
theorem cnt_less {b c : Nat → Int} {v : Nat} (hv : v < 3) (h1 : b v ≠ 0) (h2 : c v = 0) (h : ∀ u, u < 3 → b u = 0 → c u = 0) : cntB c < cntB b := by
 have k0 := h 0 (by decide)
 have k1 := h 1 (by decide)
 have k2 := h 2 (by decide)
 unfold cntB
 rcases (show v = 0 ∨ v = 1 ∨ v = 2 by omega) with rfl | rfl | rfl <;> by_cases e0 : b 0 = 0 <;> by_cases e1 : b 1 = 0 <;> by_cases e2 : b 2 = 0 <;> by_cases f0 : c 0 = 0 <;> by_cases f1 : c 1 = 0 <;> by_cases f2 : c 2 = 0 <;> simp only [e0, e1, e2, f0, f1, f2, if_true, if_false] <;> first | omega | (exfalso; first | exact h1 e0 | exact h1 e1 | exact h1 e2 | exact f0 (k0 e0) | exact f1 (k1 e1) | exact f2 (k2 e2) | exact f0 h2 | exact f1 h2 | exact f2 h2)
theorem corner_in {l : List (Int × Int)} {s : Nat} {b : List Int} (h1 : 1 ≤ s) (h8 : s < 8) (h : cornerOf l s = some b) : b ∈ cornersL l := by
 unfold cornersL cornersTo
 rw [List.mem_filterMap]
 exact ⟨s, List.mem_map.2 ⟨s - 1, List.mem_range.2 (by omega), by omega⟩, h⟩
/-- A weight of the worlds. -/
def wt (h0 h1 h2 : Int) (b : Nat → Int) : Int := h0 * b 0 + h1 * b 1 + h2 * b 2
/-- Of any belief that agrees there is a corner that gives no more of a weight. -/
theorem corner_le {l : List (Int × Int)} (hl : BetOk l) (h0 h1 h2 : Int) : ∀ (n : Nat) (D : Int) (b : Nat → Int), cntB b ≤ n → AgD l D b → ∃ c0 c1 c2, [c0, c1, c2] ∈ cornersL l ∧ D * (h0 * c0 + h1 * c1 + h2 * c2) ≤ wt h0 h1 h2 b := by
 intro n
 induction n with
 | zero =>
  intro D b hn ha
  exfalso
  have r0 := ha.row 0 (by omega)
  unfold evE rtE at r0
  rw [if_pos rfl, if_pos rfl, evV_seven] at r0
  have := ha.pos
  unfold cntB at hn
  by_cases e0 : b 0 = 0 <;> by_cases e1 : b 1 = 0 <;> by_cases e2 : b 2 = 0 <;> simp only [e0, e1, e2, if_true, if_false] at hn <;> omega
 | succ n ih =>
  intro D b hn ha
  have r0 := ha.row 0 (by omega)
  unfold evE rtE at r0
  rw [if_pos rfl, if_pos rfl, evV_seven] at r0
  have hD := ha.pos
  have hs1 : 1 ≤ supp b := supp_pos (by omega)
  have hs8 := supp_lt b
  have hz : ∀ v, v < 3 → (supp b).testBit v = false → b v = 0 := fun v hv h => supp_zero hv h
  have hk := wsOf_len ⟨supp b, hs8⟩ hs1
  simp only at hk
  have hI := eqF_inv hl (wsOf_lt (supp b))
  have hsol : ∀ i, i < l.length + 1 → linF D (wsOf (supp b)).length (eqF l (wsOf (supp b))) (fun c => b ((wsOf (supp b)).getD c 0)) i = 0 := fun i hi => by
   rw [supp_row hs1 hs8 hz, ha.row i hi, Int.mul_left_comm]; omega
  cases hx : solveF (l.length + 1) (wsOf (supp b)).length (eqF l (wsOf (supp b))) with
  | some xs =>
   obtain ⟨hlen, _, huni⟩ := solve_sol hk.2 (by omega) hI hx
   have hxc := huni D _ hsol
   obtain ⟨c0, c1, c2, e, q0, q1, q2⟩ := supp_belief hs1 hs8 hz hlen hxc
   have hneg : xs.any (fun x => decide (x < 0)) = false := by
    rw [List.any_eq_false]
    intro x hx
    obtain ⟨j, hj⟩ := List.getElem?_of_mem hx
    have hjl := (List.getElem?_eq_some_iff.1 hj).1
    have h3 := hxc j (by omega)
    rw [List.getD_eq_getElem?_getD, List.getD_eq_getElem?_getD, hj, Option.getD_some] at h3
    have h4 : 0 ≤ D * x := by
     rw [← h3]
     refine ha.nn _ ?_
     rw [List.getElem?_eq_getElem (by omega), Option.getD_some]
     exact wsOf_lt _ _ (List.getElem_mem _)
    simp only [decide_eq_true_eq]
    intro h5
    have := Int.mul_neg_of_pos_of_neg hD h5
    omega
   have hc : cornerOf l (supp b) = some (beliefOf (wsOf (supp b)) xs) := by
    unfold cornerOf
    rw [hx]
    simp only [hneg]
    rfl
   rw [e] at hc
   refine ⟨c0, c1, c2, corner_in hs1 hs8 hc, ?_⟩
   unfold wt
   rw [q0, q1, q2, Int.mul_add, Int.mul_add, Int.mul_left_comm D, Int.mul_left_comm D, Int.mul_left_comm D]
   exact Int.le_refl _
  | none =>
   rcases solve_none hk.2 hI hx with ⟨y, ⟨c, hc, hyc⟩, hy⟩ | hno
   · obtain ⟨yb, z1, z2⟩ := supp_up hs1 hs8 y
     have hrow : ∀ i, i < l.length + 1 → evV (evE l i) yb = 0 := fun i hi => by
      have h3 := hy i hi
      rw [linF_congr (y := fun c => yb ((wsOf (supp b)).getD c 0)) (fun c hc => (z2 c hc).symm), supp_row hs1 hs8 z1] at h3
      omega
     have hne : yb 0 ≠ 0 ∨ yb 1 ≠ 0 ∨ yb 2 ≠ 0 := by
      have h3 : yb ((wsOf (supp b)).getD c 0) ≠ 0 := by rw [z2 c hc]; exact hyc
      have h4 : (wsOf (supp b)).getD c 0 < 3 := by
       rw [List.getD_eq_getElem?_getD, List.getElem?_eq_getElem hc, Option.getD_some]
       exact wsOf_lt _ _ (List.getElem_mem _)
      generalize (wsOf (supp b)).getD c 0 = v at *
      rcases (show v = 0 ∨ v = 1 ∨ v = 2 by omega) with rfl | rfl | rfl
      · exact .inl h3
      · exact .inr (.inl h3)
      · exact .inr (.inr h3)
     -- the way along which the weight does not grow
     obtain ⟨z, hz1, hz2, hz3, hz4⟩ : ∃ z : Nat → Int, (∀ v, v < 3 → b v = 0 → z v = 0) ∧ (∀ i, i < l.length + 1 → evV (evE l i) z = 0) ∧ (z 0 ≠ 0 ∨ z 1 ≠ 0 ∨ z 2 ≠ 0) ∧ wt h0 h1 h2 z ≤ 0 := by
      have hyz : ∀ v, v < 3 → b v = 0 → yb v = 0 := fun v hv hb => by
       refine z1 v hv ?_
       unfold supp
       by_cases e0 : b 0 = 0 <;> by_cases e1 : b 1 = 0 <;> by_cases e2 : b 2 = 0 <;> rcases (show v = 0 ∨ v = 1 ∨ v = 2 by omega) with rfl | rfl | rfl <;> first | (exact absurd hb (by assumption)) | (simp only [e0, e1, e2, if_true, if_false]; decide)
      by_cases hw : wt h0 h1 h2 yb ≤ 0
      · exact ⟨yb, hyz, hrow, hne, hw⟩
      · refine ⟨fun v => - yb v, fun v hv hb => by simp only; rw [hyz v hv hb]; rfl, fun i hi => by rw [evV_neg, hrow i hi]; rfl, by simp only; omega, ?_⟩
        unfold wt at hw ⊢
        simp only [Int.mul_neg]
        omega
     have hsum : z 0 + z 1 + z 2 = 0 := by
      have := hz2 0 (by omega)
      unfold evE at this
      rw [if_pos rfl, evV_seven] at this
      exact this
     obtain ⟨v, hv, hneg, hmin⟩ := first_gone (b := b) hsum hz3
     have hbv : b v ≠ 0 := fun e => by have := hz1 v hv e; omega
     obtain ⟨k, hk2⟩ : ∃ k, k = - z v := ⟨_, rfl⟩
     have hkp : 0 < k := by omega
     obtain ⟨c0, c1, c2, hmem, hle⟩ := ih (D * k) (fun u => b u * k + z u * b v)
      (by
       have := cnt_less (b := b) (c := fun u => b u * k + z u * b v) hv hbv (by rw [hk2, Int.mul_neg, Int.mul_comm (z v)]; omega) (fun u hu e => by rw [e, hz1 u hu e]; omega)
       omega)
      ⟨Int.mul_pos hD hkp, fun u hu => by
       by_cases hzu : z u < 0
       · have := hmin u hu hzu
         rw [← hk2, Int.mul_neg, Int.mul_comm (b v)] at this
         omega
       · have a1 := Int.mul_nonneg (ha.nn u hu) (show 0 ≤ k by omega)
         have a2 := Int.mul_nonneg (show 0 ≤ z u by omega) (ha.nn v hv)
         omega, fun i hi => by
       rw [evV_add, evV_mul, evV_mul, ha.row i hi, hz2 i hi, Int.zero_mul, Int.add_zero, Int.mul_right_comm]⟩
     refine ⟨c0, c1, c2, hmem, ?_⟩
     have hwt : wt h0 h1 h2 (fun u => b u * k + z u * b v) = wt h0 h1 h2 b * k + wt h0 h1 h2 z * b v := by
      unfold wt
      simp only [Int.mul_add, Int.add_mul, Int.mul_assoc]
      omega
     rw [hwt] at hle
     have h5 := Int.mul_nonneg (show 0 ≤ - wt h0 h1 h2 z by omega) (ha.nn v hv)
     rw [Int.neg_mul] at h5
     rw [Int.mul_right_comm] at hle
     exact Int.le_of_mul_le_mul_right (by omega) hkp
   · exact absurd hsol (hno D _ hD)
end Go.Proofs.YtapeledneokgpaaGreatDoor
/- Plain law of bets at a price: a bet stays sound just at the prices of its event. No program in sight. -/
namespace Go.Proofs.YtapeledneokgpaaGreatDoor
open Go.RowKit
theorem agD_iff {l : List (Int × Int)} {D : Int} {b : Nat → Int} : AgD l D b ↔ 0 < D ∧ (∀ v, v < 3 → 0 ≤ b v) ∧ b 0 + b 1 + b 2 = D * 12 ∧ ∀ u ∈ l, evV u.1 b = D * u.2 := by
 constructor
 · intro h
   refine ⟨h.pos, h.nn, ?_, fun u hu => ?_⟩
   · have := h.row 0 (by omega)
     unfold evE rtE at this
     rw [if_pos rfl, if_pos rfl, evV_seven] at this
     exact this
   · obtain ⟨j, hj⟩ := List.getElem?_of_mem hu
     have hjl := (List.getElem?_eq_some_iff.1 hj).1
     have := h.row (j + 1) (by omega)
     unfold evE rtE at this
     rw [if_neg (by omega), if_neg (by omega), Nat.add_sub_cancel, List.getD_eq_getElem?_getD, hj, Option.getD_some] at this
     exact this
 · rintro ⟨h1, h2, h3, h4⟩
   refine ⟨h1, h2, fun i hi => ?_⟩
   unfold evE rtE
   by_cases e : i = 0
   · rw [if_pos e, if_pos e, evV_seven]; exact h3
   · rw [if_neg e, if_neg e]
     refine h4 _ ?_
     rw [List.getD_eq_getElem?_getD, List.getElem?_eq_getElem (by omega), Option.getD_some]
     exact List.getElem_mem _
def fnB (b : List Int) : Nat → Int := fun v => b.getD v 0
theorem agr_agD {l : List (Int × Int)} {b : List Int} (h : Agr l b) : AgD l 1 (fnB b) := by
 obtain ⟨b0, b1, b2, rfl, n0, n1, n2, hs, hr⟩ := h
 refine agD_iff.2 ⟨by decide, fun v hv => ?_, ?_, fun u hu => ?_⟩
 · rcases (show v = 0 ∨ v = 1 ∨ v = 2 by omega) with rfl | rfl | rfl
   · exact n0
   · exact n1
   · exact n2
 · show b0 + b1 + b2 = 1 * 12
   omega
 · rw [Int.one_mul]; exact hr u hu
theorem evOf_fn (e : Int) (b : List Int) : evOf e b = evV e (fnB b) := rfl
/-- A corner with no more, and one with no less, of an event. -/
theorem corner_two {l : List (Int × Int)} (hl : BetOk l) {D : Int} {b : Nat → Int} (h : AgD l D b) (e : Int) : (∃ c ∈ cornersL l, D * evOf e c ≤ evV e b) ∧ ∃ c ∈ cornersL l, evV e b ≤ D * evOf e c := by
 constructor
 · obtain ⟨c0, c1, c2, hm, hle⟩ := corner_le hl (bitV e (0 : Nat)) (bitV e (1 : Nat)) (bitV e (2 : Nat)) _ D b (Nat.le_refl _) h
   exact ⟨_, hm, hle⟩
 · obtain ⟨c0, c1, c2, hm, hle⟩ := corner_le hl (- bitV e (0 : Nat)) (- bitV e (1 : Nat)) (- bitV e (2 : Nat)) _ D b (Nat.le_refl _) h
   refine ⟨_, hm, ?_⟩
   have h1 : D * (- bitV e (0 : Nat) * c0 + - bitV e (1 : Nat) * c1 + - bitV e (2 : Nat) * c2) = - (D * evOf e [c0, c1, c2]) := by
    rw [← Int.mul_neg]
    congr 1
    show _ = - (bitV e (0 : Nat) * c0 + bitV e (1 : Nat) * c1 + bitV e (2 : Nat) * c2)
    simp only [Int.neg_mul]
    omega
   have h2 : wt (- bitV e (0 : Nat)) (- bitV e (1 : Nat)) (- bitV e (2 : Nat)) b = - evV e b := by
    show _ = - (bitV e (0 : Nat) * b 0 + bitV e (1 : Nat) * b 1 + bitV e (2 : Nat) * b 2)
    unfold wt
    simp only [Int.neg_mul]
    omega
   rw [h1, h2] at hle
   omega
theorem allB_mem {l : List (Int × Int)} {D : Int} {b : Nat → Int} : (∀ u ∈ allB l, evV u.1 b = D * u.2) ↔ ∀ u ∈ l, evV u.1 b = D * u.2 := by
 unfold allB
 split
 · rename_i h
   rw [List.eq_nil_of_length_eq_zero h]
   constructor
   · intro _ u hu; simp at hu
   · intro _ u hu
     simp at hu
     subst hu
     unfold evV evB
     have k : ∀ v : Nat, bitV 0 (v : Nat) = 0 := fun v => by unfold bitV; simp
     rw [k, k, k]
     omega
 · exact Iff.rfl
/-- A bet stays sound just at the prices of its event. -/
theorem bet_price {l : List (Int × Int)} (hl : BetOk (allB l)) {e : Int} {c : Nat} (hx : BetOk (l ++ [(e, (c : Int))])) (h0 : cornersL (allB l) ≠ []) (hc : c < 13) : cornersL (l ++ [(e, (c : Int))]) ≠ [] ↔ c ∈ priceL (allB l) e := by
 rw [price_mem]
 obtain ⟨⟨p, hp, ep⟩, ⟨q, hq, eq⟩⟩ := bndL_at (e := e) h0
 have hle := bndL_le (e := e) (cs := cornersL (allB l))
 generalize (bndL e (cornersL (allB l))).1 = lo at *
 generalize (bndL e (cornersL (allB l))).2 = hi at *
 constructor
 · intro h
   obtain ⟨x, xs, hxs⟩ := List.exists_cons_of_ne_nil h
   have hag := agr_agD (corners_agr hx (b := x) (by rw [hxs]; simp))
   obtain ⟨a1, a2, a3, a4⟩ := agD_iff.1 hag
   have ha : AgD (allB l) 1 (fnB x) := agD_iff.2 ⟨a1, a2, a3, allB_mem.2 fun u hu => a4 u (by simp [hu])⟩
   have hev := a4 (e, (c : Int)) (by simp)
   simp only at hev
   obtain ⟨⟨c1, m1, k1⟩, ⟨c2, m2, k2⟩⟩ := corner_two hl ha e
   have l1 := hle c1 m1
   have l2 := hle c2 m2
   exact ⟨hc, by omega, by omega⟩
 · rintro ⟨_, h1, h2⟩
   obtain ⟨p1, p2, p3, p4⟩ := agD_iff.1 (agr_agD (corners_agr hl hp))
   obtain ⟨q1, q2, q3, q4⟩ := agD_iff.1 (agr_agD (corners_agr hl hq))
   rw [evOf_fn] at ep eq
   generalize fnB p = P at *
   generalize fnB q = Q at *
   have hfin : ∃ D b, AgD (l ++ [(e, (c : Int))]) D b := by
    by_cases hlh : lo = hi
    · refine ⟨1, P, agD_iff.2 ⟨p1, p2, p3, fun u hu => ?_⟩⟩
      rcases List.mem_append.1 hu with hu | hu
      · exact allB_mem.1 p4 u hu
      · rw [List.mem_singleton] at hu
        subst hu
        simp only
        omega
    · refine ⟨hi - lo, fun v => P v * (hi - c) + Q v * (c - lo), agD_iff.2 ⟨by omega, fun v hv => ?_, ?_, fun u hu => ?_⟩⟩
      · have k1 := Int.mul_nonneg (p2 v hv) (show 0 ≤ hi - (c : Int) by omega)
        have k2 := Int.mul_nonneg (q2 v hv) (show 0 ≤ (c : Int) - lo by omega)
        omega
      · have k1 : (P 0 + P 1 + P 2) * (hi - c) = 1 * 12 * (hi - c) := by rw [p3]
        have k2 : (Q 0 + Q 1 + Q 2) * (c - lo) = 1 * 12 * (c - lo) := by rw [q3]
        rw [Int.add_mul, Int.add_mul] at k1 k2
        omega
      · rw [evV_add, evV_mul, evV_mul]
        rcases List.mem_append.1 hu with hu | hu
        · rw [allB_mem.1 p4 u hu, allB_mem.1 q4 u hu, Int.one_mul, ← Int.mul_add, Int.mul_comm]
          congr 1
          omega
        · rw [List.mem_singleton] at hu
          subst hu
          simp only
          rw [← ep, ← eq]
          simp only [Int.mul_sub, Int.sub_mul]
          rw [Int.mul_comm lo hi]
          have k1 := Int.mul_comm lo (c : Int)
          have k2 := Int.mul_comm hi (c : Int)
          omega
   obtain ⟨D, b, hb⟩ := hfin
   obtain ⟨⟨x, hx1, _⟩, _⟩ := corner_two hx hb e
   intro h
   rw [h] at hx1
   simp at hx1
end Go.Proofs.YtapeledneokgpaaGreatDoor
/- Walk of planchettop's opened: a mint on three new copies that did some lines. Conditions: the lines are short of the shelf's bound; the library's variables stand. -/
namespace Go.Proofs.YtapeledneokgpaaGreatDoor
open Go.RowKit Go.Maps
end Go.Proofs.YtapeledneokgpaaGreatDoor
