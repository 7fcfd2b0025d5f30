/- Texts of this proof, one behind the other; each says its condition at its head. -/
import Derived.Test.YtciadmjdadnolaaGreatDoorE28
import Derived.Test.YtciadmjdadnolaaGreatDoorE13
/- state.do at any text: what it does to a mint's books, over a contract of order.Add. Conditions: the text is short of the shelf's bound; the library's variables stand. -/
namespace Go.Proofs.YtciadmjdadnolaaGreatDoor
open Go.RowKit Go.Maps
/-- A line's names and numbers, if the text is one. -/
def lineL (r0 r1 : Nat) (x : ByteArray) : Option (List ByteArray × List Int) := if ((readP r0 r1 (parts x).tail).isSome && isLn x) = true then readP r0 r1 (parts x).tail else none
/-- A change of a mint's books by a line; and the answer's number. -/
def doL (s : Bk) (x : ByteArray) : Bk × Nat :=
 if (wordOf x).data.toList = [98, 101, 116] then (match lineL 0 2 x with | some (_, [v, k]) => betL s v k | _ => (s, 3)) else
 if (wordOf x).data.toList = [112, 97, 110] then (match lineL 0 4 x with | some (_, [v, k, z, u]) => panL s v k z u | _ => (s, 3)) else
 if (wordOf x).data.toList = [98, 97, 116, 99, 104] then (match lineL 0 4 x with | some (_, [v, k, z, u]) => layL s v k z u | _ => (s, 3)) else
 if (wordOf x).data.toList = [98, 101, 97, 116] then (match lineL 2 0 x with | some ([v, k], _) => beatL s v k | _ => (s, 3)) else
 if (wordOf x).data.toList = [112, 108, 97, 121, 101, 114] then (match lineL 1 0 x with | some ([v], _) => playerL s v | _ => (s, 3)) else
 if (wordOf x).data.toList = [97, 98, 111, 118, 101] then (match lineL 2 0 x with | some ([v, k], _) => rankL s v k | _ => (s, 3)) else
 if (wordOf x).data.toList = [109, 101, 100, 97, 108] then (match lineL 1 0 x with | some ([v], _) => medalL s v | _ => (s, 3)) else
 (s, 3)
theorem lk_ne {k k' : List UInt8} {v : Value} {l : List (List UInt8 × Value)} (h : ¬ k = k') : List.lookup k ((k', v) :: l) = List.lookup k l := by
 have : (k == k') = false := by rw [beq_eq_false_iff_ne]; exact h
 simp [List.lookup, this]
theorem do_word (x : ByteArray) : asS changesL (.string (wordOf x)) = List.lookup (wordOf x).data.toList changesL := rfl
/-- What order.Add is asked to do. -/
def AddC (l : List Int) : Prop := ∀ (U : Option Addr) (uc i j : Nat) (W : World), i < l.length → j < l.length → Sl W U l.length uc (intV l) → Tab W → Calls Tryz.prog 64 #[.slice U l.length uc, .int .i64 (i : Nat), .int .i64 (j : Nat)] W (AddR l i j W)
theorem doAny (G : Nat → Prop) (sb : Nat) (s : Bk) (x : ByteArray) (hs : x.size ≤ 100000000) (w : World) (hm : EnvN w) (hT : Tab w) (hst : StR w G sb s) (hj : BkJ s) (hadd : AddC s.above) :
 Calls Tryz.prog 21 #[.pointer (some ⟨sb, 0, none⟩), .string x] w fun r w' => DoR w sb (doL s x) r w' := by
 unfold doL
 by_cases e0 : (wordOf x).data.toList = [98, 101, 116]
 · rw [if_pos e0]
   have hf : asS changesL (.string (wordOf x)) = some (.agg #[.int .i64 ((0 : Nat) : Int), .int .i64 ((2 : Nat) : Int), .func (.func 50) #[] #[], .nilFunc]) := by rw [do_word x, e0]; rfl
   have he : ∀ args W, (callFunc 50 args).run Tryz.prog W = .ok (.enter 50 args) W := fun args W => enters Tryz.func50 (by kernel_rfl) rfl args W
   unfold lineL
   cases hq : ((readP 0 2 (parts x).tail).isSome && isLn x) with
   | false => exact doNot 0 2 _ (by decide) sb s x hs w hm hf hq
   | true =>
    rw [if_pos rfl]
    rw [Bool.and_eq_true] at hq
    obtain ⟨⟨nm, nu⟩, hp⟩ := Option.isSome_iff_exists.1 hq.1
    rw [hp]
    obtain ⟨h1, h2, h3⟩ := readP_shape hp
    obtain ⟨v, k, rfl⟩ := two_of h2
    obtain rfl := List.eq_nil_of_length_eq_zero h1
    exact doYes 0 2 _ (by decide) G sb s x _ _ _ hs w hm hT hst hj.short hf he hp hq.2 (chgBet s hj.bet v k h3)
 rw [if_neg e0]
 by_cases e1 : (wordOf x).data.toList = [112, 97, 110]
 · rw [if_pos e1]
   have hf : asS changesL (.string (wordOf x)) = some (.agg #[.int .i64 ((0 : Nat) : Int), .int .i64 ((4 : Nat) : Int), .func (.func 49) #[] #[], .nilFunc]) := by rw [do_word x, e1]; rfl
   have he : ∀ args W, (callFunc 49 args).run Tryz.prog W = .ok (.enter 49 args) W := fun args W => enters Tryz.func49 (by kernel_rfl) rfl args W
   unfold lineL
   cases hq : ((readP 0 4 (parts x).tail).isSome && isLn x) with
   | false => exact doNot 0 4 _ (by decide) sb s x hs w hm hf hq
   | true =>
    rw [if_pos rfl]
    rw [Bool.and_eq_true] at hq
    obtain ⟨⟨nm, nu⟩, hp⟩ := Option.isSome_iff_exists.1 hq.1
    rw [hp]
    obtain ⟨h1, h2, h3⟩ := readP_shape hp
    obtain ⟨v, k, z, u, rfl⟩ := four_of h2
    obtain rfl := List.eq_nil_of_length_eq_zero h1
    exact doYes 0 4 _ (by decide) G sb s x _ _ _ hs w hm hT hst hj.short hf he hp hq.2 (chgPan s hj.kn v k z u h3)
 rw [if_neg e1]
 by_cases e2 : (wordOf x).data.toList = [98, 97, 116, 99, 104]
 · rw [if_pos e2]
   have hf : asS changesL (.string (wordOf x)) = some (.agg #[.int .i64 ((0 : Nat) : Int), .int .i64 ((4 : Nat) : Int), .func (.func 48) #[] #[], .nilFunc]) := by rw [do_word x, e2]; rfl
   have he : ∀ args W, (callFunc 48 args).run Tryz.prog W = .ok (.enter 48 args) W := fun args W => enters Tryz.func48 (by kernel_rfl) rfl args W
   unfold lineL
   cases hq : ((readP 0 4 (parts x).tail).isSome && isLn x) with
   | false => exact doNot 0 4 _ (by decide) sb s x hs w hm hf hq
   | true =>
    rw [if_pos rfl]
    rw [Bool.and_eq_true] at hq
    obtain ⟨⟨nm, nu⟩, hp⟩ := Option.isSome_iff_exists.1 hq.1
    rw [hp]
    obtain ⟨h1, h2, h3⟩ := readP_shape hp
    obtain ⟨v, k, z, u, rfl⟩ := four_of h2
    obtain rfl := List.eq_nil_of_length_eq_zero h1
    exact doYes 0 4 _ (by decide) G sb s x _ _ _ hs w hm hT hst hj.short hf he hp hq.2 (chgLay s v k z u h3)
 rw [if_neg e2]
 by_cases e3 : (wordOf x).data.toList = [98, 101, 97, 116]
 · rw [if_pos e3]
   have hf : asS changesL (.string (wordOf x)) = some (.agg #[.int .i64 ((2 : Nat) : Int), .int .i64 ((0 : Nat) : Int), .func (.func 47) #[] #[], .nilFunc]) := by rw [do_word x, e3]; rfl
   have he : ∀ args W, (callFunc 47 args).run Tryz.prog W = .ok (.enter 47 args) W := fun args W => enters Tryz.func47 (by kernel_rfl) rfl args W
   unfold lineL
   cases hq : ((readP 2 0 (parts x).tail).isSome && isLn x) with
   | false => exact doNot 2 0 _ (by decide) sb s x hs w hm hf hq
   | true =>
    rw [if_pos rfl]
    rw [Bool.and_eq_true] at hq
    obtain ⟨⟨nm, nu⟩, hp⟩ := Option.isSome_iff_exists.1 hq.1
    rw [hp]
    obtain ⟨h1, h2, h3⟩ := readP_shape hp
    obtain ⟨v, k, rfl⟩ := two_of h1
    obtain rfl := List.eq_nil_of_length_eq_zero h2
    exact doYes 2 0 _ (by decide) G sb s x _ _ _ hs w hm hT hst hj.short hf he hp hq.2 (chgBeat s hj.short hj.bea v k)
 rw [if_neg e3]
 by_cases e4 : (wordOf x).data.toList = [112, 108, 97, 121, 101, 114]
 · rw [if_pos e4]
   have hf : asS changesL (.string (wordOf x)) = some (.agg #[.int .i64 ((1 : Nat) : Int), .int .i64 ((0 : Nat) : Int), .func (.func 46) #[] #[], .nilFunc]) := by rw [do_word x, e4]; rfl
   have he : ∀ args W, (callFunc 46 args).run Tryz.prog W = .ok (.enter 46 args) W := fun args W => enters Tryz.func46 (by kernel_rfl) rfl args W
   unfold lineL
   cases hq : ((readP 1 0 (parts x).tail).isSome && isLn x) with
   | false => exact doNot 1 0 _ (by decide) sb s x hs w hm hf hq
   | true =>
    rw [if_pos rfl]
    rw [Bool.and_eq_true] at hq
    obtain ⟨⟨nm, nu⟩, hp⟩ := Option.isSome_iff_exists.1 hq.1
    rw [hp]
    obtain ⟨h1, h2, h3⟩ := readP_shape hp
    obtain ⟨v, rfl⟩ := one_of h1
    obtain rfl := List.eq_nil_of_length_eq_zero h2
    exact doYes 1 0 _ (by decide) G sb s x _ _ _ hs w hm hT hst hj.short hf he hp hq.2 (chgPlayer s hj.short v)
 rw [if_neg e4]
 by_cases e5 : (wordOf x).data.toList = [97, 98, 111, 118, 101]
 · rw [if_pos e5]
   have hf : asS changesL (.string (wordOf x)) = some (.agg #[.int .i64 ((2 : Nat) : Int), .int .i64 ((0 : Nat) : Int), .func (.func 45) #[] #[], .nilFunc]) := by rw [do_word x, e5]; rfl
   have he : ∀ args W, (callFunc 45 args).run Tryz.prog W = .ok (.enter 45 args) W := fun args W => enters Tryz.func45 (by kernel_rfl) rfl args W
   unfold lineL
   cases hq : ((readP 2 0 (parts x).tail).isSome && isLn x) with
   | false => exact doNot 2 0 _ (by decide) sb s x hs w hm hf hq
   | true =>
    rw [if_pos rfl]
    rw [Bool.and_eq_true] at hq
    obtain ⟨⟨nm, nu⟩, hp⟩ := Option.isSome_iff_exists.1 hq.1
    rw [hp]
    obtain ⟨h1, h2, h3⟩ := readP_shape hp
    obtain ⟨v, k, rfl⟩ := two_of h1
    obtain rfl := List.eq_nil_of_length_eq_zero h2
    exact doYes 2 0 _ (by decide) G sb s x _ _ _ hs w hm hT hst hj.short hf he hp hq.2 (chgRank s hj.abv v k hadd)
 rw [if_neg e5]
 by_cases e6 : (wordOf x).data.toList = [109, 101, 100, 97, 108]
 · rw [if_pos e6]
   have hf : asS changesL (.string (wordOf x)) = some (.agg #[.int .i64 ((1 : Nat) : Int), .int .i64 ((0 : Nat) : Int), .func (.func 44) #[] #[], .nilFunc]) := by rw [do_word x, e6]; rfl
   have he : ∀ args W, (callFunc 44 args).run Tryz.prog W = .ok (.enter 44 args) W := fun args W => enters Tryz.func44 (by kernel_rfl) rfl args W
   unfold lineL
   cases hq : ((readP 1 0 (parts x).tail).isSome && isLn x) with
   | false => exact doNot 1 0 _ (by decide) sb s x hs w hm hf hq
   | true =>
    rw [if_pos rfl]
    rw [Bool.and_eq_true] at hq
    obtain ⟨⟨nm, nu⟩, hp⟩ := Option.isSome_iff_exists.1 hq.1
    rw [hp]
    obtain ⟨h1, h2, h3⟩ := readP_shape hp
    obtain ⟨v, rfl⟩ := one_of h1
    obtain rfl := List.eq_nil_of_length_eq_zero h2
    exact doYes 1 0 _ (by decide) G sb s x _ _ _ hs w hm hT hst hj.short hf he hp hq.2 (chgMedal s hj.short v)
 rw [if_neg e6]
 refine doOut sb s x hs w hm ?_
 rw [do_word x]
 unfold changesL
 rw [lk_ne e0, lk_ne e1, lk_ne e2, lk_ne e3, lk_ne e4, lk_ne e5, lk_ne e6]
 rfl
end Go.Proofs.YtciadmjdadnolaaGreatDoor
/- What a mint's books keep, whatever is done. No condition. -/
namespace Go.Proofs.YtciadmjdadnolaaGreatDoor
open Go.RowKit Go.Maps
/-- What a mint's books keep. -/
def BkI (s : Bk) : Prop := BkJ s ∧ OrdI s.above
theorem BkI.begin : BkI ⟨[], [], [], [], 0, 0, 0, 1, []⟩ :=
 ⟨⟨by simp, rfl, by simp, rfl, ⟨by simp, by simp, by simp, by simp, by decide⟩, ⟨fun u hu => by simp at hu, by simp⟩⟩, ⟨fun _ _ => false, rfl, ⟨fun i hi => by simp at hi, fun i j k hi => by simp at hi⟩⟩⟩
theorem BkI.medal {s : Bk} (h : BkI s) (x : ByteArray) : BkI (medalL s x).1 := by
 refine ⟨h.1.medal x, ?_⟩
 unfold medalL
 split
 · exact h.2.push
 · exact h.2
theorem BkI.player {s : Bk} (h : BkI s) (x : ByteArray) : BkI (playerL s x).1 := by
 refine ⟨h.1.player x, ?_⟩
 unfold playerL
 split <;> exact h.2
theorem BkI.beat {s : Bk} (h : BkI s) (x y : ByteArray) : BkI (beatL s x y).1 := by
 refine ⟨h.1.beat x y, ?_⟩
 unfold beatL
 split
 · split <;> exact h.2
 · exact h.2
theorem BkI.lay {s : Bk} (h : BkI s) {x0 x1 x2 x3 : Int} (hx : ∀ v ∈ [x0, x1, x2, x3], 0 ≤ v ∧ v < 1000) : BkI (layL s x0 x1 x2 x3).1 := by
 refine ⟨h.1.lay hx, ?_⟩
 unfold layL
 split <;> exact h.2
theorem BkI.pan {s : Bk} (h : BkI s) {x0 x1 x2 x3 : Int} (hx : ∀ v ∈ [x0, x1, x2, x3], 0 ≤ v ∧ v < 1000) : BkI (panL s x0 x1 x2 x3).1 := by
 refine ⟨h.1.pan hx, ?_⟩
 unfold panL
 split <;> exact h.2
theorem BkI.bets {s : Bk} (h : BkI s) {v k : Int} (hk : 0 ≤ k) : BkI (betL s v k).1 := by
 refine ⟨h.1.bets hk, ?_⟩
 unfold betL
 split
 · exact h.2
 · split
   · exact h.2
   · split <;> exact h.2
theorem BkI.rank {s : Bk} (h : BkI s) (x y : ByteArray) : BkI (rankL s x y).1 := by
 have hb1 := idxZ_bd x s.medals
 have hb2 := idxZ_bd y s.medals
 have hab := h.1.abv
 unfold rankL
 split
 · rename_i hok
   split
   · exact ⟨⟨h.1.med, by simp only [addZ_len]; exact hab, h.1.pla, h.1.bea, h.1.kn, h.1.bet⟩, h.2.add (by omega) (by omega)⟩
   · exact h
 · exact h
theorem lineL_some {r0 r1 : Nat} {x : ByteArray} {nm : List ByteArray} {nu : List Int} (h : lineL r0 r1 x = some (nm, nu)) : ∀ v ∈ nu, 0 ≤ v ∧ v < 1000 := by
 unfold lineL at h
 split at h
 · exact (readP_shape h).2.2
 · cases h
theorem BkI.doL {s : Bk} (h : BkI s) (x : ByteArray) : BkI (doL s x).1 := by
 unfold Go.Proofs.YtciadmjdadnolaaGreatDoor.doL
 split
 · split
   · rename_i hl
     exact h.bets (lineL_some hl _ (by simp)).1
   · exact h
 · split
   · split
     · rename_i hl
       exact h.pan (lineL_some hl)
     · exact h
   · split
     · split
       · rename_i hl
         exact h.lay (lineL_some hl)
       · exact h
     · split
       · split
         · exact h.beat _ _
         · exact h
       · split
         · split
           · exact h.player _
           · exact h
         · split
           · split
             · exact h.rank _ _
             · exact h
           · split
             · split
               · exact h.medal _
               · exact h
             · exact h
end Go.Proofs.YtciadmjdadnolaaGreatDoor
/- The plain law of MintEntries: three copies alike, all in reach. No program in sight. -/
namespace Go.Proofs.YtciadmjdadnolaaGreatDoor
open Go.RowKit Go.Maps
/-- What Do does: the copies, the books, the journal, whether the mint is out; and the answer's number. -/
def doM (C : List Cp) (k : Int) (s : Bk) (J : List ByteArray) (out : Bool) (x : ByteArray) : List Cp × Bk × List ByteArray × Bool × Nat :=
 if out then (C, s, J, true, 5) else
 if (doL s x).2 ≠ 0 then (C, s, J, false, (doL s x).2) else
 if J.length = 200 then (C, s, J, false, 7) else
 if ¬ C.length < 2 * reachN C then (C, s, J, false, 8) else
 if ¬ C.length < 2 * C.countP (fun c => !c.away && decide (c.mark ≤ k)) then (onAll (fun c => c.put J.length k x) C, s, J, true, 5) else
 (onAll (fun c => c.put J.length k x) C, (doL s x).1, J ++ [x], false, 0)
/-- A change of the books, if there is one. -/
def stepL (s : Bk) (x : ByteArray) : Option Bk := if (doL s x).2 = 0 then some (doL s x).1 else none
/-- The first state. -/
def bk0 : Bk := ⟨[], [], [], [], 0, 0, 0, 1, []⟩
/-- What Open reads. -/
def readM (C : List Cp) : Bk × List ByteArray := readL stepL (bestE (entsOn C)) 200 0 0 bk0 []
/-- The copies behind Open. -/
def openM (C : List Cp) : List Cp := putAll (topM C + 1) (readM C).2 0 (onAll (fun c => c.prom (topM C + 1)) C)
/-- The entries of a journal. -/
def entJ (k : Int) (J : List ByteArray) : Ents := fun i => (J[i]?).map fun x => (k, x)
/-- Copies alike. -/
def likeC (k : Int) (J : List ByteArray) : List Cp := List.replicate 3 ⟨k, false, entJ k J⟩
theorem like_len (k : Int) (J : List ByteArray) : (likeC k J).length = 3 := rfl
theorem like_reach (k : Int) (J : List ByteArray) : reachN (likeC k J) = 3 := rfl
theorem like_count (k m : Int) (J : List ByteArray) : (likeC k J).countP (fun c => !c.away && decide (c.mark ≤ m)) = if k ≤ m then 3 else 0 := by
 unfold likeC
 rw [List.countP_replicate]
 simp
theorem like_all (f : Cp → Cp) (k : Int) (J : List ByteArray) : onAll f (likeC k J) = List.replicate 3 (f ⟨k, false, entJ k J⟩) := by
 unfold onAll likeC
 rw [List.map_replicate]
 simp
theorem ent_push (k : Int) (J : List ByteArray) (x : ByteArray) : putE (entJ k J) J.length (k, x) = entJ k (J ++ [x]) := by
 funext i
 unfold putE entJ
 by_cases h : i = J.length
 · subst h; simp
 · rw [if_neg h]
   by_cases h2 : i < J.length
   · rw [List.getElem?_append_left h2]
   · rw [List.getElem?_eq_none (by omega), List.getElem?_eq_none (by simp; omega)]
theorem like_put (k : Int) (J : List ByteArray) (x : ByteArray) : onAll (fun c => c.put J.length k x) (likeC k J) = likeC k (J ++ [x]) := by
 rw [like_all]
 unfold Cp.put
 simp only [Int.lt_irrefl, if_false]
 rw [ent_push]
 rfl
theorem like_do (k : Int) (s : Bk) (J : List ByteArray) (x : ByteArray) (hl : J.length < 200) : doM (likeC k J) k s J false x =
 if (doL s x).2 ≠ 0 then (likeC k J, s, J, false, (doL s x).2) else (likeC k (J ++ [x]), (doL s x).1, J ++ [x], false, 0) := by
 unfold doM
 rw [like_len, like_reach, like_count, if_pos (Int.le_refl k), like_put]
 split
 · rename_i h; cases h
 split
 · rfl
 rw [if_neg (by omega), if_neg (by omega), if_neg (by omega)]
/-- All lines done on copies alike. -/
def runD (s : Bk) (J : List ByteArray) : List ByteArray → Bk × List ByteArray
 | [] => (s, J)
 | x :: l => if (doL s x).2 ≠ 0 then runD s J l else runD (doL s x).1 (J ++ [x]) l
theorem runD_runs (l : List ByteArray) : ∀ (s : Bk) (J : List ByteArray), runL stepL bk0 J = some s → runL stepL bk0 (runD s J l).2 = some (runD s J l).1 := by
 induction l with
 | nil => intro s J h; exact h
 | cons x l ih =>
  intro s J h
  rw [runD]
  by_cases hx : (doL s x).2 = 0
  · rw [if_neg (by simpa using hx)]
    refine ih _ _ ?_
    rw [runL_snoc, h]
    show stepL s x = _
    unfold stepL
    rw [if_pos hx]
  · rw [if_pos hx]
    exact ih s J h
theorem runD_len (l : List ByteArray) : ∀ (s : Bk) (J : List ByteArray), (runD s J l).2.length ≤ J.length + l.length := by
 induction l with
 | nil => intro s J; simp [runD]
 | cons x l ih =>
  intro s J
  rw [runD]
  split
  · have := ih s J; simp; omega
  · have := ih (doL s x).1 (J ++ [x]); simp at this ⊢; omega
theorem runD_take (l : List ByteArray) (n : Nat) (x : ByteArray) : ∀ (s : Bk) (J : List ByteArray), l[n]? = some x → runD s J (l.take (n + 1)) = if (doL (runD s J (l.take n)).1 x).2 ≠ 0 then runD s J (l.take n) else ((doL (runD s J (l.take n)).1 x).1, (runD s J (l.take n)).2 ++ [x]) := by
 induction l generalizing n with
 | nil => intro s J h; simp at h
 | cons y l ih =>
  intro s J h
  cases n with
  | zero =>
   have h : y = x := by simpa using h
   subst h
   simp only [List.take_succ_cons, List.take_zero, runD]
  | succ n =>
   simp only [List.getElem?_cons_succ] at h
   simp only [List.take_succ_cons, runD]
   split
   · exact ih n s J h
   · exact ih n _ _ h
theorem runD_keep (l : List ByteArray) : ∀ (s : Bk) (J : List ByteArray), BkI s → BkI (runD s J l).1 := by
 induction l with
 | nil => intro s J h; exact h
 | cons x l ih =>
  intro s J h
  rw [runD]
  split
  · exact ih s J h
  · exact ih _ _ (h.doL x)
theorem ents_like (k : Int) (J : List ByteArray) : entsOn (likeC k J) = List.replicate 3 (entJ k J) := rfl
theorem best_like (k : Int) (J : List ByteArray) (i : Nat) : bestE (entsOn (likeC k J)) i = entJ k J i := by
 rw [ents_like]
 unfold bestE
 simp only [List.replicate, List.foldl_cons, List.foldl_nil]
 cases h : entJ k J i with
 | none => rfl
 | some x => simp [betE]
theorem top_like (k : Int) (J : List ByteArray) (hk : 0 ≤ k) : topM (likeC k J) = k := by
 unfold topM likeC
 simp [List.replicate]
 omega
theorem read_like (k : Int) (J : List ByteArray) (s : Bk) (hk : 0 ≤ k) (hl : J.length < 200) (h : runL stepL bk0 J = some s) : readM (likeC k J) = (s, J) := by
 unfold readM
 rw [readL_all (D := stepL) (bestE (entsOn (likeC k J))) k J 200 0 0 bk0 s [] (by omega) hk (fun j x hx => by
  rw [best_like, Nat.zero_add]
  unfold entJ
  rw [hx]
  rfl) h]
 obtain ⟨n, hn⟩ : ∃ n, 200 - J.length = n + 1 := ⟨200 - J.length - 1, by omega⟩
 rw [hn, readL, best_like]
 have : entJ k J (0 + J.length) = none := by unfold entJ; simp
 rw [this, List.nil_append]
theorem open_like (k : Int) (J : List ByteArray) (s : Bk) (hk : 0 ≤ k) (hl : J.length < 200) (h : runL stepL bk0 J = some s) : openM (likeC k J) = likeC (k + 1) J := by
 unfold openM
 rw [top_like k J hk, read_like k J s hk hl h]
 have hp : onAll (fun c => c.prom (k + 1)) (likeC k J) = List.replicate 3 ⟨k + 1, false, entJ k J⟩ := by rw [like_all]; rfl
 rw [hp, putAll_eq _ _ _ _ (fun c hc _ => by rw [List.eq_of_mem_replicate hc])]
 have he : putsE (k + 1) J 0 (entJ k J) = entJ (k + 1) J := by
  funext j
  rw [putsE_at]
  unfold entJ
  by_cases hj : j < J.length
  · rw [if_pos ⟨by omega, by omega⟩, Nat.sub_zero]
  · rw [if_neg (by omega), List.getElem?_eq_none (by omega)]
    rfl
 unfold onAll likeC
 rw [List.map_replicate]
 simp only [Bool.false_eq_true, if_false]
 rw [he]
end Go.Proofs.YtciadmjdadnolaaGreatDoor
