/- Texts of this proof, one behind the other; each says its condition at its head. -/
import Derived.Test.YtnibidmlkbcfkaaGreatDoorR34
import Derived.Test.YtnibidmlkbcfkaaGreatDoorR33
import Derived.Test.YtnibidmlkbcfkaaGreatDoorR27
import Derived.Test.YtnibidmlkbcfkaaGreatDoorR26
import Derived.Laws.Bits64
import Derived.Laws.Bits64b
import Derived.Test.YtnibidmlkbcfkaaGreatDoorR5
import Derived.Deep.AppendLies
import Derived.Deep.RegionHeld3
import Derived.Deep.CutRange
import Derived.Test.YtnibidmlkbcfkaaGreatDoorR14
import Derived.Test.YtnibidmlkbcfkaaGreatDoorR31
/- Texts cut at blanks: what a line of words reads as. No condition. -/
namespace Go.Proofs.YtnibidmlkbcfkaaGreatDoor
open Go.RowKit Go.Maps
/-- A text cut at its blanks. -/
def spl : List UInt8 → List (List UInt8)
 | [] => [[]]
 | c :: r => if c = 32 then [] :: spl r else (match spl r with
  | h :: t => (c :: h) :: t
  | [] => [[c]])
theorem spl_cons (c : UInt8) (r : List UInt8) : spl (c :: r) = if c = 32 then [] :: spl r else (match spl r with
 | h :: t => (c :: h) :: t
 | [] => [[c]]) := rfl
theorem spl_ne : ∀ s, spl s ≠ []
 | [] => by simp [spl]
 | c :: r => by
  unfold spl
  split
  · simp
  · split <;> simp
theorem spl_hd (s : List UInt8) : ∃ h t, spl s = h :: t := by
 cases h : spl s with
 | nil => exact absurd h (spl_ne s)
 | cons a b => exact ⟨a, b, rfl⟩
theorem splitK_spl : ∀ s : List UInt8, Lib.splitK [32] 0 (Lib.count s [32]) s = spl s
 | [] => by
  rw [Lib.count_miss (by simp [Lib.index])]
  rfl
 | c :: r => by
  by_cases hc : c = 32
  · subst hc
    have hix : Lib.index (32 :: r) [32] = ((0 : Nat) : Int) := by rw [Lib.index]; simp [List.isPrefixOf]
    rw [Lib.count_cons_eq, Nat.add_comm, Lib.splitK, hix, if_neg (by simp)]
    simp only [Int.toNat_natCast, Nat.add_zero, List.take_zero, Nat.zero_add, List.length_singleton, List.drop_succ_cons, List.drop_zero]
    rw [splitK_spl r]
    simp [spl]
  · have hp : ([32] : List UInt8).isPrefixOf (c :: r) = false := by simp [List.isPrefixOf, Ne.symm hc]
    have hix : Lib.index (c :: r) [32] = if Lib.index r [32] == -1 then -1 else Lib.index r [32] + 1 := by rw [Lib.index, hp]; simp
    have ih := splitK_spl r
    rw [Lib.count_cons_ne c 32 r hc]
    by_cases hm : Lib.index r [32] = -1
    · rw [Lib.count_miss hm] at ih ⊢
      have e : spl r = [r] := ih.symm
      have e2 : spl (c :: r) = [c :: r] := by unfold spl; rw [if_neg hc, e]
      rw [e2]
      rfl
    · have hge := Lib.index_ge r [32]
      obtain ⟨j, hj⟩ : ∃ j : Nat, Lib.index r [32] = j := ⟨(Lib.index r [32]).toNat, by omega⟩
      have hix2 : Lib.index (c :: r) [32] = ((j + 1 : Nat) : Int) := by rw [hix, if_neg (fun e => hm (beq_iff_eq.1 e)), hj]; omega
      rw [Lib.count_hit (by simp) hj, Nat.add_comm] at ih ⊢
      rw [Lib.splitK, hj, if_neg (by rw [beq_iff_eq]; omega)] at ih
      rw [Lib.splitK, hix2, if_neg (by rw [beq_iff_eq]; omega)]
      simp only [Int.toNat_natCast, Nat.add_zero, List.length_singleton] at ih ⊢
      have e2 : spl (c :: r) = (c :: r.take j) :: Lib.splitK [32] 0 (Lib.count (r.drop (j + 1)) [32]) (r.drop (j + 1)) := by unfold spl; rw [if_neg hc, ← ih]
      rw [e2]
      rfl
theorem parts_spl (x : ByteArray) : (parts x).map (fun v => v.data.toList) = spl x.data.toList := by
 unfold parts
 rw [Lib.splitB_data]
 exact splitK_spl x.data.toList
theorem spl_app : ∀ (u v : List UInt8), spl (u ++ 32 :: v) = spl u ++ spl v
 | [], v => by simp [spl]
 | c :: u, v => by
  rw [List.cons_append]
  obtain ⟨h, t, e⟩ := spl_hd u
  have ih := spl_app u v
  rw [e] at ih
  rw [spl_cons, spl_cons]
  by_cases hc : c = 32
  · rw [if_pos hc, if_pos hc, ih, e]; rfl
  · rw [if_neg hc, if_neg hc, ih, e]; rfl
theorem spl_no : ∀ v : List UInt8, (∀ c ∈ v, c ≠ 32) → spl v = [v]
 | [], _ => rfl
 | c :: v, h => by
  have ih := spl_no v fun x hx => h x (by simp [hx])
  unfold spl
  rw [if_neg (h c (by simp)), ih]
theorem data_inj {a b : List ByteArray} (h : a.map (fun v => v.data.toList) = b.map (fun v => v.data.toList)) : a = b := by
 induction a generalizing b with
 | nil => cases b with
  | nil => rfl
  | cons x b => simp at h
 | cons y a ih =>
  cases b with
  | nil => simp at h
  | cons x b =>
   rw [List.map_cons, List.map_cons] at h
   injection h with h1 h2
   rw [ih h2, ByteArray.ext (Array.toList_inj.1 h1)]
/-- One word more. -/
theorem parts_snoc (v s : ByteArray) (hs : ∀ c ∈ s.data.toList, c ≠ 32) : parts (v ++ (⟨#[32]⟩ ++ s)) = parts v ++ [s] := by
 apply data_inj
 rw [parts_spl, List.map_append, parts_spl]
 have e : (v ++ (⟨#[32]⟩ ++ s)).data.toList = v.data.toList ++ 32 :: s.data.toList := by simp [ByteArray.data_append]
 rw [e, spl_app, spl_no _ hs]
 rfl
theorem parts_one (s : ByteArray) (hs : ∀ c ∈ s.data.toList, c ≠ 32) : parts s = [s] := by
 apply data_inj
 rw [parts_spl, spl_no _ hs]
 rfl
theorem nm_blank {x : ByteArray} (h : isNm x = true) : ∀ c ∈ x.data.toList, c ≠ 32 := by
 intro c hc e
 unfold isNm at h
 rw [Bool.and_eq_true, List.all_eq_true] at h
 have := h.1 c hc
 rw [e] at this
 exact absurd this (by decide)
theorem parts_nmdS (names : List ByteArray) (hn : ∀ v ∈ names, isNm v = true) : ∀ (l : List Nat) (v : ByteArray), (∀ i ∈ l, i < names.length) → parts (nmd v names l) = parts v ++ l.map fun i => names.getD i ByteArray.empty
 | [], v, _ => by simp [nmd]
 | i :: l, v, hl => by
  have h1 : nmd v names (i :: l) = nmd (v ++ (⟨#[32]⟩ ++ names.getD i ByteArray.empty)) names l := rfl
  have hi := hl i (by simp)
  rw [h1, parts_nmdS names hn l _ fun j hj => hl j (by simp [hj]), parts_snoc _ _ (nm_blank (hn _ (by
   rw [List.getD_eq_getElem?_getD, List.getElem?_eq_getElem hi]
   exact List.getElem_mem hi)))]
  simp
/-- A word and names behind it read as these. -/
theorem parts_nmd (word : ByteArray) (hw : ∀ c ∈ word.data.toList, c ≠ 32) (names : List ByteArray) (hn : ∀ v ∈ names, isNm v = true) (l : List Nat) (hl : ∀ i ∈ l, i < names.length) : parts (nmd word names l) = word :: l.map fun i => names.getD i ByteArray.empty := by
 rw [parts_nmdS names hn l word hl, parts_one word hw]
 rfl
end Go.Proofs.YtnibidmlkbcfkaaGreatDoor
/- What a line that was done is: its size, its words. No condition. -/
namespace Go.Proofs.YtnibidmlkbcfkaaGreatDoor
open Go.RowKit Go.Maps
theorem lineL_size {r0 r1 : Nat} {x : ByteArray} {nm : List ByteArray} {nu : List Int} (h : lineL r0 r1 x = some (nm, nu)) : x.size ≤ 60 := by
 unfold lineL at h
 split at h
 · rename_i hc
   rw [Bool.and_eq_true] at hc
   have := hc.2
   unfold isLn at this
   simp only [Bool.and_eq_true, decide_eq_true_eq] at this
   omega
 · cases h
theorem kind_size {s s' : Bk} {x : ByteArray} (h : KindL s x s') : x.size ≤ 60 := by
 cases h with
 | medal v h1 h2 h3 => exact lineL_size h2
 | above v k h1 h2 h3 => exact lineL_size h2
 | player v h1 h2 h3 => exact lineL_size h2
 | beat v k h1 h2 h3 => exact lineL_size h2
 | batch a b c d h1 h2 h3 => exact lineL_size h2
 | pan a b c d h1 h2 h3 => exact lineL_size h2
 | bet v k h1 h2 h3 => exact lineL_size h2
theorem word_is {x : ByteArray} {l : List UInt8} {w : ByteArray} (h : (wordOf x).data.toList = l) (e : w.data.toList = l) : wordOf x = w := ByteArray.ext (Array.toList_inj.1 (h.trans e.symm))
theorem word_no {x : ByteArray} {l : List UInt8} {w : ByteArray} (h : (wordOf x).data.toList = l) (e : w.data.toList ≠ l) : wordOf x ≠ w := fun hw => e (by rw [← hw]; exact h)
theorem lineL_parts {r0 r1 : Nat} {x : ByteArray} {nm : List ByteArray} {nu : List Int} (h : lineL r0 r1 x = some (nm, nu)) (h0 : r1 = 0) : parts x = wordOf x :: nm := by
 obtain ⟨h1, _, h3, _⟩ := lineL_tail h
 rw [parts_head x]
 subst h0
 rw [h1, List.take_of_length_le (by omega)]
end Go.Proofs.YtnibidmlkbcfkaaGreatDoor
/- Walks of a tournament's valid and all. Conditions: one to eight players; the list is a tournament. -/
namespace Go.Proofs.YtnibidmlkbcfkaaGreatDoor
open Go.RowKit Go.Maps
attribute [local go_sem] Oper.semAt_some
attribute [local go_sem ↓] shl_p2 shr_v and_shr
end Go.Proofs.YtnibidmlkbcfkaaGreatDoor
/- Plain law of the best order of a tournament, and of its kings. No condition. -/
namespace Go.Proofs.YtnibidmlkbcfkaaGreatDoor
open Go.RowKit Go.Maps
/-- How many below n. -/
def onesN : Nat → (Nat → Bool) → Nat
 | 0, _ => 0
 | n+1, f => onesN n f + (if f n then 1 else 0)
section
variable (n : Nat) (b : Nat → Nat → Bool)
/-- How many of a set i beats. -/
def ag (S : Nat → Bool) (i : Nat) : Nat := onesN n (fun k => b i k && S k)
def addS (S : Nat → Bool) (i k : Nat) : Bool := S k || decide (k = i)
/-- Who is not in a set. -/
def outS (S : Nat → Bool) : List Nat := (List.range n).filter fun k => !S k
/-- The least number of pairs that the players behind a set bring, of k players more. -/
def valF : Nat → (Nat → Bool) → Nat
 | 0, _ => 0
 | k+1, S => (outS n S).foldl (fun m i => min m (ag n b S i + valF k (addS S i))) (n * n)
/-- How many are behind a set. -/
def lackS (S : Nat → Bool) : Nat := onesN n (fun k => !S k)
def valS (S : Nat → Bool) : Nat := valF n b (lackS n S) S
end
section
variable {n : Nat} {b : Nat → Nat → Bool} {S : Nat → Bool}
end
end Go.Proofs.YtnibidmlkbcfkaaGreatDoor
/- Plain law of the best order and the kings, as MintOrder asks it. No condition. -/
namespace Go.Proofs.YtnibidmlkbcfkaaGreatDoor
open Go.RowKit Go.Maps
section
variable {n : Nat} {b : Nat → Nat → Bool} {S : Nat → Bool}
end
end Go.Proofs.YtnibidmlkbcfkaaGreatDoor
/- Walks of ranks' players and of its closure. Condition: the library's table of 64 numbers stands in its variable; the set's box is known. -/
namespace Go.Proofs.YtnibidmlkbcfkaaGreatDoor
open Go.RowKit Go.Shelf
attribute [local go_sem] Oper.semAt_some
end Go.Proofs.YtnibidmlkbcfkaaGreatDoor
/- Walk of ranks.Kings. Conditions: a tournament of one to eight players; the library's table of 64 numbers stands in its variable. -/
namespace Go.Proofs.YtnibidmlkbcfkaaGreatDoor
open Go.RowKit Go.Shelf
attribute [local go_sem] Oper.semAt_some
attribute [local go_sem ↓] shl_p2 shr_v and_shr
end Go.Proofs.YtnibidmlkbcfkaaGreatDoor
/- Walks of math/bits.OnesCount and of ranks' count for sets of eight players. Condition: these bounds. -/
namespace Go.Proofs.YtnibidmlkbcfkaaGreatDoor
open Go.RowKit
/-! the steps of OnesCount64 -/
end Go.Proofs.YtnibidmlkbcfkaaGreatDoor
/- Walk of the closure that tells what a player costs behind a set. Conditions: one to eight players; the table's cell is known. -/
namespace Go.Proofs.YtnibidmlkbcfkaaGreatDoor
open Go.RowKit Go.Maps
attribute [local go_sem] Oper.semAt_some
attribute [local go_sem ↓] shl_p2 shr_v and_shr
end Go.Proofs.YtnibidmlkbcfkaaGreatDoor
/- Plain law of the table of the best orders, and the elements of a set in their order. No condition. -/
namespace Go.Proofs.YtnibidmlkbcfkaaGreatDoor
open Go.RowKit Go.Shelf
section
variable (n : Nat) (b : Nat → Nat → Bool)
/-- The table, right from a set on. -/
def tabV (t u : Nat) : Int := if t ≤ u then (valS n b u.testBit : Nat) else 0
end
section
variable {n : Nat} {b : Nat → Nat → Bool}
end
end Go.Proofs.YtnibidmlkbcfkaaGreatDoor
/- Walks of order's all and below at one element, and of lines' closure where nothing is left. Condition: the library's table of 64 numbers stands in its variable. -/
namespace Go.Proofs.YtnibidmlkbcfkaaGreatDoor
open Go.RowKit Go.Shelf
attribute [local go_sem] Oper.semAt_some
theorem TII : TS Tryz.prog 39 36 1 24 (.slice none 0 0) := ⟨Tryz.underlying39, by kernel_rfl, rfl, by decide⟩
/-- The boxes of lines: the order, what came out, the line, and the closure. -/
structure LnS (W : World) (bo bx bl bg : Nat) (x l : Value) : Prop where
 ord : Blk W bo 78 ord1
 out : Blk W bx 39 #[x]
 line : Blk W bl 36 #[l]
 grow : Blk W bg 133 #[.func (.func 73) #[] #[.pointer (some ⟨bx, 0, none⟩), .pointer (some ⟨bl, 0, none⟩), .pointer (some ⟨bo, 0, none⟩), .pointer (some ⟨bg, 0, none⟩)]]
theorem LnS.keep {W W' : World} {bo bx bl bg : Nat} {x l : Value} (h : LnS W bo bx bl bg x l) (hb : Below W.heap.size W W') : LnS W' bo bx bl bg x l := ⟨h.ord.keep hb, h.out.keep hb, h.line.keep hb, h.grow.keep hb⟩
theorem Chs.trans2 {S : Nat → Prop} {w W : World} (h : Chs S w W) {p : Addr} (hp : w.heap.size ≤ p.block) (v : Value) : Chs S w (W.setCell p v) :=
 ⟨h.os, h.tape, h.output, by simpa using h.size, fun i hi hn => (Below.heap_setCell W p v i (by omega)).trans (h.block i hi hn)⟩
theorem Tab.chs {S : Nat → Prop} {w w' : World} (h : Tab w) (hc : Chs S w w') (hs : ¬ S 7) : Tab w' := fun j hj =>
 (World.cell?_of_block (a := ⟨7, j, none⟩) (hc.block 7 (World.block_lt_of_cell? _ _ (h j hj)) hs)).trans (h j hj)
theorem ownFrom_chs {β : Type} {B : Nat} {S : Nat → Prop} {w0 : World} (hB : w0.heap.size ≤ B) : OwnFrom B (fun (_ : β) W => Chs S w0 W) := fun _ X Y row hs hg hr =>
 ⟨hg.os.trans hs.os, hg.tape.trans hs.tape, hg.output.trans hs.output, Nat.le_trans hs.size hg.size, fun i hi hn => (hg.block i (Nat.lt_of_lt_of_le hi hs.size) (fun e => by have := (hr i e.symm).1; omega)).trans (hs.block i hi hn)⟩
theorem ownFrom_own {β : Type} (B base : Nat) (e : TypeId) (size n : Nat) (v : Value) (xs : List Value) : OwnFrom B (fun (_ : β) W => W.ownsRow base e size v n xs) := fun _ X Y row hs hg hr => hs.kept hg (by
 cases hv : v.ownBlock with
 | none => exact .inl rfl
 | some g =>
  refine .inr fun e' => ?_
  obtain ⟨_, o, ho, hc⟩ := hr g e'.symm
  obtain ⟨cs, hcs⟩ := own_kind2 hs g hv
  rw [hcs] at ho
  cases ho
  cases hc)
end Go.Proofs.YtnibidmlkbcfkaaGreatDoor
/- Walk of ranks.Order, the first half: what stands, and the table. Conditions: a tournament of one to eight players; the library's table of 64 numbers stands in its variable. -/
namespace Go.Proofs.YtnibidmlkbcfkaaGreatDoor
open Go.RowKit Go.Shelf
attribute [local go_sem] Oper.semAt_some
attribute [local go_sem ↓] shl_p2 shr_v and_shr
/-- What stands all along: the list's variable, the table's, the closure's. -/
structure OdS (w W : World) (ab ao n c rx rv cv : Nat) : Prop where
 bz : Blk W w.heap.size 36 #[.slice (some ⟨ab, ao, none⟩) n c]
 br : Blk W rv 36 #[.slice (some ⟨rx, 0, none⟩) (2 ^ n) (2 ^ n)]
 bc : Blk W cv 89 #[.func (.func 171) #[] #[.pointer (some ⟨w.heap.size, 0, none⟩), .pointer (some ⟨rv, 0, none⟩)]]
 lo : Below w.heap.size w W
 tb : Tab W
section
variable {w W W' : World} {ab ao n c rx rv cv : Nat}
theorem OdS.below (h : OdS w W ab ao n c rx rv cv) (hb : Below W.heap.size W W') : OdS w W' ab ao n c rx rv cv := ⟨h.bz.keep hb, h.br.keep hb, h.bc.keep hb, below_call h.lo hb h.lo.size, h.tb.below hb⟩
theorem OdS.drew (h : OdS w W ab ao n c rx rv cv) : OdS w W.drew ab ao n c rx rv cv := h.below (Below.refl _ W).drew
theorem OdS.drewN (h : OdS w W ab ao n c rx rv cv) (q : Nat) : OdS w (W.drewN q) ab ao n c rx rv cv := ⟨h.bz, h.br, h.bc, ⟨h.lo.os, (World.tape_drewN ..).trans h.lo.tape, h.lo.output, h.lo.size, h.lo.block⟩, h.tb⟩
/-- A store into another block of the call's own. -/
theorem OdS.far (h : OdS w W ab ao n c rx rv cv) {p : Nat} (hp : w.heap.size < p) (h1 : p ≠ rv) (h2 : p ≠ cv) (hT : 7 < w.heap.size) (i : Nat) (v : Value) : OdS w (W.setCell ⟨p, i, none⟩ v) ab ao n c rx rv cv :=
 ⟨h.bz.far (p := ⟨p, i, none⟩) (by simp; omega) v, h.br.far (p := ⟨p, i, none⟩) (by simp; omega) v, h.bc.far (p := ⟨p, i, none⟩) (by simp; omega) v, h.lo.setCell (p := ⟨p, i, none⟩) (by simp; omega) v, h.tb.grown (setGrown W ⟨p, i, none⟩ v) (by simp; omega)⟩
end
theorem MarkS.own {B : Nat} {Ds : List Nat} {W : World} {base : Nat} {e : TypeId} {size n : Nat} {v : Value} {xs : List Value} (h : MarkS B Ds W) (ho : W.ownsRow base e size v n xs) : (shut Ds W).ownsRow base e size v n xs := by
 refine ⟨ho.1, ?_⟩
 rcases ho.2 with h2 | ⟨g, cap, cur, hv, hb, hg, r⟩
 · exact .inl h2
 · exact .inr ⟨g, cap, cur, hv, hb, (shut_heap Ds W g (fun hm => by have := h.at_ g hm; rw [hg] at this; cases this)).trans hg, r⟩
def natV (l : List Nat) : List Value := l.map fun i => Value.int .i64 (i : Nat)
/-- What stands while the order is told: S are those that are in, l their order. -/
structure PkS (w W : World) (ab ao n c rx rv cv : Nat) (b : Nat → Nat → Bool) (sv ov : Nat) (S : Nat → Bool) (l : List Nat) (O : Option Addr) (oc : Nat) (Ds : List Nat) : Prop where
 ods : OdS w W ab ao n c rx rv cv
 bs : Blk W sv 3 #[.int .i64 (mk n S)]
 bt : Blk W rx 3 (arr (2 ^ n) (tabV n b 0))
 bo : Blk W ov 36 #[.slice O l.length oc]
 own : W.ownsRow (cv + 1) 3 1 (.slice O l.length oc) l.length (natV l)
 mrk : MarkS w.heap.size Ds W
section
variable {w W W' : World} {ab ao n c rx rv cv : Nat} {b : Nat → Nat → Bool} {sv ov : Nat} {S : Nat → Bool} {l : List Nat} {O : Option Addr} {oc : Nat} {Ds : List Nat}
theorem PkS.below (h : PkS w W ab ao n c rx rv cv b sv ov S l O oc Ds) (hb : Below W.heap.size W W') : PkS w W' ab ao n c rx rv cv b sv ov S l O oc Ds :=
 ⟨h.ods.below hb, h.bs.keep hb, h.bt.keep hb, h.bo.keep hb, own_below h.own hb, h.mrk.keep h.mrk.lt hb⟩
theorem PkS.drewN (h : PkS w W ab ao n c rx rv cv b sv ov S l O oc Ds) (q : Nat) : PkS w (W.drewN q) ab ao n c rx rv cv b sv ov S l O oc Ds :=
 ⟨h.ods.drewN q, h.bs, h.bt, h.bo, h.own, ⟨h.mrk.at_, h.mrk.nod, h.mrk.low⟩⟩
/-- A store into a box that is none of these. -/
theorem PkS.far (h : PkS w W ab ao n c rx rv cv b sv ov S l O oc Ds) {p : Nat} (h0 : w.heap.size < p) (h1 : p ≠ rv) (h2 : p ≠ cv) (h3 : p ≠ sv) (h4 : p ≠ rx) (h5 : p ≠ ov) (h6 : ∀ g, (Value.slice O l.length oc).ownBlock = some g → g ≠ p) (h7 : ∀ D ∈ Ds, D ≠ p) (hT : 7 < w.heap.size) (v : Value) :
 PkS w (W.setCell ⟨p, 0, none⟩ v) ab ao n c rx rv cv b sv ov S l O oc Ds :=
 ⟨h.ods.far h0 h1 h2 hT 0 v, h.bs.far (p := ⟨p, 0, none⟩) (by simp; omega) v, h.bt.far (p := ⟨p, 0, none⟩) (by simp; omega) v, h.bo.far (p := ⟨p, 0, none⟩) (by simp; omega) v,
  h.own.kept (setGrown W ⟨p, 0, none⟩ v) (by
   cases hv : (Value.slice O l.length oc).ownBlock with
   | none => exact .inl rfl
   | some g => exact .inr (fun e => h6 g hv (by injection e))),
  ⟨fun D hD => (Below.heap_setCell W ⟨p, 0, none⟩ v D (by have := h7 D hD; simp; omega)).trans (h.mrk.at_ D hD), h.mrk.nod, h.mrk.low⟩⟩
/-- One more is in the order. -/
theorem PkS.push (h : PkS w W ab ao n c rx rv cv b sv ov S l O oc Ds) {x : Nat} {O' : Option Addr} {oc' : Nat} (hl : w.heap.size < rx ∧ rx < rv ∧ rv < cv ∧ cv < ov) (hT : 7 < w.heap.size) (ha : ∀ g, (Value.slice O l.length oc).ownBlock = some g → g ≠ sv)
 (hg : W.grownBy W' (Value.slice O l.length oc).ownBlock) (ho : W'.ownsRow (cv + 1) 3 1 (.slice O' (l.length + 1) oc') (l.length + 1) (natV (l ++ [x]))) :
 PkS w (W'.setCell ⟨ov, 0, none⟩ (.slice O' (l.length + 1) oc')) ab ao n c rx rv cv b sv ov S (l ++ [x]) O' oc' Ds := by
 have hlt : ∀ g, (Value.slice O l.length oc).ownBlock = some g → cv + 1 ≤ g := fun g e => (h.own.lt g e).1
 have hov : some ov ≠ (Value.slice O l.length oc).ownBlock := own_ne_blk h.own h.bo (by decide)
 have nb : ∀ q, q < cv + 1 → some q ≠ (Value.slice O l.length oc).ownBlock := fun q hq e => by have := hlt q e.symm; omega
 have hO : OdS w W' ab ao n c rx rv cv := ⟨h.ods.bz.grown hg (nb _ (by omega)), h.ods.br.grown hg (nb _ (by omega)), h.ods.bc.grown hg (nb _ (by omega)), h.ods.lo.grown hg h.ods.lo.size (fun k hk => by have := hlt k hk; omega), h.ods.tb.grown hg (fun e => by have := hlt _ e; omega)⟩
 have hbo := h.bo.grown hg hov
 have hsv := h.bs.grown hg (fun e => ha sv e.symm rfl)
 have hne : sv ≠ ov := fun e => by
  subst e
  have k1 := h.bs
  have k2 := h.bo
  unfold Blk at k1 k2
  rw [k1] at k2
  injection k2 with k2
  injection k2 with k3 k4
  exact absurd k4 (by decide)
 have hlen : (l ++ [x]).length = l.length + 1 := by simp
 have hmk : MarkS w.heap.size Ds W' := ⟨fun D hD => (hg.block D (h.mrk.lt D hD) (fun e => by
  obtain ⟨cc, hc⟩ := own_kind2 h.own D e.symm
  have := h.mrk.at_ D hD
  rw [hc] at this
  cases this)).trans (h.mrk.at_ D hD), h.mrk.nod, h.mrk.low⟩
 refine ⟨hO.far (by omega) (by omega) (by omega) hT 0 _, hsv.far (p := ⟨ov, 0, none⟩) hne _, (h.bt.grown hg (nb _ (by omega))).far (p := ⟨ov, 0, none⟩) (by simp; omega) _, ?_, ?_, hmk.set hbo 0 _⟩
 · rw [hlen]; exact hbo.set 0 _
 · rw [hlen]; exact own_grown ho hbo (by decide) (setGrown W' ⟨ov, 0, none⟩ _)
end
end Go.Proofs.YtnibidmlkbcfkaaGreatDoor
/- Walk of ranks.Order. Conditions: a tournament of one to eight players; the library's table of 64 numbers stands in its variable. -/
namespace Go.Proofs.YtnibidmlkbcfkaaGreatDoor
open Go.RowKit Go.Shelf
attribute [local go_sem] Oper.semAt_some
attribute [local go_sem ↓] shl_p2 shr_v and_shr
end Go.Proofs.YtnibidmlkbcfkaaGreatDoor
/- Walks of the questions order and kings. Conditions: what a mint's books keep; the library's variables stand. -/
namespace Go.Proofs.YtnibidmlkbcfkaaGreatDoor
open Go.RowKit Go.Maps
attribute [local go_sem ↓] shr_v and_shr
theorem TourI.bits {l : List Int} (h : TourI l) : l = ordL l.length (bitsOf l) ∧ TourOk l.length (bitsOf l) := by
 obtain ⟨b, h1, h2⟩ := h
 have h3 : ∀ i j, i < l.length → j < l.length → bitsOf l i j = b i j := fun i j hi hj => by
  conv => lhs; rw [h1]
  exact bits_ordL hi hj
 exact ⟨h1.trans (ordL_congr fun i j hi hj => (h3 i j hi hj).symm), h2.congr fun i j hi hj => (h3 i j hi hj).symm⟩
theorem nm_size {l : List ByteArray} (h : ∀ v ∈ l, isNm v = true) : ∀ s ∈ l, s.size ≤ 100 := fun s hs => by
 have h1 := h s hs
 unfold isNm at h1
 simp only [Bool.and_eq_true, decide_eq_true_eq] at h1
 omega
end Go.Proofs.YtnibidmlkbcfkaaGreatDoor
/- Plain law of MintOrder: what the journal says of the players, and what the replies to order and kings read as. No condition. -/
namespace Go.Proofs.YtnibidmlkbcfkaaGreatDoor
open Go.RowKit Go.Maps
theorem idx_nodup {l : List ByteArray} (hn : l.Nodup) {i : Nat} (hi : i < l.length) : idxZ l (l.getD i ByteArray.empty) = i := by
 have he : l[i]? = some (l.getD i ByteArray.empty) := by rw [List.getD_eq_getElem?_getD, List.getElem?_eq_getElem hi]; rfl
 refine idxZ_at _ l i he (fun j hj h => ?_)
 have h1 : l[j]? = l[i]? := h.trans he.symm
 have := (List.getElem?_inj (by omega) hn).1 h1
 omega
theorem nmd_size (names : List ByteArray) (h : ∀ s ∈ names, s.size ≤ 100) : ∀ (l : List Nat) (v : ByteArray), (nmd v names l).size ≤ v.size + 101 * l.length
 | [], v => by simp [nmd]
 | i :: l, v => by
  have h1 : nmd v names (i :: l) = nmd (v ++ (⟨#[32]⟩ ++ names.getD i ByteArray.empty)) names l := rfl
  have h2 := nmd_size names h l (v ++ (⟨#[32]⟩ ++ names.getD i ByteArray.empty))
  have h3 : (names.getD i ByteArray.empty).size ≤ 100 := by
   rw [List.getD_eq_getElem?_getD]
   cases he : names[i]? with
   | none => exact Nat.zero_le _
   | some x => exact h x (List.mem_of_getElem? he)
  have h4 : (v ++ ((⟨#[32]⟩ : ByteArray) ++ names.getD i ByteArray.empty)).size = v.size + (1 + (names.getD i ByteArray.empty).size) := by rw [ByteArray.size_append, ByteArray.size_append]; rfl
  rw [h1, List.length_cons]
  omega
end Go.Proofs.YtnibidmlkbcfkaaGreatDoor
/- Walk of pairsOf, and slices of pairs of texts. Condition: short texts. -/
namespace Go.Proofs.YtnibidmlkbcfkaaGreatDoor
open Go.RowKit Go.Maps
theorem TPS : TS Tryz.prog 53 54 2 32 (.agg #[.string ⟨#[]⟩, .string ⟨#[]⟩]) := ⟨Tryz.underlying53, by kernel_rfl, rfl, by decide⟩
def prV (P : List (ByteArray × ByteArray)) : List Value := P.flatMap fun p => [.string p.1, .string p.2]
theorem prV_len (P : List (ByteArray × ByteArray)) : (prV P).length = P.length * 2 := by
 induction P with
 | nil => rfl
 | cons u xs ih =>
  have : prV (u :: xs) = .string u.1 :: .string u.2 :: prV xs := rfl
  rw [this, List.length_cons, List.length_cons, ih, List.length_cons]; omega
theorem prV_snoc (P : List (ByteArray × ByteArray)) (p : ByteArray × ByteArray) : prV (P ++ [p]) = prV P ++ [.string p.1, .string p.2] := by
 unfold prV
 rw [List.flatMap_append]; rfl
theorem prV_get : ∀ (xs : List (ByteArray × ByteArray)) (j : Nat) (u : ByteArray × ByteArray), xs[j]? = some u → (prV xs)[j * 2]? = some (.string u.1) ∧ (prV xs)[j * 2 + 1]? = some (.string u.2) := by
 intro xs
 induction xs with
 | nil => intro j u h; simp at h
 | cons v xs ih =>
  intro j u h
  have e : prV (v :: xs) = .string v.1 :: .string v.2 :: prV xs := rfl
  rw [e]
  cases j with
  | zero => simp at h; subst h; exact ⟨rfl, rfl⟩
  | succ j =>
   have := ih j u (by simpa using h)
   have e2 : (j + 1) * 2 = j * 2 + 2 := by omega
   rw [e2]
   exact ⟨by simpa using this.1, by simpa using this.2⟩
/-- A slice of pairs of texts that reads as xs. -/
structure SlP (w : World) (A : Option Addr) (n c : Nat) (xs : List (ByteArray × ByteArray)) : Prop where
 len : xs.length = n
 cap : n ≤ c
 capm : c ≤ maxLen
 pos : 0 < n → ∃ b o, A = some ⟨b, o, none⟩ ∧ b < w.heap.size ∧ ∀ j u, xs[j]? = some u → w.cell? ⟨b, o + j * 2, none⟩ = some (.string u.1) ∧ w.cell? ⟨b, o + j * 2 + 1, none⟩ = some (.string u.2)
theorem SlP.of_own {w : World} {base : Nat} {e : TypeId} {A : Option Addr} {n c : Nat} {xs : List (ByteArray × ByteArray)} (h : w.ownsRow base e 2 (.slice A n c) n (prV xs)) : SlP w A n c xs := by
 have hl := h.1
 rw [prV_len] at hl
 have hn : xs.length = n := by omega
 rcases h.2 with ⟨hv, h0⟩ | ⟨g, cap, cur, hv, hb, hg, hc, hm, hs, ht⟩
 · cases hv
   exact ⟨hn, Nat.le_refl _, Nat.zero_le _, fun h => absurd h (by omega)⟩
 · cases hv
   refine ⟨hn, hc, hm, fun _ => ⟨g, 0, rfl, lt_of_block hg, fun j u hu => ?_⟩⟩
   obtain ⟨e1, e2⟩ := prV_get xs j u hu
   have k1 := h.cells (g := g) rfl _ _ e1
   have k2 := h.cells (g := g) rfl _ _ e2
   have ha : ∀ q, (⟨g, 0, none⟩ : Addr).add q = ⟨g, q, none⟩ := fun q => by unfold Addr.add; split <;> simp_all
   rw [ha] at k1 k2
   rw [Nat.zero_add]
   exact ⟨k1, k2⟩
theorem SlP.below {w w' : World} {A : Option Addr} {n c : Nat} {xs : List (ByteArray × ByteArray)} (h : SlP w A n c xs) (hb : Below w.heap.size w w') : SlP w' A n c xs :=
 ⟨h.len, h.cap, h.capm, fun hn => by
  obtain ⟨b, o, e, hlt, hc⟩ := h.pos hn
  exact ⟨b, o, e, Nat.lt_of_lt_of_le hlt hb.size, fun j u hu => ⟨(hb.cell (p := ⟨b, _, none⟩) hlt).trans (hc j u hu).1, (hb.cell (p := ⟨b, _, none⟩) hlt).trans (hc j u hu).2⟩⟩⟩
def jnP (p : ByteArray × ByteArray) : ByteArray := p.1 ++ ⟨#[32]⟩ ++ p.2
theorem catS2 (u v : ByteArray) (hu : u.size ≤ 1000000) (hv : v.size ≤ 1000000) (W : World) : (Op.stringOp .add u v).run Tryz.prog W = .ok (.string (u ++ v)) W := run_string_add_sum W _ _ (by omega)
set_option maxRecDepth 100000 in
set_option maxHeartbeats 4000000 in
theorem prsF (P : List (ByteArray × ByteArray)) (A : Option Addr) (n c : Nat) (w : World) (hs : SlP w A n c P) (hn : n ≤ 1000) (hP : ∀ p ∈ P, p.1.size ≤ 100 ∧ p.2.size ≤ 100) :
 Calls Tryz.prog 24 #[.slice A n c] w fun e w' => ∃ O oc, e = .returned (.slice O n oc) ∧ w'.ownsRow w.heap.size 9 1 (.slice O n oc) n (strV (P.map jnP)) ∧ Below w.heap.size w w' := by
 have HS := hid hs
 have HP := hid hP
 have hlen := hs.len
 have HLEN := hid hlen
 have hcap := hs.cap
 have hcapm := hs.capm
 have HB0 := hid (Below.refl w.heap.size w)
 have HO0 := hid (show w.ownsRow w.heap.size 9 1 (.slice none 0 0) 0 (strV ((P.take 0).map jnP)) from World.ownsRow_nil _ _ _ _)
 clear hs hP hlen
 go_enter Tryz.func24, Tryz.ntmps24
 go_wp2
 go_loopg [3, 8] n (fun gk v i wr => ∃ (k : Nat) (O : Option Addr) (oc : Nat), gk + k = n ∧ i = .int .i64 k ∧ v = .slice O k oc ∧ Hid (wr.ownsRow w.heap.size 9 1 (.slice O k oc) k (strV ((P.take k).map jnP))) ∧ Hid (Below w.heap.size w wr))
 case atStart => exact ⟨0, none, 0, by omega, rfl, rfl, HO0, HB0⟩
 case round =>
  clear HB0 HO0
  obtain ⟨k, O, oc, hk, rfl, rfl, HO, HB⟩ := hrel
  have HK := hid hk
  by_cases hlt : k < n
  · have HLT := hid hlt
    obtain ⟨b, o, rfl, lb, hc⟩ := (HS.out.below HB.out).pos (by omega)
    have hkl : k < P.length := by rw [HLEN.out]; exact hlt
    have hpk : P[k]? = some P[k] := List.getElem?_eq_getElem hkl
    obtain ⟨c1, c2⟩ := hc k _ hpk
    have hz := HP.out P[k] (List.getElem_mem hkl)
    have hst := (show (P.take (k + 1)).map jnP = (P.take k).map jnP ++ [jnP P[k]] from by rw [List.take_add_one, hpk, Option.toList_some, List.map_append]; rfl)
    generalize hpp : P[k] = pk at *
    obtain ⟨x, y⟩ := pk
    simp only at c1 c2 hz
    have HST := hid (show (P.take (k + 1)).map jnP = (P.take k).map jnP ++ [x ++ ⟨#[32]⟩ ++ y] from hst)
    clear hst
    have cat1 := catS2 x ⟨#[32]⟩ (by omega) (by show (1 : Nat) ≤ _; decide)
    have cat2 := catS2 (x ++ ⟨#[32]⟩) y (by rw [ByteArray.size_append]; have : (ByteArray.mk #[32]).size = 1 := rfl; omega) (by omega)
    have HB1 := hid (HB.out.alloc HB.out.size (.cells #[.string x, .string y] 54))
    have HO1 := hid (own_below HO.out ((Below.refl wr.heap.size wr).alloc (Nat.le_refl _) (.cells #[.string x, .string y] 54)))
    clear hk lb hc hpk hpp hz
    go_wp2_with (at_builtin; refine push1L TS22 (wr.alloc (.cells #[.string x, .string y] 54)) #[.string (x ++ ⟨#[32]⟩ ++ y)] w.heap.size _ _ _ HO1.out _ _ (wr.heap.size + 1) (by simp) rfl rfl rfl rfl rfl (by simp [Value.oneCell']) (by omega) (by omega) HB1.out.size ?_; intro v1 w8 hown1 hgr hap; obtain ⟨O8, c8, rfl⟩ := own_form hown1; have HO8 := hid (show w8.ownsRow w.heap.size 9 1 (.slice O8 (k + 1) c8) (k + 1) (strV ((P.take (k + 1)).map jnP)) from by rw [HST.out]; unfold strV at hown1 ⊢; rw [List.map_append]; exact hown1); have HB8 := hid (HB1.out.grown hgr HB1.out.size (fun g hg => (HO1.out.lt g hg).1)); clear hown1 hgr hap)
    go_roundg (gk - 1)
    case measure => have := HK.out; have := HLT.out; omega
    case rel => exact ⟨k + 1, O8, c8, by have := HK.out; have := HLT.out; omega, by go_num, rfl, HO8, HB8⟩
  · obtain rfl : k = n := by have := HK.out; omega
    have e : P.take k = P := List.take_of_length_le (by rw [HLEN.out]; exact Nat.le_refl _)
    rw [e] at HO
    clear hk e
    go_wp2
    go_ret
    exact ⟨O, oc, rfl, HO.out, HB.out⟩
end Go.Proofs.YtnibidmlkbcfkaaGreatDoor
/- Plain law of the first line of an order: every element is in it once, before all that are above it. No program in sight. -/
namespace Go.Proofs.YtnibidmlkbcfkaaGreatDoor
open Go.RowKit
/-- i can come first of the set s. -/
def minB (n : Nat) (a : Nat → Nat → Bool) (s i : Nat) : Bool := (List.range n).all fun j => !(a j i && s.testBit j)
def firstM (n : Nat) (a : Nat → Nat → Bool) (s : Nat) : Option Nat := (bitsL s).find? (minB n a s)
/-- The first line of a set. -/
def lnL (n : Nat) (a : Nat → Nat → Bool) : Nat → Nat → List Nat
 | 0, _ => []
 | f + 1, s => match firstM n a s with
  | none => []
  | some i => i :: lnL n a f (clr s i)
def lineO (n : Nat) (a : Nat → Nat → Bool) : List Nat := lnL n a n (2 ^ n - 1)
theorem min_iff {n : Nat} {a : Nat → Nat → Bool} {s i : Nat} : minB n a s i = true ↔ ∀ j, j < n → a j i = true → s.testBit j = false := by
 unfold minB
 rw [List.all_eq_true]
 constructor
 · intro h j hj e
   have := h j (List.mem_range.2 hj)
   rw [e] at this
   simpa using this
 · intro h j hj
   cases e : a j i with
   | false => simp
   | true => simp [h j (List.mem_range.1 hj) e]
theorem ord_turn {n : Nat} {a : Nat → Nat → Bool} (ho : OrdOk n a) : OrdOk n (fun i j => a j i) := ⟨ho.1, fun i j k hi hj hk h1 h2 => ho.2 k j i hk hj hi h2 h1⟩
theorem first_some {n : Nat} {a : Nat → Nat → Bool} (hn : n ≤ 6) (ho : OrdOk n a) {s : Nat} (hs : s < 2 ^ n) (h0 : s ≠ 0) : ∃ i, firstM n a s = some i ∧ s.testBit i = true ∧ minB n a s i = true := by
 have hne : bitsL s ≠ [] := by
  obtain ⟨i, hi⟩ := Nat.exists_testBit_of_ne_zero h0
  intro e
  have := (mem_bits (p64 hn hs)).2 hi
  rw [e] at this
  simp at this
 obtain ⟨k, hk, hm⟩ := max_of (ord_turn ho) (bitsL s) hne fun x hx => lt_six hs ((mem_bits (p64 hn hs)).1 hx)
 have hmin : minB n a s k = true := min_iff.2 fun j hj e => by
  cases e2 : s.testBit j with
  | false => rfl
  | true => rw [hm j ((mem_bits (p64 hn hs)).2 e2)] at e; cases e
 cases hf : firstM n a s with
 | none =>
  unfold firstM at hf
  rw [List.find?_eq_none] at hf
  exact absurd hmin (hf k hk)
 | some i =>
  refine ⟨i, rfl, ?_, ?_⟩
  · unfold firstM at hf
    exact (mem_bits (p64 hn hs)).1 (List.mem_of_find?_eq_some hf)
  · unfold firstM at hf
    exact List.find?_some hf
theorem ln_all {n : Nat} {a : Nat → Nat → Bool} (hn : n ≤ 6) (ho : OrdOk n a) : ∀ (f s : Nat), s < 2 ^ n → (bitsL s).length ≤ f → (∀ i, i ∈ lnL n a f s ↔ s.testBit i = true) ∧ (lnL n a f s).Nodup ∧ (lnL n a f s).Pairwise (fun u v => a v u = false) ∧ (lnL n a f s).length = (bitsL s).length := by
 intro f
 induction f with
 | zero =>
  intro s hs hl
  have hb : bitsL s = [] := List.eq_nil_of_length_eq_zero (by omega)
  refine ⟨fun i => ?_, List.nodup_nil, List.Pairwise.nil, by rw [hb]; rfl⟩
  rw [← mem_bits (p64 hn hs), hb]
  exact Iff.rfl
 | succ f ih =>
  intro s hs hl
  by_cases h0 : s = 0
  · subst h0
    have e : lnL n a (f + 1) 0 = [] := rfl
    rw [e]
    exact ⟨fun i => by simp, List.nodup_nil, List.Pairwise.nil, rfl⟩
  obtain ⟨i, h1, h2, h3⟩ := first_some hn ho hs h0
  obtain ⟨f1, f2, f3, f4⟩ := clr_facts (p64 hn hs) h2
  have e : lnL n a (f + 1) s = i :: lnL n a f (clr s i) := by
   conv => lhs; unfold lnL
   rw [h1]
  rw [e]
  obtain ⟨g1, g2, g3, g4⟩ := ih (clr s i) (by omega) (by omega)
  refine ⟨fun j => ?_, List.nodup_cons.2 ⟨fun h => ?_, g2⟩, List.pairwise_cons.2 ⟨fun v hv => ?_, g3⟩, by rw [List.length_cons, g4, f3]⟩
  · rw [List.mem_cons, g1, f4]
    by_cases ej : j = i
    · subst ej; simp [h2]
    · simp [ej]
  · rw [g1, f4] at h
    simp at h
  · rw [g1, f4] at hv
    simp only [Bool.and_eq_true] at hv
    cases e2 : a v i with
    | false => rfl
    | true =>
     have := min_iff.1 h3 v (lt_six hs hv.1) e2
     rw [hv.1] at this; cases this
theorem bits_full {n : Nat} (hn : n ≤ 6) : (bitsL (2 ^ n - 1)).length = n := by
 rcases (show n = 0 ∨ n = 1 ∨ n = 2 ∨ n = 3 ∨ n = 4 ∨ n = 5 ∨ n = 6 by omega) with rfl | rfl | rfl | rfl | rfl | rfl | rfl <;> decide +kernel
/-- The first line: all elements once, none behind one that is above it. -/
theorem lineO_all {n : Nat} {a : Nat → Nat → Bool} (hn : n ≤ 6) (ho : OrdOk n a) : (∀ i, i ∈ lineO n a ↔ i < n) ∧ (lineO n a).Nodup ∧ (lineO n a).Pairwise (fun u v => a v u = false) ∧ (lineO n a).length = n := by
 have hp := Nat.pow_pos (n := n) (show 0 < 2 by decide)
 obtain ⟨h1, h2, h3, h4⟩ := ln_all hn ho n (2 ^ n - 1) (by omega) (by rw [bits_full hn]; exact Nat.le_refl _)
 refine ⟨fun i => ?_, h2, h3, by unfold lineO; rw [h4, bits_full hn]⟩
 unfold lineO
 rw [h1, Nat.testBit_two_pow_sub_one, decide_eq_true_iff]
end Go.Proofs.YtnibidmlkbcfkaaGreatDoor
