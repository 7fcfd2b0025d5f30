/- The reference's table of families: its plain law, its memory, place and put; what folds away. No condition. -/
import Derived.Test.YtjddbglbodkihaaDoorFoldM
import Derived.Test.YtjddbglbodkihaaDoorRefP
import Derived.BigQuiet
import Derived.BigRegion
import Derived.Deep.CutRange
/- The plain law of the reference's table of families, each at a place that it tells or behind it: what is found, what is put; and how many families there are at most. Condition: the table is never full. -/
namespace Go.Proofs.YtjddbglbodkihaaDoor

theorem sub_lenA {α : Type} [BEq α] [LawfulBEq α] : ∀ (l1 l2 : List α), l1.Nodup → (∀ x ∈ l1, x ∈ l2) → l1.length ≤ l2.length := by
  intro l1
  induction l1 with
  | nil => intro l2 _ _; simp
  | cons x l1 ih =>
    intro l2 hn hs
    have hx := hs x (by simp)
    rw [List.nodup_cons] at hn
    have := ih (l2.erase x) hn.2 fun y hy => (List.mem_erase_of_ne (show y ≠ x from fun e => hn.1 (by rw [← e]; exact hy))).2 (hs y (by simp [hy]))
    rw [List.length_erase_of_mem hx] at this
    have h0 : 0 < l2.length := List.length_pos_of_mem hx
    simp only [List.length_cons]
    omega

/-- Where a key is looked for. -/
def hsh (k : Nat) : Nat := (k * 11400714819323198485 % 18446744073709551616) / 1099511627776
def slot (N k t : Nat) : Nat := (hsh k + t) % N
def updK {α : Type} (f : Nat → α) (i : Nat) (v : α) : Nat → α := fun j => if j = i then v else f j
theorem slot_lt {N : Nat} (h : 0 < N) (k t : Nat) : slot N k t < N := Nat.mod_lt _ h
theorem slot_succ (N k t : Nat) : (slot N k t + 1) % N = slot N k (t + 1) := by
  unfold slot
  rw [Nat.mod_add_mod, Nat.add_assoc]
structure GoodK (N : Nat) (ks : Nat → Nat) (us : Nat → Bool) (L : List Nat) : Prop where
  nodup : L.Nodup
  mem : ∀ k, k ∈ L ↔ ∃ i, i < N ∧ us i = true ∧ ks i = k
  reach : ∀ k, k ∈ L → ∃ t, us (slot N k t) = true ∧ ks (slot N k t) = k ∧ ∀ s, s < t → us (slot N k s) = true
  inj : ∀ i j, i < N → j < N → us i = true → us j = true → ks i = ks j → i = j
structure Found (N : Nat) (ks : Nat → Nat) (us : Nat → Bool) (k t : Nat) : Prop where
  bef : ∀ s, s < t → us (slot N k s) = true ∧ ks (slot N k s) ≠ k
  at_ : us (slot N k t) = false ∨ ks (slot N k t) = k
theorem GoodK.fresh (N : Nat) (ks : Nat → Nat) : GoodK N ks (fun _ => false) [] := ⟨List.nodup_nil, fun k => by simp, fun k h => by simp at h, fun _ _ _ _ h => by cases h⟩
section
variable {N : Nat} {ks : Nat → Nat} {us : Nat → Bool} {L : List Nat} {k t : Nat}
theorem GoodK.zero (h : GoodK N ks us L) (hl : L.length < N) : ∃ z, z < N ∧ us z = false := by
  apply Classical.byContradiction
  intro hno
  have hnz : ∀ i, i < N → us i = true := fun i hi => by
    cases e : us i
    · exact absurd ⟨i, hi, e⟩ hno
    · rfl
  have hnd : ((List.range N).map ks).Nodup := by
    unfold List.Nodup
    rw [List.pairwise_map]
    refine List.Pairwise.imp_of_mem ?_ (List.nodup_range (n := N))
    intro a b ha hb hab e
    have ha := List.mem_range.1 ha
    have hb := List.mem_range.1 hb
    exact hab (h.inj a b ha hb (hnz a ha) (hnz b hb) e)
  have := sub_lenA _ L hnd fun x hx => by
    obtain ⟨i, hi, rfl⟩ := List.mem_map.1 hx
    have hi := List.mem_range.1 hi
    exact (h.mem _).2 ⟨i, hi, hnz i hi, rfl⟩
  simp at this
  omega
theorem GoodK.stop (h : GoodK N ks us L) (hl : L.length < N) (k : Nat) : ∃ T, T < N ∧ us (slot N k T) = false := by
  obtain ⟨z, hz, h0⟩ := h.zero hl
  refine ⟨(z + (N - hsh k % N)) % N, Nat.mod_lt _ (by omega), ?_⟩
  have hlt : hsh k % N < N := Nat.mod_lt _ (by omega)
  have : slot N k ((z + (N - hsh k % N)) % N) = z := by
    unfold slot
    rw [Nat.add_mod_mod, ← Nat.mod_add_mod, show hsh k % N + (z + (N - hsh k % N)) = z + N by omega, Nat.add_mod_right, Nat.mod_eq_of_lt hz]
  rw [this]; exact h0
theorem GoodK.notin (h : GoodK N ks us L) (hf : Found N ks us k t) (h0 : us (slot N k t) = false) : k ∉ L := by
  intro hk
  obtain ⟨u, hu0, hu, hb⟩ := h.reach k hk
  rcases Nat.lt_trichotomy u t with e | e | e
  · exact (hf.bef u e).2 hu
  · subst e; rw [h0] at hu0; cases hu0
  · have := hb t e; rw [h0] at this; cases this
/-- The key is there, where it is found. -/
theorem GoodK.isin (hN : 0 < N) (h : GoodK N ks us L) (hf : Found N ks us k t) (h1 : us (slot N k t) = true) : k ∈ L ∧ ks (slot N k t) = k := by
  have e : ks (slot N k t) = k := by
    rcases hf.at_ with e | e
    · rw [h1] at e; cases e
    · exact e
  exact ⟨(h.mem k).2 ⟨_, slot_lt hN k t, h1, e⟩, e⟩
theorem GoodK.insert (hN : 0 < N) (h : GoodK N ks us L) (hf : Found N ks us k t) (h0 : us (slot N k t) = false) : GoodK N (updK ks (slot N k t) k) (updK us (slot N k t) true) (k :: L) := by
  have hno := h.notin hf h0
  have hlt := slot_lt hN k t
  have keep : ∀ i, us i = true → updK ks (slot N k t) k i = ks i ∧ updK us (slot N k t) true i = true := fun i hi => by
    have hne : i ≠ slot N k t := fun e => by subst e; rw [h0] at hi; cases hi
    unfold updK
    rw [if_neg hne, if_neg hne]
    exact ⟨rfl, hi⟩
  have here : updK ks (slot N k t) k (slot N k t) = k ∧ updK us (slot N k t) true (slot N k t) = true := by simp [updK]
  refine ⟨List.nodup_cons.2 ⟨hno, h.nodup⟩, fun x => ?_, fun x hx => ?_, fun i j hi hj hui huj he => ?_⟩
  · rw [List.mem_cons, h.mem]
    constructor
    · rintro (rfl | ⟨i, hi, hu, he⟩)
      · exact ⟨_, hlt, here.2, here.1⟩
      · exact ⟨i, hi, (keep i hu).2, by rw [(keep i hu).1]; exact he⟩
    · rintro ⟨i, hi, hu, he⟩
      by_cases e : i = slot N k t
      · subst e; rw [here.1] at he; exact .inl he.symm
      · refine .inr ⟨i, hi, ?_, ?_⟩
        · simpa [updK, e] using hu
        · simpa [updK, e] using he
  · rw [List.mem_cons] at hx
    rcases hx with rfl | hx
    · exact ⟨t, here.2, here.1, fun s hs => (keep _ (hf.bef s hs).1).2⟩
    · obtain ⟨u, hu0, hu, hb⟩ := h.reach x hx
      exact ⟨u, (keep _ hu0).2, by rw [(keep _ hu0).1]; exact hu, fun s hs => (keep _ (hb s hs)).2⟩
  · by_cases e1 : i = slot N k t
    · by_cases e2 : j = slot N k t
      · rw [e1, e2]
      · exfalso
        have huj' : us j = true := by simpa [updK, e2] using huj
        rw [e1, here.1, updK, if_neg e2] at he
        exact hno ((h.mem k).2 ⟨j, hj, huj', he.symm⟩)
    · have hui' : us i = true := by simpa [updK, e1] using hui
      by_cases e2 : j = slot N k t
      · exfalso
        rw [e2, here.1, updK, if_neg e1] at he
        exact hno ((h.mem k).2 ⟨i, hi, hui', he⟩)
      · have huj' : us j = true := by simpa [updK, e2] using huj
        simp only [updK, if_neg e1, if_neg e2] at he
        exact h.inj i j hi hj hui' huj' he
theorem updK_same {α : Type} {f : Nat → α} {i : Nat} {v : α} (h : f i = v) : updK f i v = f := by
  funext j
  unfold updK
  by_cases e : j = i
  · rw [if_pos e, e, h]
  · rw [if_neg e]
end

/-! how many families there are -/
/-- The families of three elements. -/
def dn3 (b : Nat) : Bool := (List.range 8).all fun s => !b.testBit s || (List.range 3).all fun x => b.testBit (rm s x)
def D3 : List Nat := (List.range 256).filter dn3
theorem D3_len : D3.length = 20 := by decide +kernel
/-- Rows of j of these. -/
def rows3 : Nat → List Nat
  | 0 => [0]
  | j+1 => (rows3 j).flatMap fun a => D3.map fun b => a * 256 + b
theorem rows3_len : ∀ j, (rows3 j).length = 20 ^ j := by
  intro j
  induction j with
  | zero => rfl
  | succ j ih =>
    simp only [rows3]
    rw [List.length_flatMap]
    have e : ((rows3 j).map fun a => (D3.map fun b => a * 256 + b).length) = (rows3 j).map fun _ => 20 := List.map_congr_left fun a _ => by rw [List.length_map, D3_len]
    rw [e, List.map_const', List.sum_replicate_nat, ih, Nat.pow_succ]
theorem rows3_mem : ∀ (j F : Nat), F < 256 ^ j → (∀ i, i < j → F / 256 ^ i % 256 ∈ D3) → F ∈ rows3 j := by
  intro j
  induction j with
  | zero => intro F hF _; simp at hF; simp [rows3, hF]
  | succ j ih =>
    intro F hF h
    simp only [rows3]
    rw [List.mem_flatMap]
    refine ⟨F / 256, ih _ ?_ fun i hi => ?_, List.mem_map.2 ⟨F % 256, ?_, ?_⟩⟩
    · rw [Nat.pow_succ] at hF
      exact Nat.div_lt_of_lt_mul (by omega)
    · have := h (i + 1) (by omega)
      rw [Nat.pow_succ, Nat.mul_comm, ← Nat.div_div_eq_div_mul] at this
      exact this
    · have := h 0 (by omega)
      simpa using this
    · omega
theorem ad_hi : ∀ s : Fin 8, ∀ x : Fin 3, ∀ i : Fin 8, rm (8 * i.val + s.val) x.val = 8 * i.val + rm s.val x.val := by decide +kernel
theorem rm_ad_all : ∀ u : Fin 64, ∀ x : Fin 6, ad (rm u.val x.val) x.val = u.val ∨ rm u.val x.val = u.val := by decide +kernel
theorem fs_rm {F u x : Nat} (h : FS F) (hu : F.testBit u = true) (hx : x < 6) : F.testBit (rm u x) = true := by
  have hu64 := h.small u hu
  rcases rm_ad_all ⟨u, hu64⟩ ⟨x, hx⟩ with e | e
  · simp only at e
    exact h.shut _ x (by rw [e]; exact hu)
  · simp only at e
    rw [e]; exact hu
theorem byte_D3 {F : Nat} (h : FS F) (i : Nat) (hi : i < 8) : F / 256 ^ i % 256 ∈ D3 := by
  have hbit : ∀ s, s < 8 → (F / 256 ^ i % 256).testBit s = F.testBit (8 * i + s) := fun s hs => by
    have e : (256 : Nat) ^ i = 2 ^ (8 * i) := by rw [show (256 : Nat) = 2 ^ 8 from rfl, ← Nat.pow_mul]
    rw [show (256 : Nat) = 2 ^ 8 from rfl] at e ⊢
    rw [e, Nat.testBit_mod_two_pow, Nat.testBit_div_two_pow, decide_eq_true hs, Bool.true_and, Nat.add_comm]
  unfold D3
  rw [List.mem_filter]
  refine ⟨List.mem_range.2 (Nat.mod_lt _ (by decide)), ?_⟩
  unfold dn3
  rw [List.all_eq_true]
  intro s hs
  have hs := List.mem_range.1 hs
  rw [hbit s hs]
  cases hb : F.testBit (8 * i + s)
  · rfl
  · rw [Bool.not_true, Bool.false_or, List.all_eq_true]
    intro x hx
    have hx := List.mem_range.1 hx
    have := fs_rm h hb (show x < 6 by omega)
    rw [ad_hi ⟨s, hs⟩ ⟨x, hx⟩ ⟨i, hi⟩] at this
    have hrl := rm_le s x
    rw [hbit _ (by omega)]
    exact this
/-- Families apart are at most so many. -/
theorem fs_few (L : List Nat) (hn : L.Nodup) (h : ∀ F ∈ L, FS F) : L.length ≤ 25600000000 := by
  have := sub_lenA L (rows3 8) hn fun F hF => rows3_mem 8 F (by have := (h F hF).lt; omega) fun i hi => byte_D3 (h F hF) i hi
  rw [rows3_len] at this
  omega
end Go.Proofs.YtjddbglbodkihaaDoor

/- The reference's table of families in memory: what it is, how it is kept, where a family stands. No condition. -/
namespace Go.Proofs.YtjddbglbodkihaaDoor
open Go.RowKit

/-- n u64 numbers as cells. -/
def arrU (n : Nat) (f : Nat → Nat) : Array Value := ((List.range n).map fun i => Value.int .u64 (f i : Nat)).toArray
theorem arrU_get {n : Nat} {f : Nat → Nat} {i : Nat} (h : i < n) : (arrU n f)[i]? = some (.int .u64 (f i : Nat)) := by simp [arrU, h]
theorem arrU_size (n : Nat) (f : Nat → Nat) : (arrU n f).size = n := by simp [arrU]
theorem arrU_upd {n : Nat} {f : Nat → Nat} {i : Nat} (v : Nat) : (arrU n f).setIfInBounds i (.int .u64 (v : Nat)) = arrU n (updK f i v) := by
  apply Array.ext_getElem?
  intro j
  rw [Array.getElem?_setIfInBounds]
  by_cases hj : j < n
  · rw [arrU_get hj]
    by_cases e : i = j
    · subst e; rw [if_pos rfl, if_pos (by rw [arrU_size]; exact hj), arrU_get hj]; simp [updK]
    · rw [if_neg e, arrU_get hj]; simp [updK, show ¬ j = i from fun a => e a.symm]
  · have h1 : (arrU n (updK f i v))[j]? = none := Array.getElem?_eq_none (by rw [arrU_size]; omega)
    have h2 : (arrU n f)[j]? = none := Array.getElem?_eq_none (by rw [arrU_size]; omega)
    rw [h1]
    by_cases e : i = j
    · subst e; simp [arrU_size, hj]
    · rw [if_neg e, h2]
theorem barr_updU {n : Nat} {f : Nat → Bool} {i : Nat} (v : Bool) : (barr n f).setIfInBounds i (.bool v) = barr n (updK f i v) := by
  apply Array.ext_getElem?
  intro j
  have hsz : ∀ g : Nat → Bool, (barr n g).size = n := fun g => by simp [barr]
  rw [Array.getElem?_setIfInBounds]
  by_cases hj : j < n
  · rw [barr_get hj]
    by_cases e : i = j
    · subst e; rw [if_pos rfl, if_pos (by rw [hsz]; exact hj), barr_get hj]; simp [updK]
    · rw [if_neg e, barr_get hj]; simp [updK, show ¬ j = i from fun a => e a.symm]
  · have h1 : (barr n (updK f i v))[j]? = none := Array.getElem?_eq_none (by rw [hsz]; omega)
    have h2 : (barr n f)[j]? = none := Array.getElem?_eq_none (by rw [hsz]; omega)
    rw [h1]
    by_cases e : i = j
    · subst e; simp [hsz, hj]
    · rw [if_neg e, h2]
theorem made_arrU (n : Nat) : (madeCells (Value.int .u64 0).cells (n * 1)).toList.toArray = arrU n fun _ => 0 := by
  apply Array.ext_getElem?
  intro j
  by_cases hj : j < n
  · rw [arrU_get hj]
    simp [madeCells, Value.cells, hj, Nat.mod_one]
  · have h1 : (arrU n fun _ => 0)[j]? = none := Array.getElem?_eq_none (by rw [arrU_size]; omega)
    rw [h1]
    simp [madeCells, Value.cells]
    omega
theorem TU104 : TS Tryd.prog 104 70 1 8 (.int .u64 0) := ⟨Tryd.underlying104, by kernel_rfl, rfl, by decide⟩
theorem make104 (n : Nat) (hn : n ≤ 1099511627776) (W : World) : (Instr.makeSlice 104 (.int .i64 (n : Int)) (.int .i64 (n : Int))).run Tryd.prog W = .ok (.slice (some ⟨W.heap.size, 0, none⟩) n n) (W.alloc (.cells (arrU n fun _ => 0) 70)) := by
  obtain ⟨i0, hi, hz0, hz1, hz2⟩ := info_parts TU104.inf
  have := run_make (P := Tryd.prog) W 104 70 i0 (.int .u64 0) TU104.und hi hz0 .i64 .i64 (n : Int) (n : Int) (by omega) (Int.le_refl _) (by rw [hz2]; omega) (by omega)
  rw [this, Int.toNat_natCast, hz1, ← made_arrU]
theorem make77U (n : Nat) (hn : n ≤ 1099511627776) (W : World) : (Instr.makeSlice 77 (.int .i64 (n : Int)) (.int .i64 (n : Int))).run Tryd.prog W = .ok (.slice (some ⟨W.heap.size, 0, none⟩) n n) (W.alloc (.cells (barr n fun _ => false) 4)) := by
  obtain ⟨i0, hi, hz0, hz1, hz2⟩ := info_parts TB77.inf
  have := run_make (P := Tryd.prog) W 77 4 i0 (.bool false) TB77.und hi hz0 .i64 .i64 (n : Int) (n : Int) (by omega) (Int.le_refl _) (by rw [hz2]; omega) (by omega)
  rw [this, Int.toNat_natCast, hz1, ← made_barr]

structure TabS (OK : Nat → Prop) (w : World) (mb g1 g2 N : Nat) (ks : Nat → Nat) (us : Nat → Bool) (L : List Nat) : Prop where
  bm : Blk w mb 106 #[.slice (some ⟨g1, 0, none⟩) N N, .slice (some ⟨g2, 0, none⟩) N N, .int .i64 (L.length : Nat)]
  bk : Blk w g1 70 (arrU N ks)
  bu : Blk w g2 4 (barr N us)
  pw : ∃ e, 10 ≤ e ∧ e ≤ 38 ∧ N = 2 ^ e
  half : 2 * L.length ≤ N
  good : GoodK N ks us L
  tru : ∀ k, k ∈ L → FS k ∧ OK k
section
variable {OK : Nat → Prop} {w w' : World} {mb g1 g2 N : Nat} {ks : Nat → Nat} {us : Nat → Bool} {L : List Nat}
theorem blk_neU {b c : Nat} {t t' : TypeId} {cs cs' : Array Value} (h : Blk w b t cs) (h' : Blk w c t' cs') (ht : t ≠ t') : b ≠ c := by
  intro e
  subst e
  unfold Blk at h h'
  rw [h] at h'
  injection h' with h'
  injection h' with _ h' _
  exact ht h'
theorem TabS.m1 (h : TabS OK w mb g1 g2 N ks us L) : mb ≠ g1 := blk_neU h.bm h.bk (by decide)
theorem TabS.m2 (h : TabS OK w mb g1 g2 N ks us L) : mb ≠ g2 := blk_neU h.bm h.bu (by decide)
theorem TabS.k2 (h : TabS OK w mb g1 g2 N ks us L) : g1 ≠ g2 := blk_neU h.bk h.bu (by decide)
theorem TabS.nbd (h : TabS OK w mb g1 g2 N ks us L) : 1024 ≤ N ∧ N ≤ 274877906944 := by
  obtain ⟨e, h1, h2, rfl⟩ := h.pw
  have a := Nat.pow_le_pow_right (show 0 < 2 by decide) h1
  have b := Nat.pow_le_pow_right (show 0 < 2 by decide) h2
  have c : 2 ^ 10 = 1024 := by decide
  have d : 2 ^ 38 = 274877906944 := by decide
  omega
theorem TabS.keep (h : TabS OK w mb g1 g2 N ks us L) (hb : Below w.heap.size w w') : TabS OK w' mb g1 g2 N ks us L := ⟨h.bm.keep hb, h.bk.keep hb, h.bu.keep hb, h.pw, h.half, h.good, h.tru⟩
theorem TabS.drewN (h : TabS OK w mb g1 g2 N ks us L) (k : Nat) : TabS OK (w.drewN k) mb g1 g2 N ks us L := ⟨h.bm.drewN k, h.bk.drewN k, h.bu.drewN k, h.pw, h.half, h.good, h.tru⟩
theorem TabS.few (h : TabS OK w mb g1 g2 N ks us L) : L.length ≤ 25600000000 := fs_few L h.good.nodup fun F hF => (h.tru F hF).1
end

theorem u64_andm {a e : Nat} (ha : a < 18446744073709551616) (he : e ≤ 38) : bits .and .u64 (a : Int) (((2 ^ e : Nat) : Int) - 1) = ((a % 2 ^ e : Nat) : Int) := by
  have h1 := Nat.one_le_two_pow (n := e)
  have h2 := Nat.pow_le_pow_right (show 0 < 2 by decide) he
  have d : 2 ^ 38 = 274877906944 := by decide
  rw [show ((2 ^ e : Nat) : Int) - 1 = ((2 ^ e - 1 : Nat) : Int) by omega]
  have hx : a &&& (2 ^ e - 1) < 18446744073709551616 := Nat.lt_of_le_of_lt Nat.and_le_left ha
  show IntKind.u64.wrap ((BitVec.ofInt 64 (a : Int) &&& BitVec.ofInt 64 ((2 ^ e - 1 : Nat) : Int)).toNat : Int) = _
  rw [BitVec.toNat_and, ofInt64 a ha, ofInt64 _ (by omega), IntKind.wrap_u64, Nat.and_two_pow_sub_one_eq_mod]
  rw [Nat.and_two_pow_sub_one_eq_mod] at hx
  omega
theorem i64_andm {a e : Nat} (ha : a < 9223372036854775808) (he : e ≤ 38) : bits .and .i64 (a : Int) (((2 ^ e : Nat) : Int) - 1) = ((a % 2 ^ e : Nat) : Int) := by
  have h1 := Nat.one_le_two_pow (n := e)
  have h2 := Nat.pow_le_pow_right (show 0 < 2 by decide) he
  have d : 2 ^ 38 = 274877906944 := by decide
  rw [show ((2 ^ e : Nat) : Int) - 1 = ((2 ^ e - 1 : Nat) : Int) by omega, i64_and _ _ ha (by omega), Nat.and_two_pow_sub_one_eq_mod]
theorem hsh_lt (k : Nat) : hsh k < 16777216 := by
  unfold hsh
  omega
def mulC (k : Nat) : Nat := k * 11400714819323198485 % 18446744073709551616
theorem mul_c {k : Nat} : Op.intArith .mul .u64 (k : Int) 11400714819323198485 = pure (.int .u64 (mulC k : Nat)) := by
  show pure (Value.int .u64 (IntKind.u64.wrap ((k : Int) * 11400714819323198485))) = _
  have e : IntKind.u64.wrap ((k : Int) * 11400714819323198485) = ((mulC k : Nat) : Int) := by
    rw [IntKind.wrap_u64]
    unfold mulC
    omega
  rw [e]
theorem shr_c {a : Nat} {yk : IntKind} : Op.shift .shr .u64 ((mulC a : Nat) : Int) yk 40 = pure (.int .u64 ((hsh a : Nat) : Int)) := by
  rw [shift_shr .u64 yk _ 40 (by decide) (by decide)]
  have e : (2 : Int) ^ (40 : Int).toNat = 1099511627776 := by decide
  have e2 : ((mulC a : Nat) : Int) / 1099511627776 = ((hsh a : Nat) : Int) := by
    unfold hsh mulC
    omega
  rw [e, e2]
attribute [local go_sem ↓] mul_c shr_c
theorem place_start {N e k : Nat} (he : e ≤ 38) (hN : N = 2 ^ e) : wrap64 (bits .and .u64 ((hsh k : Nat) : Int) ((N : Int) - 1)) = ((slot N k 0 : Nat) : Int) := by
  have hl := hsh_lt k
  rw [hN, u64_andm (by omega) he]
  unfold slot
  rw [Nat.add_zero]
  have := Nat.mod_le (hsh k) (2 ^ e)
  unfold wrap64
  omega
set_option maxRecDepth 100000 in
set_option maxHeartbeats 2000000 in
theorem placeR (OK : Nat → Prop) (mb g1 g2 N : Nat) (ks : Nat → Nat) (us : Nat → Bool) (L : List Nat) (k : Nat) (w : World) (h : TabS OK w mb g1 g2 N ks us L) :
    Calls Tryd.prog 101 #[.pointer (some ⟨mb, 0, none⟩), .int .u64 (k : Nat)] w fun e w' => (∃ s t, s = slot N k t ∧ Found N ks us k t ∧ e = .returned (.int .i64 (s : Nat))) ∧ w = w' := by
  obtain ⟨T, hT, hz⟩ := h.good.stop (by have := h.half; have := h.nbd; omega) k
  have c0 := h.bm.cell 0
  have c1 := h.bm.cell 1
  simp only [List.getElem?_toArray, List.getElem?_cons_zero, List.getElem?_cons_succ] at c0 c1
  have hN := h.nbd
  obtain ⟨e, he1, he2, hNe⟩ := h.pw
  obtain ⟨sl, hsl⟩ : ∃ sl : Nat → Nat, ∀ t, sl t = slot N k t := ⟨_, fun _ => rfl⟩
  have HC := hid fun t => (show w.cell? ⟨g1, sl t, none⟩ = some (.int .u64 (ks (sl t) : Nat)) by
    rw [hsl, h.bk.cell, arrU_get (slot_lt (by omega) k t)])
  have HU := hid fun t => (show w.cell? ⟨g2, sl t, none⟩ = some (.bool (us (sl t))) by
    rw [hsl, h.bu.cell, barr_get (slot_lt (by omega) k t)])
  have HS := hid fun t => (show sl t < N by rw [hsl]; exact slot_lt (show 0 < N by omega) k t)
  have HZ := hid (show us (sl T) = false by rw [hsl]; exact hz)
  have HM1 := hid (show wrap64 (bits .and .u64 ((hsh k : Nat) : Int) ((N : Int) - 1)) = ((sl 0 : Nat) : Int) by rw [hsl]; exact place_start (k := k) he2 hNe)
  have hm2 := hid fun t => (show bits .and .i64 ((sl t : Nat) + 1) ((N : Int) - 1) = ((sl (t + 1) : Nat) : Int) by
    have hlt := slot_lt (show 0 < N by omega) k t
    rw [hsl, hsl, ← slot_succ, show ((slot N k t : Nat) : Int) + 1 = ((slot N k t + 1 : Nat) : Int) by omega]
    generalize slot N k t = s at *
    subst hNe
    exact i64_andm (by omega) he2)
  have HFD := hid fun t (hb : ∀ s, s < t → us (sl s) = true ∧ ks (sl s) ≠ k) (ha : us (sl t) = false ∨ ks (sl t) = k) => (show ∃ t', Found N ks us k t' ∧ sl t = slot N k t' from ⟨t, ⟨fun s hs => by have := hb s hs; rwa [hsl] at this, by rwa [hsl] at ha⟩, hsl t⟩)
  clear h hz hNe hsl
  go_enter Tryd.func101, Tryd.ntmps101
  go_wp2
  generalize hsh k = H at *
  generalize mulC k = M at *
  go_loopg [5] T (fun gk i wr => ∃ t : Nat, gk + t = T ∧ i = .int .i64 (sl t : Nat) ∧ Hid (∀ s, s < t → us (sl s) = true ∧ ks (sl s) ≠ k) ∧ w = wr)
  case atStart => exact ⟨0, by omega, by rw [HM1.out], hid fun s h => absurd h (by omega), rfl⟩
  case round =>
    obtain ⟨t, ht, rfl, HO, hw⟩ := hrel
    subst hw
    have HT := hid ht
    have cc := HC.out t
    have cu := HU.out t
    have hs := HS.out t
    have h2 := hm2.out t
    clear ht
    cases hu : us (sl t)
    · have F := hid (HFD.out t HO.out (.inl hu))
      rw [hu] at cu
      clear hu
      go_wp2
      go_ret
      obtain ⟨t', h1, h2⟩ := F.out
      exact ⟨⟨sl t, t', h2, h1, rfl⟩, rfl⟩
    · rw [hu] at cu
      by_cases hkk : ks (sl t) = k
      · have hnk : (((ks (sl t) : Nat) : Int) != (k : Int)) = false := by rw [hkk]; simp
        have F := hid (HFD.out t HO.out (.inr hkk))
        have HS2 := hid hs
        clear hkk hu
        go_wp2
        go_ret
        obtain ⟨t', h1, h2⟩ := F.out
        exact ⟨⟨sl t, t', h2, h1, rfl⟩, rfl⟩
      · have hnk : (((ks (sl t) : Nat) : Int) != (k : Int)) = true := by rw [bne_iff_ne]; omega
        have hnk2 : (ks (sl t) != k) = true := by rw [bne_iff_ne]; exact hkk
        have HK := hid hkk
        have HUU := hid hu
        have HN := hid (show t ≠ T by intro e; subst e; rw [HZ.out] at hu; cases hu)
        clear hkk hu
        go_wp2
        go_roundg (gk - 1)
        case measure => have := HT.out; have := HN.out; omega
        case rel =>
          refine ⟨t + 1, by have := HT.out; have := HN.out; omega, rfl, hid fun s hs => ?_, rfl⟩
          by_cases e : s = t
          · subst e; exact ⟨HUU.out, HK.out⟩
          · exact HO.out s (by omega)
end Go.Proofs.YtjddbglbodkihaaDoor

/- What a call may change that knows the table of families; a family is put into the table. No condition. -/
namespace Go.Proofs.YtjddbglbodkihaaDoor
open Go.RowKit

structure Step (W w' : World) (mb g1 g2 g1' g2' : Nat) : Prop where
  os : w'.os = W.os
  tape : w'.tape = W.tape
  output : w'.output = W.output
  size : W.heap.size ≤ w'.heap.size
  block : ∀ i, i < W.heap.size → i ≠ mb → i ≠ g1 → i ≠ g2 → w'.heap[i]? = W.heap[i]?
  n1 : g1' = g1 ∨ W.heap.size ≤ g1'
  n2 : g2' = g2 ∨ W.heap.size ≤ g2'
section
variable {W w w' : World} {mb g1 g2 g1' g2' g1'' g2'' : Nat}
theorem Step.refl (W : World) (mb g1 g2 : Nat) : Step W W mb g1 g2 g1 g2 := ⟨rfl, rfl, rfl, Nat.le_refl _, fun _ _ _ _ _ => rfl, .inl rfl, .inl rfl⟩
theorem Step.trans (h : Step W w mb g1 g2 g1' g2') (k : Step w w' mb g1' g2' g1'' g2'') : Step W w' mb g1 g2 g1'' g2'' :=
  ⟨k.os.trans h.os, k.tape.trans h.tape, k.output.trans h.output, Nat.le_trans h.size k.size,
    fun i hi a b c => (k.block i (by have := h.size; omega) a (by rcases h.n1 with e | e <;> omega) (by rcases h.n2 with e | e <;> omega)).trans (h.block i hi a b c),
    by rcases k.n1 with e | e
       · rw [e]; exact h.n1
       · exact .inr (Nat.le_trans h.size e),
    by rcases k.n2 with e | e
       · rw [e]; exact h.n2
       · exact .inr (Nat.le_trans h.size e)⟩
theorem Step.of_below (h : Below W.heap.size W w') : Step W w' mb g1 g2 g1 g2 := ⟨h.os, h.tape, h.output, h.size, fun i hi _ _ _ => h.block i hi, .inl rfl, .inl rfl⟩
theorem Step.drewN (h : Step W w mb g1 g2 g1' g2') (k : Nat) : Step W (w.drewN k) mb g1 g2 g1' g2' := h.trans ⟨rfl, rfl, rfl, Nat.le_refl _, fun _ _ _ _ _ => rfl, .inl rfl, .inl rfl⟩
theorem Step.then_below (h : Step W w mb g1 g2 g1' g2') (k : Below w.heap.size w w') : Step W w' mb g1 g2 g1' g2' := h.trans (Step.of_below k)
theorem Step.setCell (h : Step W w mb g1 g2 g1' g2') {p : Addr} (hp : p.block = mb ∨ p.block = g1' ∨ p.block = g2') (u : Value) : Step W (w.setCell p u) mb g1 g2 g1' g2' :=
  h.trans ⟨rfl, rfl, rfl, by simp, fun i _ a b c => Below.heap_setCell w p u i (by rcases hp with e | e | e <;> rw [e] <;> assumption), .inl rfl, .inl rfl⟩
theorem Step.below {B : Nat} {a : World} (h : Below B a W) (k : Step W w mb g1 g2 g1' g2') (hB : B ≤ W.heap.size) (hm : B ≤ mb) (h1 : B ≤ g1) (h2 : B ≤ g2) : Below B a w :=
  h.trans ⟨k.os, k.tape, k.output, k.size, fun i hi => k.block i (by omega) (by omega) (by omega) (by omega)⟩
end

/-- A table of some families. -/
def TabF (OK : Nat → Prop) (w : World) (mb g1 g2 : Nat) : Prop := ∃ N ks us L, TabS OK w mb g1 g2 N ks us L
set_option maxRecDepth 100000 in
set_option maxHeartbeats 4000000 in
theorem putLowR (OK : Nat → Prop) (mb g1 g2 N : Nat) (ks : Nat → Nat) (us : Nat → Bool) (L : List Nat) (k : Nat) (hok : FS k ∧ OK k) (hl : 2 * L.length < N) (w : World) (h : TabS OK w mb g1 g2 N ks us L) :
    Calls Tryd.prog 102 #[.pointer (some ⟨mb, 0, none⟩), .int .u64 (k : Nat)] w fun e w' => e = .returned (.tuple #[]) ∧ ∃ G1 G2 N' ks' us' L', TabS OK w' mb G1 G2 N' ks' us' L' ∧ (G1 = g1 ∧ G2 = g2 ∧ N' = N ∧ ∀ x, x ∈ L' → x = k ∨ x ∈ L) ∧ Step w w' mb g1 g2 G1 G2 := by
  have HPL := hid (placeR OK mb g1 g2 N ks us L k)
  have hN := h.nbd
  have c0 := h.bm.cell 0
  have c2 := h.bm.cell 2
  simp only [List.getElem?_toArray, List.getElem?_cons_zero, List.getElem?_cons_succ] at c0 c2
  have g : decide ((N : Int) ≤ 2 * (L.length : Int)) = false := decide_eq_false (by omega)
  have hLn : (L.length : Int) ≤ 25600000000 := by have := h.few; omega
  have H := hid h
  have HOK := hid hok
  have HLK := hid (And.intro True.intro hl)
  clear h hok
  go_enter Tryd.func102, Tryd.ntmps102
  go_wp2_with fail
  go_quiet (fail)
  go_wp2_with fail
  generalize hW : w.drewN _ = WT at *
  have HT := hid (show TabS OK WT mb g1 g2 N ks us L by rw [← hW]; exact H.out.drewN _)
  have HS := hid (show Step w WT mb g1 g2 g1 g2 by rw [← hW]; exact (Step.refl _ _ _ _).drewN _)
  clear c0 c2 hW
  refine (HPL.out WT HT.out).mono ?_; rintro e w1 ⟨⟨s, t, hse, hf, rfl⟩, rfl⟩

  have hs := slot_lt (show 0 < N by omega) k t
  rw [← hse] at hs
  have M1 := HT.out.m1; have M2 := HT.out.m2; have K2 := HT.out.k2
  have HIN := hid (HT.out.good.insert (by omega) hf)
  have HIS := hid (HT.out.good.isin (by omega) hf)
  rw [← hse] at HIN HIS
  clear hse
  have u0 := HT.out.bu.cell s
  rw [barr_get hs] at u0
  have x1 := HT.out.bm.cell 1
  simp only [List.getElem?_toArray, List.getElem?_cons_zero, List.getElem?_cons_succ] at x1
  cases hu : us s
  · rw [hu] at u0
    have HG := hid (HIN.out hu)
    have D3 := hid (HT.out.bm.set 2 (.int .i64 ((L.length : Int) + 1)))
    have D1 := hid (HT.out.bk.far (p := ⟨mb, 2, none⟩) M1.symm (.int .i64 ((L.length : Int) + 1)))
    have D2 := hid (HT.out.bu.far (p := ⟨mb, 2, none⟩) M2.symm (.int .i64 ((L.length : Int) + 1)))
    have S1 := hid (HS.out.setCell (p := ⟨mb, 2, none⟩) (.inl rfl) (.int .i64 ((L.length : Int) + 1)))
    have B1 := hid (show Blk ((WT.setCell ⟨mb, 2, none⟩ (.int .i64 ((L.length : Int) + 1))).setCell ⟨g1, s, none⟩ (.int .u64 (k : Nat))) g1 70 (arrU N (updK ks s k)) by rw [← arrU_upd]; exact D1.out.set s _)
    have B2 := hid (D2.out.far (p := ⟨g1, s, none⟩) K2.symm (.int .u64 (k : Nat)))
    have B3 := hid (D3.out.far (p := ⟨g1, s, none⟩) M1 (.int .u64 (k : Nat)))
    have S2 := hid (S1.out.setCell (p := ⟨g1, s, none⟩) (.inr (.inl rfl)) (.int .u64 (k : Nat)))
    have C2 := hid (show Blk (((WT.setCell ⟨mb, 2, none⟩ (.int .i64 ((L.length : Int) + 1))).setCell ⟨g1, s, none⟩ (.int .u64 (k : Nat))).setCell ⟨g2, s, none⟩ (.bool true)) g2 4 (barr N (updK us s true)) by rw [← barr_updU]; exact B2.out.set s _)
    have C1 := hid (B1.out.far (p := ⟨g2, s, none⟩) K2 (.bool true))
    have C3 := hid (B3.out.far (p := ⟨g2, s, none⟩) M2 (.bool true))
    have S3 := hid (S2.out.setCell (p := ⟨g2, s, none⟩) (.inr (.inr rfl)) (.bool true))
    have x2 := HT.out.bm.cell 2
    have y0 := D3.out.cell 0
    have y1 := B3.out.cell 1
    have z1 := D1.out.cell s
    have z2 := B2.out.cell s
    rw [arrU_get hs] at z1
    rw [barr_get hs] at z2
    simp only [List.getElem?_toArray, List.getElem?_cons_zero, List.getElem?_cons_succ, List.setIfInBounds_toArray, List.set_cons_succ, List.set_cons_zero] at x2 y0 y1
    have f2 := HT.out.bm.free 2
    have f1 := D1.out.free s
    have f0 := B2.out.free s
    have HFW := hid HT.out.few
    have hLb : (L.length : Int) ≤ 25600000000 := by have := HT.out.few; omega
    clear hf HIN HIS hu
    go_wp2_with fail
    go_end0
    have hbm : (#[Value.slice (some ⟨g1, 0, none⟩) N N, .slice (some ⟨g2, 0, none⟩) N N, .int .i64 (L.length : Nat)] : Array Value).setIfInBounds 2 (.int .i64 ((L.length : Int) + 1)) = #[Value.slice (some ⟨g1, 0, none⟩) N N, .slice (some ⟨g2, 0, none⟩) N N, .int .i64 ((k :: L).length : Nat)] := by
      rw [List.length_cons, Int.natCast_add]; rfl
    refine ⟨rfl, g1, g2, N, _, _, k :: L, ⟨by rw [← hbm]; exact C3.out, C1.out, C2.out, HT.out.pw, ?_, HG.out, fun x hx => ?_⟩, ⟨rfl, rfl, rfl, fun x hx => by simpa using hx⟩, S3.out⟩
    · obtain ⟨e, h1, _, h3⟩ := HT.out.pw
      have h4 : N = 2 * 2 ^ (e - 1) := by rw [h3, ← Nat.pow_succ', show (e - 1).succ = e by omega]
      have h5 := HLK.out.2
      rw [List.length_cons]
      generalize 2 ^ (e - 1) = p at h4
      omega
    · rcases List.mem_cons.1 hx with rfl | hx
      · exact HOK.out
      · exact HT.out.tru x hx
  · rw [hu] at u0
    obtain ⟨hin, hks⟩ := HIS.out hu
    have B1 := hid (show Blk (WT.setCell ⟨g1, s, none⟩ (.int .u64 (k : Nat))) g1 70 (arrU N ks) by
      have h := HT.out.bk.set s (.int .u64 (k : Nat))
      rwa [arrU_upd, updK_same hks] at h)
    have B2 := hid (HT.out.bu.far (p := ⟨g1, s, none⟩) K2.symm (.int .u64 (k : Nat)))
    have B3 := hid (HT.out.bm.far (p := ⟨g1, s, none⟩) M1 (.int .u64 (k : Nat)))
    have S2 := hid (HS.out.setCell (p := ⟨g1, s, none⟩) (.inr (.inl rfl)) (.int .u64 (k : Nat)))
    have C2 := hid (show Blk ((WT.setCell ⟨g1, s, none⟩ (.int .u64 (k : Nat))).setCell ⟨g2, s, none⟩ (.bool true)) g2 4 (barr N us) by
      have h := B2.out.set s (.bool true)
      rwa [barr_updU, updK_same hu] at h)
    have C1 := hid (B1.out.far (p := ⟨g2, s, none⟩) K2 (.bool true))
    have C3 := hid (B3.out.far (p := ⟨g2, s, none⟩) M2 (.bool true))
    have S3 := hid (S2.out.setCell (p := ⟨g2, s, none⟩) (.inr (.inr rfl)) (.bool true))
    have y0 := HT.out.bm.cell 0
    have y1 := B3.out.cell 1
    have z1 := HT.out.bk.cell s
    have z2 := B2.out.cell s
    rw [arrU_get hs] at z1
    rw [barr_get hs] at z2
    simp only [List.getElem?_toArray, List.getElem?_cons_zero, List.getElem?_cons_succ] at y0 y1
    have f1 := HT.out.bk.free s
    have f0 := B2.out.free s
    clear hf HIN HIS hu hks hin
    go_wp2_with fail
    go_end0
    exact ⟨rfl, g1, g2, N, _, _, L, ⟨C3.out, C1.out, C2.out, HT.out.pw, HT.out.half, HT.out.good, HT.out.tru⟩, ⟨rfl, rfl, rfl, fun x hx => .inr hx⟩, S3.out⟩

def dblS (W : World) (mb G1 G2 N : Nat) : World := ((W.setCell ⟨mb, 0, none⟩ (.slice (some ⟨G1, 0, none⟩) N N)).setCell ⟨mb, 1, none⟩ (.slice (some ⟨G2, 0, none⟩) N N)).setCell ⟨mb, 2, none⟩ (.int .i64 0)
section
variable {OK : Nat → Prop} {W V : World} {mb g1 g2 N G1 G2 : Nat} {u0 u1 u2 : Value}
theorem dbl_size : (dblS W mb G1 G2 N).heap.size = W.heap.size := by simp [dblS]
theorem dbl_blk (h : Blk W mb 106 #[u0, u1, u2]) : Blk (dblS W mb G1 G2 N) mb 106 #[.slice (some ⟨G1, 0, none⟩) N N, .slice (some ⟨G2, 0, none⟩) N N, .int .i64 0] :=
  ((h.set 0 (.slice (some ⟨G1, 0, none⟩) N N)).set 1 (.slice (some ⟨G2, 0, none⟩) N N)).set 2 (.int .i64 0)
theorem dbl_tab (h : Blk W mb 106 #[u0, u1, u2]) (hp : ∃ e, 10 ≤ e ∧ e ≤ 37 ∧ N = 2 ^ e)
    (hw : V = (((dblS W mb W.heap.size (W.heap.size + 1) (2 * N)).alloc (.cells (arrU (2 * N) fun _ => 0) 70)).alloc (.cells (barr (2 * N) fun _ => false) 4)).drew ∧ G1 = W.heap.size ∧ G2 = W.heap.size + 1 ∨
      V = (((dblS W mb (W.heap.size + 1) W.heap.size (2 * N)).alloc (.cells (barr (2 * N) fun _ => false) 4)).alloc (.cells (arrU (2 * N) fun _ => 0) 70)).drew ∧ G1 = W.heap.size + 1 ∧ G2 = W.heap.size) :
    TabS OK V mb G1 G2 (2 * N) (fun _ => 0) (fun _ => false) [] ∧ Step W V mb g1 g2 G1 G2 := by
  have pw : ∃ e, 10 ≤ e ∧ e ≤ 38 ∧ 2 * N = 2 ^ e := by
    obtain ⟨e, h1, h2, rfl⟩ := hp
    exact ⟨e + 1, by omega, by omega, by rw [Nat.pow_succ]; omega⟩
  have st : ∀ G1 G2, Step W (dblS W mb G1 G2 (2 * N)) mb g1 g2 g1 g2 := fun G1 G2 => (((Step.refl W mb g1 g2).setCell (p := ⟨mb, 0, none⟩) (.inl rfl) _).setCell (p := ⟨mb, 1, none⟩) (.inl rfl) _).setCell (p := ⟨mb, 2, none⟩) (.inl rfl) _
  have nn : ∀ {X : World} (a b : Obj), Step W X mb g1 g2 g1 g2 → X.heap.size = W.heap.size → ∀ G1 G2, W.heap.size ≤ G1 → W.heap.size ≤ G2 → Step W ((X.alloc a).alloc b).drew mb g1 g2 G1 G2 := fun a b hs he G1 G2 k1 k2 => by
    have h1 := hs.then_below (((Below.refl _ _).alloc (Nat.le_refl _) a).alloc (by simp) b)
    exact ⟨h1.os, h1.tape, h1.output, h1.size, h1.block, .inr k1, .inr k2⟩
  rcases hw with ⟨rfl, rfl, rfl⟩ | ⟨rfl, rfl, rfl⟩
  · exact ⟨⟨(((dbl_blk h).alloc _).alloc _).drew, ((Blk.new_at _ 70 _ dbl_size.symm).alloc _).drew, (Blk.new_at _ 4 _ (by simp [dbl_size])).drew, pw, by simp, GoodK.fresh _ _, fun _ h => by simp at h⟩, nn _ _ (st _ _) dbl_size _ _ (by omega) (by omega)⟩
  · exact ⟨⟨(((dbl_blk h).alloc _).alloc _).drew, (Blk.new_at _ 70 _ (by simp [dbl_size])).drew, ((Blk.new_at _ 4 _ dbl_size.symm).alloc _).drew, pw, by simp, GoodK.fresh _ _, fun _ h => by simp at h⟩, nn _ _ (st _ _) dbl_size _ _ (by omega) (by omega)⟩
end
set_option maxRecDepth 100000 in
set_option maxHeartbeats 4000000 in
theorem putDblR (OK : Nat → Prop) (mb g1 g2 N : Nat) (ks : Nat → Nat) (us : Nat → Bool) (L : List Nat) (k : Nat) (hok : FS k ∧ OK k) (hl : N ≤ 2 * L.length) (w : World) (h : TabS OK w mb g1 g2 N ks us L) :
    Calls Tryd.prog 102 #[.pointer (some ⟨mb, 0, none⟩), .int .u64 (k : Nat)] w fun e w' => e = .returned (.tuple #[]) ∧ ∃ G1 G2 N' ks' us' L', TabS OK w' mb G1 G2 N' ks' us' L' ∧ True ∧ Step w w' mb g1 g2 G1 G2 := by
  have hN := h.nbd
  have c0 := h.bm.cell 0
  have c1 := h.bm.cell 1
  have c2 := h.bm.cell 2
  simp only [List.getElem?_toArray, List.getElem?_cons_zero, List.getElem?_cons_succ] at c0 c1 c2
  have g : decide ((N : Int) ≤ 2 * (L.length : Int)) = true := decide_eq_true (by omega)
  have hLn : (L.length : Int) ≤ 25600000000 := by have := h.few; omega
  have HHF := hid h.half
  have H := hid h
  have HOK := hid hok
  have m1 : ∀ W : World, (Instr.makeSlice 104 (.int .i64 (2 * (N : Int))) (.int .i64 (2 * (N : Int)))).run Tryd.prog W = .ok (.slice (some ⟨W.heap.size, 0, none⟩) (2 * N) (2 * N)) (W.alloc (.cells (arrU (2 * N) fun _ => 0) 70)) := fun W => by
    have := make104 (2 * N) (by omega) W
    rwa [Int.natCast_mul] at this
  have m2 : ∀ W : World, (Instr.makeSlice 77 (.int .i64 (2 * (N : Int))) (.int .i64 (2 * (N : Int)))).run Tryd.prog W = .ok (.slice (some ⟨W.heap.size, 0, none⟩) (2 * N) (2 * N)) (W.alloc (.cells (barr (2 * N) fun _ => false) 4)) := fun W => by
    have := make77U (2 * N) (by omega) W
    rwa [Int.natCast_mul] at this
  have PW := hid (show ∃ e, 10 ≤ e ∧ e ≤ 37 ∧ N = 2 ^ e by
    obtain ⟨e, h1, h2, h3⟩ := h.pw
    refine ⟨e, h1, ?_, h3⟩
    have hfew := h.few
    apply Classical.byContradiction
    intro hc
    have e38 : e = 38 := by omega
    have d : 2 ^ 38 = 274877906944 := by decide
    rw [e38, d] at h3
    omega)
  clear h hok
  go_enter Tryd.func102, Tryd.ntmps102
  go_wp2_with fail
  go_quiet (fail)
  generalize hW : w.drewN _ = W at *
  have HW := hid (show TabS OK W mb g1 g2 N ks us L by rw [← hW]; exact H.out.drewN _)
  have HS := hid (show Step w W mb g1 g2 g1 g2 by rw [← hW]; exact (Step.refl _ _ _ _).drewN _)
  clear hW c0 c1 c2
  have c0 := HW.out.bm.cell 0
  have c1 := HW.out.bm.cell 1
  have c2 := HW.out.bm.cell 2
  simp only [List.getElem?_toArray, List.getElem?_cons_zero, List.getElem?_cons_succ] at c0 c1 c2
  go_wp2_with fail
  refine at_world fun W1 hW1 => ?_
  have T1 := hid (show TabS OK W1 mb g1 g2 N ks us L by rw [hW1]; exact HW.out.keep ((Below.refl _ _).alloc (Nat.le_refl _) _))
  have S1 := hid (show Step w W1 mb g1 g2 g1 g2 by rw [hW1]; exact HS.out.then_below ((Below.refl _ _).alloc (Nat.le_refl _) _))
  have OB := hid (show Blk W1 W.heap.size 106 #[.slice (some ⟨g1, 0, none⟩) N N, .slice (some ⟨g2, 0, none⟩) N N, .int .i64 (L.length : Nat)] by rw [hW1]; exact Blk.new _ _ _)
  have hne : mb ≠ W.heap.size := by have := HW.out.bm.lt; omega
  have hlt : mb < W1.heap.size := T1.out.bm.lt
  have hlo : W.heap.size < W1.heap.size := OB.out.lt
  clear hW1 c0 c1 c2
  generalize W.heap.size = ob at *
  have c0 := T1.out.bm.cell 0
  have c1 := T1.out.bm.cell 1
  have c2 := T1.out.bm.cell 2
  have o0 := OB.out.cell 0
  have o1 := OB.out.cell 1
  simp only [List.getElem?_toArray, List.getElem?_cons_zero, List.getElem?_cons_succ] at c0 c1 c2 o0 o1
  have f0 := T1.out.bm.free 0
  have f1 := T1.out.bm.free 1
  have f2 := T1.out.bm.free 2
  go_cut [4] from 22 to 40 (fun p wx => p = .pointer (some ⟨ob, 0, none⟩) ∧ ∃ G1 G2, TabS OK wx mb G1 G2 (2 * N) (fun _ => 0) (fun _ => false) [] ∧ Step W1 wx mb g1 g2 G1 G2 ∧ W1.heap.size ≤ G1 ∧ W1.heap.size ≤ G2 ∧ Blk wx g1 70 (arrU N ks) ∧ Blk wx g2 4 (barr N us))
  case first =>
    go_region
    · go_wp2_with fail
      go_meet
      case rel => have hd := dbl_tab (OK := OK) (g1 := g1) (g2 := g2) T1.out.bm PW.out (.inl ⟨rfl, rfl, rfl⟩); exact ⟨rfl, _, _, hd.1, hd.2, by omega, by omega, ((((((T1.out.bk.far (p := ⟨mb, 0, none⟩) T1.out.m1.symm _).far (p := ⟨mb, 1, none⟩) T1.out.m1.symm _).far (p := ⟨mb, 2, none⟩) T1.out.m1.symm _).alloc _).alloc _).drew), ((((((T1.out.bu.far (p := ⟨mb, 0, none⟩) T1.out.m2.symm _).far (p := ⟨mb, 1, none⟩) T1.out.m2.symm _).far (p := ⟨mb, 2, none⟩) T1.out.m2.symm _).alloc _).alloc _).drew)⟩
    · go_wp2_with fail
      go_meet
      case rel => have hd := dbl_tab (OK := OK) (g1 := g1) (g2 := g2) T1.out.bm PW.out (.inr ⟨rfl, rfl, rfl⟩); exact ⟨rfl, _, _, hd.1, hd.2, by omega, by omega, ((((((T1.out.bk.far (p := ⟨mb, 0, none⟩) T1.out.m1.symm _).far (p := ⟨mb, 1, none⟩) T1.out.m1.symm _).far (p := ⟨mb, 2, none⟩) T1.out.m1.symm _).alloc _).alloc _).drew), ((((((T1.out.bu.far (p := ⟨mb, 0, none⟩) T1.out.m2.symm _).far (p := ⟨mb, 1, none⟩) T1.out.m2.symm _).far (p := ⟨mb, 2, none⟩) T1.out.m2.symm _).alloc _).alloc _).drew)⟩
  case rest =>
  obtain ⟨rfl, G1, G2, tg, sg, hG1, hG2, bg1, bg2⟩ := hcut
  have TG := hid tg
  have SG := hid sg
  have hg1 := T1.out.bk.lt
  have hg2 := T1.out.bu.lt
  have KEEP := hid (show ∀ W2, Step wc W2 mb G1 G2 G1 G2 → Blk W2 ob 106 #[.slice (some ⟨g1, 0, none⟩) N N, .slice (some ⟨g2, 0, none⟩) N N, .int .i64 (L.length : Nat)] ∧ Blk W2 g1 70 (arrU N ks) ∧ Blk W2 g2 4 (barr N us) by
    intro W2 st
    have hsz := sg.size
    have x1 := blk_neU OB.out T1.out.bk (by decide)
    have x2 := blk_neU OB.out T1.out.bu (by decide)
    have y1 := T1.out.m1
    have y2 := T1.out.m2
    have bo : Blk wc ob 106 #[.slice (some ⟨g1, 0, none⟩) N N, .slice (some ⟨g2, 0, none⟩) N N, .int .i64 (L.length : Nat)] := (sg.block ob hlo (fun e => hne e.symm) x1 x2).trans OB.out
    exact ⟨(st.block ob (by omega) (fun e => hne e.symm) (by omega) (by omega)).trans bo, (st.block g1 (by omega) y1.symm (by omega) (by omega)).trans bg1, (st.block g2 (by omega) y2.symm (by omega) (by omega)).trans bg2⟩)
  have F0 := KEEP.out wc (Step.refl _ _ _ _)
  have p1 := F0.1.cell 1
  simp only [List.getElem?_toArray, List.getElem?_cons_zero, List.getElem?_cons_succ] at p1
  have HMEM := hid fun x => T1.out.good.mem x
  have HTRU := hid T1.out.tru
  clear tg sg bg1 bg2 c0 c1 c2 o0 o1 f0 f1 f2 F0 m1 m2
  go_wp2_with fail
  go_loopg [44] N (fun gk i wr => ∃ j : Nat, gk + j = N ∧ i = .int .i64 j ∧ Hid (∃ ks' us' L', TabS OK wr mb G1 G2 (2 * N) ks' us' L' ∧ ∀ x, x ∈ L' → x ∈ L) ∧ Hid (Step wc wr mb G1 G2 G1 G2))
  case atStart => exact ⟨0, by omega, rfl, hid ⟨_, _, _, TG.out, fun x hx => by simp at hx⟩, hid (Step.refl _ _ _ _)⟩
  case round =>
    clear p1
    obtain ⟨j, hj, rfl, hex, HST⟩ := hrel
    obtain ⟨ks1, us1, L1, ht, hm⟩ := hex.out
    have HJ := hid hj; have HT := hid ht; have HM := hid hm
    have K := hid (KEEP.out wr HST.out)
    have hlen : L1.length ≤ L.length := sub_lenA _ _ ht.good.nodup hm
    have hhalf := HHF.out
    clear hj ht hm hex
    by_cases hlt : j < N
    · have HLT := hid hlt
      have q0 := K.out.1.cell 0
      simp only [List.getElem?_toArray, List.getElem?_cons_zero] at q0
      have q2 := K.out.2.1.cell j
      rw [arrU_get hlt] at q2
      have q3 := K.out.2.2.cell j
      rw [barr_get hlt] at q3
      cases hz : us j
      · rw [hz] at q3
        clear hz
        go_wp2_with fail
        go_roundg (gk - 1)
        case measure => have := HJ.out; have := HLT.out; omega
        case rel => exact ⟨j + 1, by have := HJ.out; have := HLT.out; omega, by go_num, hid ⟨ks1, us1, L1, HT.out, HM.out⟩, HST⟩
      · rw [hz] at q3
        have hin : ks j ∈ L := (HMEM.out _).2 ⟨j, hlt, hz, rfl⟩
        have HIN := hid hin
        have PL := hid (putLowR OK mb G1 G2 (2 * N) ks1 us1 L1 (ks j) (HTRU.out _ hin) (by omega) wr HT.out)
        clear hz hin
        go_wp2_with fail
        refine PL.out.mono ?_; rintro e w4 ⟨rfl, G1', G2', N', ks2, us2, L2, ht2, ⟨rfl, rfl, rfl, hm2⟩, st2⟩
        have HT2 := hid ht2
        have HM2 := hid hm2
        have ST2 := hid (HST.out.trans st2)
        clear ht2 st2 hm2 q0 q2 q3
        go_wp2_with fail
        go_roundg (gk - 1)
        case measure => have := HJ.out; have := HLT.out; omega
        case rel => exact ⟨j + 1, by have := HJ.out; have := HLT.out; omega, by go_num, hid ⟨ks2, us2, L2, HT2.out, fun x hx => by
          rcases HM2.out x hx with rfl | hx
          · exact HIN.out
          · exact HM.out x hx⟩, ST2⟩
    · obtain rfl : j = N := by have := HJ.out; omega
      have HS9 := hid ((S1.out.trans SG.out).trans HST.out)
      have HPL := hid (placeR OK mb G1 G2 (2 * j) ks1 us1 L1 k)
      have HLK := hid (And.intro True.intro (show 2 * L1.length < 2 * j by omega))
      clear HST HM K HJ hlt
      obtain ⟨NN, hNN⟩ : ∃ NN, NN = 2 * j := ⟨_, rfl⟩
      rw [← hNN] at HPL HLK HT
      have hNN1 : 1024 ≤ NN := by omega
      have HS := HS9
      obtain ⟨WT, hWT⟩ : ∃ WT, WT = wr := ⟨_, rfl⟩
      subst hWT
      clear hNN
      go_wp2_with fail
      refine (HPL.out WT HT.out).mono ?_; rintro e w1 ⟨⟨s, t, hse, hf, rfl⟩, rfl⟩

      have hs := slot_lt (show 0 < NN by omega) k t
      rw [← hse] at hs
      have M1 := HT.out.m1; have M2 := HT.out.m2; have K2 := HT.out.k2
      have HIN := hid (HT.out.good.insert (by omega) hf)
      have HIS := hid (HT.out.good.isin (by omega) hf)
      rw [← hse] at HIN HIS
      clear hse
      have u0 := HT.out.bu.cell s
      rw [barr_get hs] at u0
      have x1 := HT.out.bm.cell 1
      simp only [List.getElem?_toArray, List.getElem?_cons_zero, List.getElem?_cons_succ] at x1
      cases hu : us1 s
      · rw [hu] at u0
        have HG := hid (HIN.out hu)
        have D3 := hid (HT.out.bm.set 2 (.int .i64 ((L1.length : Int) + 1)))
        have D1 := hid (HT.out.bk.far (p := ⟨mb, 2, none⟩) M1.symm (.int .i64 ((L1.length : Int) + 1)))
        have D2 := hid (HT.out.bu.far (p := ⟨mb, 2, none⟩) M2.symm (.int .i64 ((L1.length : Int) + 1)))
        have S1 := hid (HS.out.setCell (p := ⟨mb, 2, none⟩) (.inl rfl) (.int .i64 ((L1.length : Int) + 1)))
        have B1 := hid (show Blk ((WT.setCell ⟨mb, 2, none⟩ (.int .i64 ((L1.length : Int) + 1))).setCell ⟨G1, s, none⟩ (.int .u64 (k : Nat))) G1 70 (arrU NN (updK ks1 s k)) by rw [← arrU_upd]; exact D1.out.set s _)
        have B2 := hid (D2.out.far (p := ⟨G1, s, none⟩) K2.symm (.int .u64 (k : Nat)))
        have B3 := hid (D3.out.far (p := ⟨G1, s, none⟩) M1 (.int .u64 (k : Nat)))
        have S2 := hid (S1.out.setCell (p := ⟨G1, s, none⟩) (.inr (.inl rfl)) (.int .u64 (k : Nat)))
        have C2 := hid (show Blk (((WT.setCell ⟨mb, 2, none⟩ (.int .i64 ((L1.length : Int) + 1))).setCell ⟨G1, s, none⟩ (.int .u64 (k : Nat))).setCell ⟨G2, s, none⟩ (.bool true)) G2 4 (barr NN (updK us1 s true)) by rw [← barr_updU]; exact B2.out.set s _)
        have C1 := hid (B1.out.far (p := ⟨G2, s, none⟩) K2 (.bool true))
        have C3 := hid (B3.out.far (p := ⟨G2, s, none⟩) M2 (.bool true))
        have S3 := hid (S2.out.setCell (p := ⟨G2, s, none⟩) (.inr (.inr rfl)) (.bool true))
        have x2 := HT.out.bm.cell 2
        have y0 := D3.out.cell 0
        have y1 := B3.out.cell 1
        have z1 := D1.out.cell s
        have z2 := B2.out.cell s
        rw [arrU_get hs] at z1
        rw [barr_get hs] at z2
        simp only [List.getElem?_toArray, List.getElem?_cons_zero, List.getElem?_cons_succ, List.setIfInBounds_toArray, List.set_cons_succ, List.set_cons_zero] at x2 y0 y1
        have f2 := HT.out.bm.free 2
        have f1 := D1.out.free s
        have f0 := B2.out.free s
        have HFW := hid HT.out.few
        have hLb : (L1.length : Int) ≤ 25600000000 := by have := HT.out.few; omega
        clear hf HIN HIS hu
        go_wp2_with fail
        go_end0
        have hbm : (#[Value.slice (some ⟨G1, 0, none⟩) NN NN, .slice (some ⟨G2, 0, none⟩) NN NN, .int .i64 (L1.length : Nat)] : Array Value).setIfInBounds 2 (.int .i64 ((L1.length : Int) + 1)) = #[Value.slice (some ⟨G1, 0, none⟩) NN NN, .slice (some ⟨G2, 0, none⟩) NN NN, .int .i64 ((k :: L1).length : Nat)] := by
          rw [List.length_cons, Int.natCast_add]; rfl
        refine ⟨rfl, G1, G2, NN, _, _, k :: L1, ⟨by rw [← hbm]; exact C3.out, C1.out, C2.out, HT.out.pw, ?_, HG.out, fun x hx => ?_⟩, trivial, S3.out⟩
        · obtain ⟨e, h1, _, h3⟩ := HT.out.pw
          have h4 : NN = 2 * 2 ^ (e - 1) := by rw [h3, ← Nat.pow_succ', show (e - 1).succ = e by omega]
          have h5 := HLK.out.2
          rw [List.length_cons]
          generalize 2 ^ (e - 1) = p at h4
          omega
        · rcases List.mem_cons.1 hx with rfl | hx
          · exact HOK.out
          · exact HT.out.tru x hx
      · rw [hu] at u0
        obtain ⟨hin, hks⟩ := HIS.out hu
        have B1 := hid (show Blk (WT.setCell ⟨G1, s, none⟩ (.int .u64 (k : Nat))) G1 70 (arrU NN ks1) by
          have h := HT.out.bk.set s (.int .u64 (k : Nat))
          rwa [arrU_upd, updK_same hks] at h)
        have B2 := hid (HT.out.bu.far (p := ⟨G1, s, none⟩) K2.symm (.int .u64 (k : Nat)))
        have B3 := hid (HT.out.bm.far (p := ⟨G1, s, none⟩) M1 (.int .u64 (k : Nat)))
        have S2 := hid (HS.out.setCell (p := ⟨G1, s, none⟩) (.inr (.inl rfl)) (.int .u64 (k : Nat)))
        have C2 := hid (show Blk ((WT.setCell ⟨G1, s, none⟩ (.int .u64 (k : Nat))).setCell ⟨G2, s, none⟩ (.bool true)) G2 4 (barr NN us1) by
          have h := B2.out.set s (.bool true)
          rwa [barr_updU, updK_same hu] at h)
        have C1 := hid (B1.out.far (p := ⟨G2, s, none⟩) K2 (.bool true))
        have C3 := hid (B3.out.far (p := ⟨G2, s, none⟩) M2 (.bool true))
        have S3 := hid (S2.out.setCell (p := ⟨G2, s, none⟩) (.inr (.inr rfl)) (.bool true))
        have y0 := HT.out.bm.cell 0
        have y1 := B3.out.cell 1
        have z1 := HT.out.bk.cell s
        have z2 := B2.out.cell s
        rw [arrU_get hs] at z1
        rw [barr_get hs] at z2
        simp only [List.getElem?_toArray, List.getElem?_cons_zero, List.getElem?_cons_succ] at y0 y1
        have f1 := HT.out.bk.free s
        have f0 := B2.out.free s
        clear hf HIN HIS hu hks hin
        go_wp2_with fail
        go_end0
        exact ⟨rfl, G1, G2, NN, _, _, L1, ⟨C3.out, C1.out, C2.out, HT.out.pw, HT.out.half, HT.out.good, HT.out.tru⟩, trivial, S3.out⟩

theorem putR (OK : Nat → Prop) (mb g1 g2 : Nat) (k : Nat) (hok : FS k ∧ OK k) (w : World) (h : TabF OK w mb g1 g2) :
    Calls Tryd.prog 102 #[.pointer (some ⟨mb, 0, none⟩), .int .u64 (k : Nat)] w fun e w' => e = .returned (.tuple #[]) ∧ ∃ G1 G2, TabF OK w' mb G1 G2 ∧ Step w w' mb g1 g2 G1 G2 := by
  obtain ⟨N, ks, us, L, h⟩ := h
  by_cases hl : 2 * L.length < N
  · refine (putLowR OK mb g1 g2 N ks us L k hok hl w h).mono ?_
    rintro e w' ⟨rfl, G1, G2, N', ks', us', L', ht, _, hs⟩
    exact ⟨rfl, G1, G2, ⟨_, _, _, _, ht⟩, hs⟩
  · refine (putDblR OK mb g1 g2 N ks us L k hok (by omega) w h).mono ?_
    rintro e w' ⟨rfl, G1, G2, N', ks', us', L', ht, _, hs⟩
    exact ⟨rfl, G1, G2, ⟨_, _, _, _, ht⟩, hs⟩
end Go.Proofs.YtjddbglbodkihaaDoor

/- Plain laws of what folds away, in any way; and the worlds between which only the table of families and one block changed. No condition. -/
namespace Go.Proofs.YtjddbglbodkihaaDoor
open Go.RowKit

/-- The family folds away. -/
def FA (F : Nat) : Prop := ∃ ps G, FRun F ps G ∧ Point G.testBit
theorem FRun.uncons {F0 : Nat} {l : List (Int × Int)} {G : Nat} (h : FRun F0 l G) : G = F0 ∧ l = [] ∨ ∃ s t r, FR F0 s t ∧ FRun (remF F0 s t) r G := by
  induction h with
  | nil => exact .inl ⟨rfl, rfl⟩
  | @snoc l F s t hl hr ih =>
    right
    rcases ih with ⟨rfl, _⟩ | ⟨s1, t1, r, h1, h2⟩
    · exact ⟨s, t, [], hr, .nil⟩
    · exact ⟨s1, t1, r ++ [((s : Int), (t : Int))], h1, .snoc h2 hr⟩
theorem FRun.cons {F s t : Nat} (hr : FR F s t) {l : List (Int × Int)} {G : Nat} (h : FRun (remF F s t) l G) : FRun F (((s : Int), (t : Int)) :: l) G := by
  induction h with
  | nil => exact .snoc (l := []) .nil hr
  | @snoc l F' s' t' hl hr' ih => exact .snoc (l := ((s : Int), (t : Int)) :: l) ih hr'
theorem FA.inv {F : Nat} (h : FA F) : Point F.testBit ∨ ∃ s t, FR F s t ∧ FA (remF F s t) := by
  obtain ⟨ps, G, hr, hp⟩ := h
  rcases hr.uncons with ⟨rfl, _⟩ | ⟨s, t, r, h1, h2⟩
  · exact .inl hp
  · exact .inr ⟨s, t, h1, r, G, h2, hp⟩
theorem FA.point {F : Nat} (h : Point F.testBit) : FA F := ⟨[], F, .nil, h⟩
theorem FA.step {F s t : Nat} (hr : FR F s t) (h : FA (remF F s t)) : FA F := by
  obtain ⟨ps, G, h1, h2⟩ := h
  exact ⟨_, G, FRun.cons hr h1, h2⟩
theorem FR.form {F s t : Nat} (hF : FS F) (h : FR F s t) : ∃ x, x < 6 ∧ ad s x = t := by
  obtain ⟨x, _, e⟩ := codim_all ⟨s, hF.small s h.inS⟩ ⟨t, hF.small t h.inT⟩ h.sub h.sz1
  exact ⟨x.val, x.isLt, e⟩
theorem rem_sub {F s t : Nat} (hF : FS F) : ∀ u, (remF F s t).testBit u = true → F.testBit u = true := fun u hu => by
  rw [remF_bit hF.lt] at hu
  exact less_sub u hu
theorem rem_lt {n F s t : Nat} (hF : FS F) (hl : F < 2 ^ (2 ^ n)) : remF F s t < 2 ^ (2 ^ n) := lt_of_bits fun u hu => bit_lt hl (rem_sub hF u hu)
theorem rem_less2 {F s t : Nat} (hF : FS F) (h : FR F s t) : remF F s t < F := by
  have hle : remF F s t ≤ F := by
    have e : remF F s t ||| F = F := bits_ext fun u => by
      rw [Nat.testBit_or]
      cases hf : (remF F s t).testBit u
      · rfl
      · rw [rem_sub hF u hf]; rfl
    have := Nat.left_le_or (n := remF F s t) (m := F)
    rw [e] at this
    exact this
  have hne : remF F s t ≠ F := fun e => by
    have h1 := h.inS
    rw [← e, remF_bit hF.lt] at h1
    simp [less] at h1
  omega
theorem barr_rem {N F s t : Nat} (hF : FS F) : barr N (updK (updK F.testBit s false) t false) = barr N (remF F s t).testBit := barr_congr fun u _ => by
  rw [remF_bit hF.lt]
  unfold updK less
  by_cases e1 : u = t
  · rw [if_pos e1, e1]; simp
  · rw [if_neg e1]
    by_cases e2 : u = s
    · rw [if_pos e2, e2]; simp
    · rw [if_neg e2]; simp [e1, e2]
theorem barr_back {N F s t : Nat} (hF : FS F) (h : FR F s t) : barr N (updK (updK (remF F s t).testBit s true) t true) = barr N F.testBit := barr_congr fun u _ => by
  unfold updK
  by_cases e1 : u = t
  · rw [if_pos e1, e1, h.inT]
  · rw [if_neg e1]
    by_cases e2 : u = s
    · rw [if_pos e2, e2, h.inS]
    · rw [if_neg e2, remF_bit hF.lt]
      unfold less
      simp [e1, e2]
/-- The table as one number. -/
theorem mkw_or {f : Nat → Bool} {d : Nat} (hd : f d = true) : orI (mkN d f) (d : Int) = mkN (d + 1) f := by
  unfold orI
  apply bits_ext
  intro u
  rw [Nat.testBit_or, mkN_bit, mkN_bit, Int.toNat_natCast, Nat.one_shiftLeft, Nat.testBit_two_pow]
  by_cases e : d = u
  · subst e; simp [hd]
  · by_cases h : u < d
    · have : u < d + 1 := by omega
      simp [h, this]
      intro k; exact absurd k e
    · have : ¬ u < d + 1 := by omega
      simp [h, this, e]
theorem mkw_no {f : Nat → Bool} {d : Nat} (hd : f d = false) : mkN (d + 1) f = mkN d f := by
  simp [mkN, hd]
theorem mkw_all {N F : Nat} (hF : F < 2 ^ N) : mkN N F.testBit = F := bits_ext fun u => by
  rw [mkN_bit]
  cases h : F.testBit u
  · simp
  · rw [decide_eq_true (bit_lt hF h)]; rfl
theorem least_of {P : Nat → Prop} : ∀ T, P T → ∃ t, P t ∧ ∀ s, s < t → ¬ P s := by
  intro T
  induction T using Nat.strongRecOn with
  | _ T ih =>
    intro hT
    by_cases h : ∃ s, s < T ∧ P s
    · obtain ⟨s, hs, hp⟩ := h
      exact ih s hs hp
    · exact ⟨T, hT, fun s hs hp => h ⟨s, hs, hp⟩⟩
theorem Found.ex {N : Nat} {ks : Nat → Nat} {us : Nat → Bool} {L : List Nat} (h : GoodK N ks us L) (hl : L.length < N) (k : Nat) : ∃ t, Found N ks us k t := by
  obtain ⟨T, _, hT⟩ := h.stop hl k
  obtain ⟨t, h1, h2⟩ := least_of (P := fun t => us (slot N k t) = false ∨ ks (slot N k t) = k) T (.inl hT)
  refine ⟨t, fun s hs => ?_, h1⟩
  have := h2 s hs
  constructor
  · cases e : us (slot N k s)
    · exact absurd (.inl e) this
    · rfl
  · exact fun e => this (.inr e)
theorem Found.one {N : Nat} {ks : Nat → Nat} {us : Nat → Bool} {k t t' : Nat} (h : Found N ks us k t) (h' : Found N ks us k t') : t = t' := by
  rcases Nat.lt_trichotomy t t' with e | e | e
  · have := h'.bef t e
    rcases h.at_ with k | k
    · rw [k] at this; cases this.1
    · exact absurd k this.2
  · exact e
  · have := h.bef t' e
    rcases h'.at_ with k | k
    · rw [k] at this; cases this.1
    · exact absurd k this.2
theorem placeD (OK : Nat → Prop) (mb g1 g2 N : Nat) (ks : Nat → Nat) (us : Nat → Bool) (L : List Nat) (k : Nat) (hg : GoodK N ks us L) (hl : 2 * L.length ≤ N) (hN : 0 < N) : ∃ s, s < N ∧ (us s = true → k ∈ L) ∧ (∀ w, TabS OK w mb g1 g2 N ks us L →
    Calls Tryd.prog 101 #[.pointer (some ⟨mb, 0, none⟩), .int .u64 (k : Nat)] w fun e w' => e = .returned (.int .i64 (s : Nat)) ∧ w = w') := by
  obtain ⟨t, ht⟩ := Found.ex hg (by omega) k
  refine ⟨slot N k t, slot_lt hN k t, fun hu => (hg.isin hN ht hu).1, fun w h => ?_⟩
  refine (placeR OK mb g1 g2 N ks us L k w h).mono ?_
  rintro e w' ⟨⟨s, t', hs, hf, he⟩, hw⟩
  have := ht.one hf
  subst this
  exact ⟨by rw [he, hs], hw⟩
/-- As Step, but one block more may have changed. -/
structure StepT (W w' : World) (tb mb g1 g2 g1' g2' : Nat) : Prop where
  os : w'.os = W.os
  tape : w'.tape = W.tape
  output : w'.output = W.output
  size : W.heap.size ≤ w'.heap.size
  block : ∀ i, i < W.heap.size → i ≠ tb → i ≠ mb → i ≠ g1 → i ≠ g2 → w'.heap[i]? = W.heap[i]?
  n1 : g1' = g1 ∨ W.heap.size ≤ g1'
  n2 : g2' = g2 ∨ W.heap.size ≤ g2'
section
variable {W w w' : World} {tb mb g1 g2 g1' g2' g1'' g2'' : Nat}
theorem Step.toT (h : Step W w mb g1 g2 g1' g2') : StepT W w tb mb g1 g2 g1' g2' := ⟨h.os, h.tape, h.output, h.size, fun i hi _ a b c => h.block i hi a b c, h.n1, h.n2⟩
theorem StepT.setCell (h : StepT W w tb mb g1 g2 g1' g2') (j : Nat) (u : Value) : StepT W (w.setCell ⟨tb, j, none⟩ u) tb mb g1 g2 g1' g2' :=
  ⟨h.os, h.tape, h.output, by simpa using h.size, fun i hi a b c d => (Below.heap_setCell w ⟨tb, j, none⟩ u i a).trans (h.block i hi a b c d), h.n1, h.n2⟩
theorem StepT.trans (h : StepT W w tb mb g1 g2 g1' g2') (k : Step w w' mb g1' g2' g1'' g2'') : StepT W w' tb mb g1 g2 g1'' g2'' :=
  ⟨k.os.trans h.os, k.tape.trans h.tape, k.output.trans h.output, Nat.le_trans h.size k.size,
    fun i hi a b c d => (k.block i (by have := h.size; omega) b (by rcases h.n1 with e | e <;> omega) (by rcases h.n2 with e | e <;> omega)).trans (h.block i hi a b c d),
    by rcases k.n1 with e | e
       · rw [e]; exact h.n1
       · exact .inr (Nat.le_trans h.size e),
    by rcases k.n2 with e | e
       · rw [e]; exact h.n2
       · exact .inr (Nat.le_trans h.size e)⟩
theorem StepT.back {t : TypeId} {cs : Array Value} (h : StepT W w tb mb g1 g2 g1' g2') (a : Blk W tb t cs) (b : Blk w tb t cs) : Step W w mb g1 g2 g1' g2' :=
  ⟨h.os, h.tape, h.output, h.size, fun i hi x y z => by
    by_cases e : i = tb
    · subst e
      unfold Blk at a b
      rw [a, b]
    · exact h.block i hi e x y z, h.n1, h.n2⟩
theorem Step.blk {t : TypeId} {cs : Array Value} (h : Step W w mb g1 g2 g1' g2') (a : Blk W tb t cs) (x : tb ≠ mb) (y : tb ≠ g1) (z : tb ≠ g2) : Blk w tb t cs ∧ tb ≠ g1' ∧ tb ≠ g2' :=
  ⟨(h.block tb a.lt x y z).trans a, by have := a.lt; rcases h.n1 with e | e <;> omega, by have := a.lt; rcases h.n2 with e | e <;> omega⟩
end
theorem TabF.far {OK : Nat → Prop} {w : World} {mb g1 g2 : Nat} (h : TabF OK w mb g1 g2) {p : Addr} (x : p.block ≠ mb) (y : p.block ≠ g1) (z : p.block ≠ g2) (u : Value) : TabF OK (w.setCell p u) mb g1 g2 := by
  obtain ⟨N, ks, us, L, h⟩ := h
  exact ⟨N, ks, us, L, h.bm.far x.symm u, h.bk.far y.symm u, h.bu.far z.symm u, h.pw, h.half, h.good, h.tru⟩
theorem TabF.drewN {OK : Nat → Prop} {w : World} {mb g1 g2 : Nat} (h : TabF OK w mb g1 g2) (k : Nat) : TabF OK (w.drewN k) mb g1 g2 := by
  obtain ⟨N, ks, us, L, h⟩ := h
  exact ⟨N, ks, us, L, h.drewN k⟩
end Go.Proofs.YtjddbglbodkihaaDoor
