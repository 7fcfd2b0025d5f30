/- Texts of this proof, one behind the other; each says its condition at its head. -/
import Derived.Test.YtnibidmlkbcfkaaGreatDoorT1
import Derived.LaidEqlPtr
import Derived.BigRegion
namespace Go.Proofs.YtnibidmlkbcfkaaGreatDoor
/- The reference's copies in memory, and the walks of their methods. Conditions: a copy that NewCopy made. -/
section
open Go.RowKit Go.Maps
/-- A new copy of the reference. -/
def NewR (w : World) (b : Nat) : Prop := Blk w b 172 (Tryz.zeroCells172.setIfInBounds 0 (.bool true))
theorem TC : TS Tryz.prog 24 67 1 8 (.pointer none) := ⟨Tryz.underlying24, by kernel_rfl, rfl, by decide⟩
theorem own_kind2 {w : World} {B : Nat} {e : TypeId} {size : Nat} {v : Value} {n : Nat} {xs : List Value} (h : w.ownsRow B e size v n xs) : ∀ g, v.ownBlock = some g → ∃ c, w.heap[g]? = some (.cells c e (0, 0)) := by
 intro g hg
 rcases h.2 with ⟨rfl, _⟩ | ⟨g', cap, cur, rfl, _, hgg, _⟩
 · simp [Value.ownBlock] at hg
 · simp [Value.ownBlock] at hg
   subst hg
   exact ⟨cur, hgg⟩
theorem own_ne_blk {w : World} {B b : Nat} {e t : TypeId} {size n : Nat} {v : Value} {xs : List Value} {cs : Array Value} (h : w.ownsRow B e size v n xs) (k : Blk w b t cs) (hne : t ≠ e) : some b ≠ v.ownBlock := by
 intro hb
 obtain ⟨c, hc⟩ := own_kind2 h b hb.symm
 unfold Blk at k
 rw [k] at hc
 injection hc with hc
 injection hc with _ hc _
 exact hne hc
theorem own_ne_map {w : World} {B b : Nat} {e : TypeId} {size n : Nat} {v : Value} {xs : List Value} {P : Program} {kt : TypeId} {f : Value → Option Value} (h : w.ownsRow B e size v n xs) (k : MapX P kt w b f) : some b ≠ v.ownBlock := by
 intro hb
 obtain ⟨c, hc⟩ := own_kind2 h b hb.symm
 obtain ⟨es, cl, h1, _⟩ := k
 rw [h1] at hc
 cases hc
theorem own_apart2 {w : World} {B B' : Nat} {e e' : TypeId} {size size' : Nat} {v v' : Value} {n n' : Nat} {xs xs' : List Value} (h : w.ownsRow B e size v n xs) (h' : w.ownsRow B' e' size' v' n' xs') (hne : e ≠ e') : v.ownBlock = none ∨ v.ownBlock ≠ v'.ownBlock := by
 cases hv : v.ownBlock with
 | none => exact .inl rfl
 | some g =>
  right
  intro hc
  obtain ⟨c, h1⟩ := own_kind2 h g hv
  obtain ⟨c', h2⟩ := own_kind2 h' g hc.symm
  rw [h1] at h2
  injection h2 with h2
  injection h2 with _ h2 _
  exact hne h2
theorem push1P {P : Program} {ops : Array Oper} {rest : List Oper} {o : Oper} {a : Act} {Q : Exit → Act → World → Prop} {t e : TypeId} {size bytes : Nat} {z : Value}
 (T : TS P t e size bytes z) (w : World) (cs : Array Value) (base n : Nat) (v : Value) (xs : List Value) (hown : w.ownsRow base e size v n xs)
 (s x : Operand) (K : Nat) (hK : w.heap.size = K) (hgd : o.guard = none) (ho : o.op = .call { callee := .builtin .append, args := #[s, x], argTypes := #[t, t] })
 (hs : a.eval s = v) (hx : a.eval x = .slice (some ⟨K, 0, none⟩) 1 1) (hcs : cs.size = size) (h1 : ∀ u ∈ cs.toList, u.oneCell' = true)
 (hn : (n + 1) * bytes ≤ 140737488355328) (hn2 : n < 1000000000000) (hb : base ≤ w.heap.size)
 (h : ∀ v' w', w'.ownsRow base e size v' (n + 1) (xs ++ cs.toList) → (w.alloc (.cells cs e)).grownBy w' v.ownBlock → wpList P ops Q rest (a.put o.dst v') w') :
 wpList P ops Q (o :: rest) a (w.alloc (.cells cs e)) := by
 subst hK
 exact push1 T w cs base n v xs hown s x hgd ho hs hx hcs h1 hn hn2 hb h
/-- Pointers to blocks. -/
def ptrs (l : List Nat) : List Value := l.map fun b => .pointer (some ⟨b, 0, none⟩)
/-- New copies: their blocks and maps. -/
structure NewC (w : World) (B : Nat) (L : List (Nat × Nat)) : Prop where
 cpm : ∀ p ∈ L, CpM w p.1 p.2 0 false (fun _ => none) ∧ B ≤ p.1 ∧ B ≤ p.2
 nod1 : (L.map (·.1)).Nodup
 nod2 : (L.map (·.2)).Nodup
theorem NewC.nil (w : World) (B : Nat) : NewC w B [] := ⟨fun _ h => by simp at h, List.nodup_nil, List.nodup_nil⟩
theorem NewC.keep {w w' : World} {B : Nat} {L : List (Nat × Nat)} (h : NewC w B L) (hb : Below w.heap.size w w') : NewC w' B L :=
 ⟨fun p hp => ⟨(h.cpm p hp).1.keep hb, (h.cpm p hp).2⟩, h.nod1, h.nod2⟩
theorem NewC.snoc {w : World} {B cb mb : Nat} {L : List (Nat × Nat)} (h : NewC w B L) (k : CpM w cb mb 0 false (fun _ => none)) {K : Nat} (hB : B ≤ K) (h1 : K ≤ cb) (h2 : K ≤ mb) (hl : ∀ p ∈ L, p.1 < K ∧ p.2 < K) : NewC w B (L ++ [(cb, mb)]) := by
 refine ⟨fun p hp => ?_, ?_, ?_⟩
 · rcases List.mem_append.1 hp with hp | hp
   · exact h.cpm p hp
   · simp at hp
     subst hp
     exact ⟨k, by omega, by omega⟩
 · rw [List.map_append, List.nodup_append]
   refine ⟨h.nod1, by simp, fun a ha b hb => ?_⟩
   obtain ⟨p, hp, rfl⟩ := List.mem_map.1 ha
   simp at hb
   have := (hl p hp).1
   omega
 · rw [List.map_append, List.nodup_append]
   refine ⟨h.nod2, by simp, fun a ha b hb => ?_⟩
   obtain ⟨p, hp, rfl⟩ := List.mem_map.1 ha
   simp at hb
   have := (hl p hp).2
   omega
theorem NewC.grown {w w' : World} {B B' n size : Nat} {L : List (Nat × Nat)} {e : TypeId} {v : Value} {xs : List Value} (h : NewC w B L) (ho : w.ownsRow B' e size v n xs) (hg : w.grownBy w' v.ownBlock) (hne : 114 ≠ e) : NewC w' B L :=
 ⟨fun p hp => by
  obtain ⟨k, a, b⟩ := h.cpm p hp
  exact ⟨⟨k.blk.grown hg (own_ne_blk ho k.blk hne), k.map.grown hg (own_ne_map ho k.map)⟩, a, b⟩, h.nod1, h.nod2⟩
end
/- Walk of the law's copies: three or five new ones, and as many of the reference. No condition. -/
section
open Go.RowKit Go.Maps
/-- Slices of N new copies, and of N of the reference, all of them from block B on. -/
def CopAre (w : World) (B N : Nat) (a r : Value) : Prop := ∃ (L : List (Nat × Nat)) (M : List Nat),
 w.ownsRow B 67 1 a N (ptrs (L.map (·.1))) ∧ w.ownsRow B 136 1 r N (ptrs M) ∧ NewC w B L ∧ (∀ b ∈ M, NewR w b ∧ B ≤ b) ∧ M.Nodup
theorem ptrs_snoc (l : List Nat) (b : Nat) : ptrs (l ++ [b]) = ptrs l ++ [.pointer (some ⟨b, 0, none⟩)] := by simp [ptrs]
theorem CopAre.form {w : World} {B N : Nat} {a r : Value} (h : CopAre w B N a r) : ∃ A c R d, a = .slice A N c ∧ r = .slice R N d := by
 obtain ⟨L, M, h1, h2, _⟩ := h
 obtain ⟨A, c, e1⟩ := own_form h1
 obtain ⟨R, d, e2⟩ := own_form h2
 exact ⟨A, c, R, d, e1, e2⟩
end
/- Walks of slices.ContainsFunc with the copies' none, and of slices.Contains on copies. Condition: the slice reads as pointers. -/
section
open Go.RowKit Go.Maps
/-- What none says of each of some values. -/
def NoneS (w : World) (vs : List Value) (f : Nat → Bool) : Prop := ∀ (i : Nat) v, vs[i]? = some v → Calls Tryz.prog 60 #[v] w fun e w' => e = .returned (.bool (f i)) ∧ w = w'
set_option maxRecDepth 100000 in
set_option maxHeartbeats 1000000 in
theorem noneIdx (A : Option Addr) (n c : Nat) (vs : List Value) (f : Nat → Bool) (lb : Array Value) (w : World) (hlb : lb = #[]) (hs : Sl w A n c vs) (hf : NoneS w vs f) :
 Calls Tryz.prog 86 #[.slice A n c, .func (.func 60) #[] lb] w fun e w' => (∃ r : Int, e = .returned (.int .i64 r) ∧ (0 ≤ r ↔ ∃ i, i < n ∧ f i = true)) ∧ w = w' := by
 subst hlb
 have hm : n ≤ 9223372036854775807 := by have := hs.cap; have := hs.capm; unfold maxLen at this; omega
 have he : ∀ args W, (callFunc 60 args).run Tryz.prog W = .ok (.enter 60 args) W := fun args W => enters Tryz.func60 (by kernel_rfl) rfl args W
 have HF := hid hf
 have HS := hid hs
 clear hs hf
 go_enter Tryz.func86, Tryz.ntmps86
 go_wp2
 go_loopg [8] n (fun gk i wr => ∃ k : Nat, gk + k = n ∧ i = .int .i64 k ∧ Hid (∀ j, j < k → f j = false) ∧ w = wr)
 case atStart => exact ⟨0, by omega, rfl, hid fun j h => absurd h (by omega), rfl⟩
 case round =>
  obtain ⟨k, hk, rfl, HN, hw⟩ := hrel
  subst hw
  have HK := hid hk
  by_cases hlt : k < n
  · have HLT := hid hlt
    obtain ⟨b, o, u, rfl, lb1, e1, ca⟩ := HS.out.at hlt
    have hc := HF.out k u e1
    have HC := hid hc
    clear e1 hc hk lb1
    cases hfx : f k
    · rw [hfx] at HC
      have HX := hid hfx
      clear hfx
      go_wp2_with (refine (HC.out).mono ?_; rintro e w1 ⟨rfl, rfl⟩)
      go_roundg (gk - 1)
      case measure => have := HK.out; have := HLT.out; omega
      case rel =>
       refine ⟨k + 1, by have := HK.out; have := HLT.out; omega, by go_num, hid fun j hj => ?_, rfl⟩
       by_cases e : j = k
       · subst e; exact HX.out
       · exact HN.out j (by omega)
    · rw [hfx] at HC
      have HX := hid hfx
      clear hfx
      go_wp2_with (refine (HC.out).mono ?_; rintro e w1 ⟨rfl, rfl⟩)
      go_ret
      exact ⟨⟨(k : Int), rfl, ⟨fun _ => ⟨k, HLT.out, HX.out⟩, fun _ => by omega⟩⟩, rfl⟩
  · obtain rfl : k = n := by have := HK.out; omega
    clear hk
    go_wp2
    go_ret
    exact ⟨⟨-1, rfl, ⟨fun h => absurd h (by decide), fun ⟨i, hi, hfi⟩ => by rw [HN.out i hi] at hfi; cases hfi⟩⟩, rfl⟩
set_option maxRecDepth 100000 in
theorem noneAny (A : Option Addr) (n c : Nat) (vs : List Value) (f : Nat → Bool) (b : Bool) (w : World) (hs : Sl w A n c vs) (hf : NoneS w vs f) (hb : b = true ↔ ∃ i, i < n ∧ f i = true) :
 Calls Tryz.prog 59 #[.slice A n c, .func (.func 60) #[] #[]] w fun e w' => e = .returned (.bool b) ∧ w = w' := by
 have HI := hid (noneIdx A n c vs f #[] w rfl hs hf)
 have HB := hid hb
 clear hs hf hb
 go_enter Tryz.func59, Tryz.ntmps59
 go_wp2_with fail
 refine (HI.out).mono ?_; rintro e w1 ⟨⟨r, rfl, hr⟩, rfl⟩
 have hd : decide (0 ≤ r) = b := by rw [Bool.eq_iff_iff, decide_eq_true_iff, HB.out]; exact hr
 clear hr
 go_wp2
 go_ret
 exact ⟨rfl, rfl⟩
/-- A block of cells lies there. -/
def IsBlk (w : World) (b : Nat) : Prop := ∃ t cs, Blk w b t cs
theorem ptrEq {w : World} {b y : Nat} (hb : IsBlk w b) (hy : IsBlk w y) : (binOp .eql 67 (.pointer (some ⟨b, 0, none⟩)) (.pointer (some ⟨y, 0, none⟩))).run Tryz.prog w = .ok (.bool (decide (b = y))) w := by
 obtain ⟨j, hj, hs⟩ : ∃ j, Tryz.prog.info? 114 = some j ∧ j.size = 3 := by
  have h : (Tryz.prog.info? 114).map (·.size) = some 3 := by kernel_rfl
  obtain ⟨j, h1, h2⟩ := Option.map_eq_some_iff.1 h
  exact ⟨j, h1, h2⟩
 by_cases e : b = y
 · subst e
   rw [decide_eq_true rfl]
   exact run_eql_ptr_same w _ Tryz.underlying67 hj
 · rw [decide_eq_false e]
   obtain ⟨t1, c1, h1⟩ := hb
   obtain ⟨t2, c2, h2⟩ := hy
   exact run_eql_ptr_other w Tryz.underlying67 hj (by omega) (fun k => e (by injection k)) h1 h2
set_option maxRecDepth 100000 in
set_option maxHeartbeats 1000000 in
theorem ptrIdx (A : Option Addr) (n c : Nat) (l : List Nat) (b : Nat) (w : World) (hs : Sl w A n c (ptrs l)) (hb : IsBlk w b) (hl : ∀ y ∈ l, IsBlk w y) :
 Calls Tryz.prog 87 #[.slice A n c, .pointer (some ⟨b, 0, none⟩)] w fun e w' => (∃ r : Int, e = .returned (.int .i64 r) ∧ (0 ≤ r ↔ b ∈ l)) ∧ w = w' := by
 have hm : n ≤ 9223372036854775807 := by have := hs.cap; have := hs.capm; unfold maxLen at this; omega
 have HS := hid hs
 have HL := hid (show l.length = n by have := hs.len; simpa [ptrs] using this)
 have HE := hid fun y hy => ptrEq hb (hl y hy)
 clear hs hb hl
 go_enter Tryz.func87, Tryz.ntmps87
 go_wp2
 go_loopg [8] n (fun gk i wr => ∃ k : Nat, gk + k = n ∧ i = .int .i64 k ∧ Hid (∀ j, j < k → l[j]? ≠ some b) ∧ w = wr)
 case atStart => exact ⟨0, by omega, rfl, hid fun j h => absurd h (by omega), rfl⟩
 case round =>
  obtain ⟨k, hk, rfl, HN, hw⟩ := hrel
  subst hw
  have HK := hid hk
  by_cases hlt : k < n
  · have HLT := hid hlt
    obtain ⟨b1, o, u, rfl, lb1, e1, ca⟩ := HS.out.at hlt
    obtain ⟨y, hy, rfl⟩ := Option.map_eq_some_iff.1 (show (l[k]?).map (fun b => Value.pointer (some ⟨b, 0, none⟩)) = some u by rw [← List.getElem?_map]; exact e1)
    have HY := hid hy
    have hqe := HE.out y (List.mem_of_getElem? hy)
    clear e1 hy hk lb1
    by_cases hq : b = y
    · subst hq
      rw [decide_eq_true rfl] at hqe
      go_wp2
      go_ret
      exact ⟨⟨(k : Int), rfl, ⟨fun _ => List.mem_of_getElem? HY.out, fun _ => by omega⟩⟩, rfl⟩
    · have hq2 : ¬ y = b := fun e => hq e.symm
      have HQ := hid hq
      rw [decide_eq_false hq] at hqe
      go_wp2
      go_roundg (gk - 1)
      case measure => have := HK.out; have := HLT.out; omega
      case rel =>
       refine ⟨k + 1, by have := HK.out; have := HLT.out; omega, by go_num, hid fun j hj => ?_, rfl⟩
       by_cases e : j = k
       · subst e
         rw [HY.out]
         exact fun e => HQ.out (Option.some.inj e).symm
       · exact HN.out j (by omega)
  · obtain rfl : k = n := by have := HK.out; omega
    clear hk
    go_wp2
    go_ret
    exact ⟨⟨-1, rfl, ⟨fun h => absurd h (by decide), fun hm => by
     obtain ⟨i, hi⟩ := List.getElem?_of_mem hm
     have := (List.getElem?_eq_some_iff.1 hi).1
     exact absurd hi (HN.out i (by have := HL.out; omega))⟩⟩, rfl⟩
set_option maxRecDepth 100000 in
theorem ptrHas (A : Option Addr) (n c : Nat) (l : List Nat) (b : Nat) (w : World) (hs : Sl w A n c (ptrs l)) (hb : IsBlk w b) (hl : ∀ y ∈ l, IsBlk w y) :
 Calls Tryz.prog 61 #[.slice A n c, .pointer (some ⟨b, 0, none⟩)] w fun e w' => e = .returned (.bool (decide (b ∈ l))) ∧ w = w' := by
 have HI := hid (ptrIdx A n c l b w hs hb hl)
 clear hs hb hl
 go_enter Tryz.func61, Tryz.ntmps61
 go_wp2_with fail
 refine (HI.out).mono ?_; rintro e w1 ⟨⟨r, rfl, hr⟩, rfl⟩
 have hd : decide (0 ≤ r) = decide (b ∈ l) := by rw [Bool.eq_iff_iff, decide_eq_true_iff, decide_eq_true_iff]; exact hr
 clear hr
 go_wp2
 go_ret
 exact ⟨rfl, rfl⟩
end
/- Walks of slices.Clone at copies, strings and numbers; of the copies that are in reach; of most; of begin. Condition: slices read as lists. -/
section
open Go.RowKit Go.Maps
theorem Sl.cells {w : World} {ad : Addr} {n c : Nat} {xs : List Value} (h : Sl w (some ad) n c xs) : ∀ j u, xs[j]? = some u → w.cell? (ad.add j) = some u := by
 intro j u hu
 have hj := (List.getElem?_eq_some_iff.1 hu).1
 obtain ⟨b, o, e, hb, hc⟩ := h.pos (by have := h.len; omega)
 obtain rfl := Option.some.inj e
 have hadd : (⟨b, o, none⟩ : Addr).add j = ⟨b, o + j, none⟩ := by unfold Addr.add; split <;> simp_all
 rw [hadd]
 exact hc j u hu
theorem Sl.none_zero {w : World} {n c : Nat} {xs : List Value} (h : Sl w none n c xs) : n = 0 ∧ xs = [] := by
 have h0 : n = 0 := by
  rcases Nat.eq_zero_or_pos n with h0 | h0
  · exact h0
  · obtain ⟨_, _, e, _⟩ := h.pos h0
    cases e
 exact ⟨h0, List.eq_nil_of_length_eq_zero (by have := h.len; omega)⟩
theorem TS22 : TS Tryz.prog 22 9 1 16 (.string ByteArray.empty) := ⟨Tryz.underlying22, by kernel_rfl, rfl, by decide⟩
theorem TI27 : TS Tryz.prog 36 3 1 8 (.int .i64 0) := ⟨Tryz.underlying36, by kernel_rfl, rfl, by decide⟩
set_option maxRecDepth 100000 in
set_option maxHeartbeats 400000 in
theorem cloneC (A : Option Addr) (n c : Nat) (xs : List Value) (hone : ∀ u ∈ xs, u.oneCell' = true) (hn : n ≤ 1000000) (w : World) (hs : Sl w A n c xs) :
 Calls Tryz.prog 32 #[.slice A n c] w fun e w' => ∃ A' c', e = .returned (.slice A' n c') ∧ w'.ownsRow w.heap.size 67 1 (.slice A' n c') n xs ∧ Below w.heap.size w w' := by
 have qT : ∀ (w : World) (a : Option Addr) (n c n' c' : Nat), (binOp .eql 24 (.slice a n c) (.slice none n' c')).run Tryz.prog w = .ok (.bool a.isNone) w := fun w a n c n' c' => Lib.run_eql_slice_nil w _ _ a n c n' c' Tryz.underlying24
 obtain ⟨i0, hi, hz0, hz1, hz2⟩ := info_parts TC.inf
 cases A with
 | none =>
  obtain ⟨rfl, hx⟩ := hs.none_zero
  have HX := hid hx
  clear hx
  go_enter Tryz.func32, Tryz.ntmps32
  go_wp2
  go_ret
  exact ⟨none, 0, rfl, by rw [HX.out]; exact World.ownsRow_nil _ _ _ _, Below.refl _ _⟩
 | some ad =>
  have hl := hid (show xs.length = n from hs.len)
  have hcell := hid hs.cells
  clear hs
  go_enter Tryz.func32, Tryz.ntmps32
  go_wp2_with (at_builtin; refine wpList_append_own _ rfl _ _ 24 rfl w.heap.size 67 i0 (.pointer none) 1 8 TC.und hi hz0 hz1 hz2 rfl (by decide) _ 0 [] rfl (World.ownsRow_made w #[] 0 (Nat.le_refl _) (by unfold maxLen; omega) rfl) ad n c xs rfl ?c1 ?c2 hone ?c3 ?c4 ?c5 ?c6)
  case c1 => rw [hl.out]; omega
  case c2 => exact fun j u hu => cell_keep ((Below.refl _ _).alloc (Nat.le_refl _) _) (hcell.out j u hu)
  case c3 => unfold maxLen; omega
  case c4 => omega
  case c5 => simp
  case c6 =>
   intro v' w1 hown hg _
   obtain ⟨A', c', rfl⟩ := own_form hown
   have hb : Below w.heap.size w w1 := ((Below.refl _ _).alloc (Nat.le_refl _) _).grown hg (by simp) (fun k hk => by simp [Value.ownBlock] at hk; omega)
   clear hg
   go_wp2
   go_ret
   exact ⟨A', c', rfl, hown, hb⟩
set_option maxRecDepth 100000 in
set_option maxHeartbeats 400000 in
theorem cloneS (A : Option Addr) (n c : Nat) (xs : List Value) (hone : ∀ u ∈ xs, u.oneCell' = true) (hn : n ≤ 1000000) (w : World) (hs : Sl w A n c xs) :
 Calls Tryz.prog 34 #[.slice A n c] w fun e w' => ∃ A' c', e = .returned (.slice A' n c') ∧ w'.ownsRow w.heap.size 9 1 (.slice A' n c') n xs ∧ Below w.heap.size w w' := by
 have qT : ∀ (w : World) (a : Option Addr) (n c n' c' : Nat), (binOp .eql 22 (.slice a n c) (.slice none n' c')).run Tryz.prog w = .ok (.bool a.isNone) w := fun w a n c n' c' => Lib.run_eql_slice_nil w _ _ a n c n' c' Tryz.underlying22
 obtain ⟨i0, hi, hz0, hz1, hz2⟩ := info_parts TS22.inf
 cases A with
 | none =>
  obtain ⟨rfl, hx⟩ := hs.none_zero
  have HX := hid hx
  clear hx
  go_enter Tryz.func34, Tryz.ntmps34
  go_wp2
  go_ret
  exact ⟨none, 0, rfl, by rw [HX.out]; exact World.ownsRow_nil _ _ _ _, Below.refl _ _⟩
 | some ad =>
  have hl := hid (show xs.length = n from hs.len)
  have hcell := hid hs.cells
  clear hs
  go_enter Tryz.func34, Tryz.ntmps34
  go_wp2_with (at_builtin; refine wpList_append_own _ rfl _ _ 22 rfl w.heap.size 9 i0 (.string ByteArray.empty) 1 16 TS22.und hi hz0 hz1 hz2 rfl (by decide) _ 0 [] rfl (World.ownsRow_made w #[] 0 (Nat.le_refl _) (by unfold maxLen; omega) rfl) ad n c xs rfl ?c1 ?c2 hone ?c3 ?c4 ?c5 ?c6)
  case c1 => rw [hl.out]; omega
  case c2 => exact fun j u hu => cell_keep ((Below.refl _ _).alloc (Nat.le_refl _) _) (hcell.out j u hu)
  case c3 => unfold maxLen; omega
  case c4 => omega
  case c5 => simp
  case c6 =>
   intro v' w1 hown hg _
   obtain ⟨A', c', rfl⟩ := own_form hown
   have hb : Below w.heap.size w w1 := ((Below.refl _ _).alloc (Nat.le_refl _) _).grown hg (by simp) (fun k hk => by simp [Value.ownBlock] at hk; omega)
   clear hg
   go_wp2
   go_ret
   exact ⟨A', c', rfl, hown, hb⟩
set_option maxRecDepth 100000 in
set_option maxHeartbeats 400000 in
theorem cloneI (A : Option Addr) (n c : Nat) (xs : List Value) (hone : ∀ u ∈ xs, u.oneCell' = true) (hn : n ≤ 1000000) (w : World) (hs : Sl w A n c xs) :
 Calls Tryz.prog 15 #[.slice A n c] w fun e w' => ∃ A' c', e = .returned (.slice A' n c') ∧ w'.ownsRow w.heap.size 3 1 (.slice A' n c') n xs ∧ Below w.heap.size w w' := by
 have qT : ∀ (w : World) (a : Option Addr) (n c n' c' : Nat), (binOp .eql 36 (.slice a n c) (.slice none n' c')).run Tryz.prog w = .ok (.bool a.isNone) w := fun w a n c n' c' => Lib.run_eql_slice_nil w _ _ a n c n' c' Tryz.underlying36
 obtain ⟨i0, hi, hz0, hz1, hz2⟩ := info_parts TI27.inf
 cases A with
 | none =>
  obtain ⟨rfl, hx⟩ := hs.none_zero
  have HX := hid hx
  clear hx
  go_enter Tryz.func15, Tryz.ntmps15
  go_wp2
  go_ret
  exact ⟨none, 0, rfl, by rw [HX.out]; exact World.ownsRow_nil _ _ _ _, Below.refl _ _⟩
 | some ad =>
  have hl := hid (show xs.length = n from hs.len)
  have hcell := hid hs.cells
  clear hs
  go_enter Tryz.func15, Tryz.ntmps15
  go_wp2_with (at_builtin; refine wpList_append_own _ rfl _ _ 36 rfl w.heap.size 3 i0 (.int .i64 0) 1 8 TI27.und hi hz0 hz1 hz2 rfl (by decide) _ 0 [] rfl (World.ownsRow_made w #[] 0 (Nat.le_refl _) (by unfold maxLen; omega) rfl) ad n c xs rfl ?c1 ?c2 hone ?c3 ?c4 ?c5 ?c6)
  case c1 => rw [hl.out]; omega
  case c2 => exact fun j u hu => cell_keep ((Below.refl _ _).alloc (Nat.le_refl _) _) (hcell.out j u hu)
  case c3 => unfold maxLen; omega
  case c4 => omega
  case c5 => simp
  case c6 =>
   intro v' w1 hown hg _
   obtain ⟨A', c', rfl⟩ := own_form hown
   have hb : Below w.heap.size w w1 := ((Below.refl _ _).alloc (Nat.le_refl _) _).grown hg (by simp) (fun k hk => by simp [Value.ownBlock] at hk; omega)
   clear hg
   go_wp2
   go_ret
   exact ⟨A', c', rfl, hown, hb⟩
theorem ptrs_one (l : List Nat) : ∀ u ∈ ptrs l, u.oneCell' = true := by
 intro u hu
 obtain ⟨b, _, rfl⟩ := List.mem_map.1 hu
 rfl
theorem TCs : TS Tryz.prog 71 67 1 8 (.pointer none) := ⟨Tryz.underlying71, by kernel_rfl, rfl, by decide⟩
theorem mostF (A : Option Addr) (n c : Nat) (k : Int) (w : World) (h0 : 0 ≤ k) (h1 : k ≤ 1000000) :
 Calls Tryz.prog 55 #[.slice A n c, .int .i64 k] w fun e w' => e = .returned (.bool (decide ((n : Int) < 2 * k))) ∧ w = w' := by
 go_enter Tryz.func55, Tryz.ntmps55
 go_wp2
 go_ret
 exact ⟨rfl, rfl⟩
/-- The copies in reach, of some with what they tell. -/
def onL (l : List (Nat × Bool)) : List Nat := (l.filter fun p => !p.2).map (·.1)
theorem onL_snoc (l : List (Nat × Bool)) (p : Nat × Bool) : onL (l ++ [p]) = onL l ++ if p.2 then [] else [p.1] := by
 unfold onL
 rw [List.filter_append, List.map_append]
 obtain ⟨b, a⟩ := p
 cases a <;> rfl
set_option maxRecDepth 100000 in
set_option maxHeartbeats 2000000 in
theorem inReachF (A : Option Addr) (n c : Nat) (l : List (Nat × Bool)) (w : World) (hn : n ≤ 1000) (hs : Sl w A n c (ptrs (l.map (·.1)))) (hc : ∀ p ∈ l, w.cell? ⟨p.1, 2, none⟩ = some (.bool p.2)) :
 Calls Tryz.prog 54 #[.slice A n c] w fun e w' => ∃ A' c', e = .returned (.slice A' (onL l).length c') ∧ w'.ownsRow w.heap.size 67 1 (.slice A' (onL l).length c') (onL l).length (ptrs (onL l)) ∧ Below w.heap.size w w' := by
 have HS := hid hs
 have HC := hid hc
 have HL := hid (show l.length = n by have := hs.len; simpa [ptrs] using this)
 clear hs hc
 go_enter Tryz.func54, Tryz.ntmps54
 go_wp2
 go_loopg [3, 8] n (fun gk v i wr => ∃ (d m : Nat) (A' : Option Addr) (c' : Nat), gk + d = n ∧ i = .int .i64 d ∧ v = .slice A' m c' ∧ m = (onL (l.take d)).length ∧ m ≤ d ∧ Hid (wr.ownsRow w.heap.size 67 1 (.slice A' m c') m (ptrs (onL (l.take d)))) ∧ Hid (Below w.heap.size w wr))
 case atStart => exact ⟨0, 0, none, 0, by omega, rfl, rfl, rfl, by omega, hid (by simpa [ptrs, onL] using World.ownsRow_nil _ _ _ _), hid (Below.refl _ _)⟩
 case round =>
  obtain ⟨d, m, A', c', hd, rfl, rfl, hm, hmd, HO, HB⟩ := hrel
  have HD := hid hd
  have HM := hid hm
  by_cases hlt : d < n
  · have HLT := hid hlt
    obtain ⟨b, o, u, rfl, lb, e1, ca⟩ := (HS.out.below HB.out).at hlt
    obtain ⟨y, hy, rfl⟩ := Option.map_eq_some_iff.1 (show ((l.map (·.1))[d]?).map (fun b => Value.pointer (some ⟨b, 0, none⟩)) = some u by rw [← List.getElem?_map]; exact e1)
    rw [List.getElem?_map] at hy
    obtain ⟨p, hp, rfl⟩ := Option.map_eq_some_iff.1 hy
    obtain ⟨pb, pa⟩ := p
    have h2 := cell_keep HB.out (HC.out _ (List.mem_of_getElem? hp))
    have HT := hid (show l.take (d + 1) = l.take d ++ [(pb, pa)] by rw [List.take_add_one, hp]; rfl)
    have HON := hid (onL_snoc (l.take d) (pb, pa))
    have hz := HB.out.size
    simp only at h2
    clear hd hm e1 hy hp lb
    cases pa
    · go_wp2_with (at_builtin; refine push1P TCs wr #[.pointer (some ⟨pb, 0, none⟩)] w.heap.size _ _ _ HO.out _ _ wr.heap.size rfl rfl rfl rfl rfl rfl (by simp [Value.oneCell']) (by omega) (by omega) hz ?_; intro v1 w8 hown1 hgr)
      have HB8 := hid (below_push HB.out HO.out hgr hz (Nat.le_refl _))
      obtain ⟨A8, c8, rfl⟩ := own_form hown1
      have HO8 := hid hown1
      clear hown1 hgr hz
      go_wp2
      go_roundg (gk - 1)
      case measure => have := HD.out; have := HLT.out; omega
      case rel =>
       refine ⟨d + 1, m + 1, A8, c8, by have := HD.out; have := HLT.out; omega, by go_num, rfl, ?_, by omega, hid ?_, HB8⟩
       · rw [HT.out, HON.out, HM.out]; simp
       · rw [HT.out, HON.out]
         simp only [Bool.false_eq_true, if_false]
         rw [ptrs_snoc]
         exact HO8.out
    · go_wp2
      go_roundg (gk - 1)
      case measure => have := HD.out; have := HLT.out; omega
      case rel =>
       refine ⟨d + 1, m, A', c', by have := HD.out; have := HLT.out; omega, by go_num, rfl, ?_, by omega, hid ?_, HB⟩
       · rw [HT.out, HON.out, HM.out]; simp
       · rw [HT.out, HON.out]
         simp only [if_true, List.append_nil]
         exact HO.out
  · obtain rfl : d = n := by have := HD.out; omega
    have e : l.take d = l := List.take_of_length_le (by have := HL.out; omega)
    rw [e] at HO HM
    obtain rfl := HM.out
    clear hd hlt hmd e hm
    go_wp2
    go_ret
    exact ⟨A', c', rfl, HO.out, HB.out⟩
end
/- Walks of begin, and of reading copies that hold nothing yet. Conditions: copies that NewCopy made. -/
section
open Go.RowKit Go.Maps
/-- The cells of the first state. -/
def begC : Array Value := #[.slice none 0 0, .slice none 0 0, .slice none 0 0, .slice none 0 0, .int .i64 0, .int .i64 0, .int .i64 0, .int .i64 1, .bool true, .slice none 0 0]
set_option maxRecDepth 100000 in
theorem beginF (w : World) :
 Calls Tryz.prog 62 #[] w fun e w' => ∃ b, e = .returned (.pointer (some ⟨b, 0, none⟩)) ∧ Blk w' b 149 begC ∧ w.heap.size ≤ b ∧ Below w.heap.size w w' := by
 go_enter Tryz.func62, Tryz.ntmps62
 go_wp2
 go_ret
 exact ⟨_, rfl, Blk.new _ _ _, Nat.le_refl _, (Below.refl _ w).alloc (Nat.le_refl _) _⟩
/-- Copies that hold nothing at number i. -/
def NoEnt (w : World) (i : Nat) (l : List Nat) : Prop := ∀ b ∈ l, ∃ mb mark away e, CpM w b mb mark away e ∧ e i = none
theorem NoEnt.keep {w w' : World} {i : Nat} {l : List Nat} (h : NoEnt w i l) (hb : Below w.heap.size w w') : NoEnt w' i l := fun b hm => by
 obtain ⟨mb, mark, away, e, k, h0⟩ := h b hm
 exact ⟨mb, mark, away, e, k.keep hb, h0⟩
end
/- Walk of Open on new copies. Condition: three or five of them, all in reach. -/
section
open Go.RowKit Go.Maps
theorem Chs.toGrown {b : Nat} {w w' : World} (h : Chs (· = b) w w') : w.grownBy w' (some b) := ⟨h.os, h.tape, h.output, h.size, fun i hi hne => h.block i hi fun e => hne (by rw [e])⟩
theorem setGrown (w : World) (a : Addr) (u : Value) : w.grownBy (w.setCell a u) (some a.block) := (Chs.setCell (S := (· = a.block)) rfl u).toGrown
theorem own_grown {w w' : World} {B b : Nat} {e t : TypeId} {size n : Nat} {v : Value} {xs : List Value} {cs : Array Value} (h : w.ownsRow B e size v n xs) (k : Blk w b t cs) (hne : t ≠ e) (hg : w.grownBy w' (some b)) : w'.ownsRow B e size v n xs :=
 World.ownsRow.kept h hg (by
  cases hv : v.ownBlock with
  | none => exact .inl rfl
  | some g => exact .inr (fun e => own_ne_blk h k hne (by rw [hv, e])))
theorem blk_neM {w : World} {b c : Nat} {t t' : TypeId} {cs cs' : Array Value} (h : Blk w b t cs) (h' : Blk w c t' cs') (ht : t ≠ t') : b ≠ c := by
 intro e
 subst e
 unfold Blk at h h'
 rw [h] at h'
 injection h' with h'
 injection h' with _ h' _
 exact ht h'
/-- What stands while a mint is opened on new copies L, of which d have promised. -/
structure OpS (w W : World) (m sb n : Nat) (a r : Value) (L : List (Nat × Nat)) (k : Int) (d : Nat) : Prop where
 mint : Blk W m 74 #[a, .int .i64 k, .pointer (some ⟨sb, 0, none⟩), .slice none 0 0, .bool false]
 st : Blk W sb 149 begC
 own1 : W.ownsRow w.heap.size 67 1 a n (ptrs (L.map (·.1)))
 own2 : W.ownsRow w.heap.size 67 1 r n (ptrs (L.map (·.1)))
 cp : ∀ i p, L[i]? = some p → CpM W p.1 p.2 (if i < d then 1 else 0) false (fun _ => none)
 chs : Chs (fun b => b ∈ L.map (·.1)) w W
 hm : w.heap.size ≤ m
 hs : w.heap.size ≤ sb
 old : ∀ p ∈ L, p.1 < w.heap.size ∧ p.2 < w.heap.size
 nod : (L.map (·.1)).Nodup
section
variable {w W W' : World} {m sb n d : Nat} {a r : Value} {L : List (Nat × Nat)} {k : Int}
theorem OpS.below (h : OpS w W m sb n a r L k d) (hb : Below W.heap.size W W') : OpS w W' m sb n a r L k d :=
 ⟨h.mint.keep hb, h.st.keep hb, own_below h.own1 hb, own_below h.own2 hb, fun i p hp => (h.cp i p hp).keep hb, h.chs.trans (Chs.of_below hb), h.hm, h.hs, h.old, h.nod⟩
theorem OpS.drew (h : OpS w W m sb n a r L k d) : OpS w W.drew m sb n a r L k d := h.below (Below.refl _ W).drew
theorem OpS.setMark (h : OpS w W m sb n a r L k d) (k' : Int) : OpS w (W.setCell ⟨m, 1, none⟩ (.int .i64 k')) m sb n a r L k' d :=
 ⟨h.mint.set 1 _, h.st.far (p := ⟨m, 1, none⟩) (blk_neM h.st h.mint (by decide)) _, own_grown h.own1 h.mint (by decide) (setGrown W ⟨m, 1, none⟩ _), own_grown h.own2 h.mint (by decide) (setGrown W ⟨m, 1, none⟩ _),
  fun i p hp => by
   have c := h.cp i p hp
   exact ⟨c.blk.far (p := ⟨m, 1, none⟩) (blk_neM c.blk h.mint (by decide)) _, c.map.setCell (a := ⟨m, 1, none⟩) (c.map.ne_blk h.mint) _⟩,
  ⟨h.chs.os, h.chs.tape, h.chs.output, by simpa using h.chs.size, fun i hi hs => (Below.heap_setCell W ⟨m, 1, none⟩ _ i (by have := h.hm; simp; omega)).trans (h.chs.block i hi hs)⟩, h.hm, h.hs, h.old, h.nod⟩
end
theorem ptrs_take (l : List Nat) (i : Nat) : ptrs (l.take i) = (ptrs l).take i := by unfold ptrs; rw [List.map_take]
theorem nod_take {l : List Nat} (h : l.Nodup) {i : Nat} {b : Nat} (hb : l[i]? = some b) : b ∉ l.take i := by
 intro hm
 obtain ⟨j, hj⟩ := List.getElem?_of_mem hm
 rw [List.getElem?_take] at hj
 split at hj
 · rename_i hji
   have := (List.getElem?_inj (List.getElem?_eq_some_iff.1 hj).1 h).1 (hj.trans hb.symm)
   omega
 · cases hj
end
/- Walks of Open where it refuses: a copy that nobody made, another number of copies, a copy twice. -/
section
open Go.RowKit Go.Maps
end
end Go.Proofs.YtnibidmlkbcfkaaGreatDoor
