/- Texts of this proof, one behind the other; each says its condition at its head. -/
import Derived.Test.YtciadmjdadnolaaGreatDoorK1
import Derived.LaidEqlPtr
/- The reference's copies in memory, and the walks of their methods. Conditions: a copy that NewCopy made. -/
namespace Go.Proofs.YtciadmjdadnolaaGreatDoor
open Go.RowKit Go.Maps
/-- A new copy of the reference. -/
def NewR (w : World) (b : Nat) : Prop := Blk w b 84 (Tryz.zeroCells84.setIfInBounds 0 (.bool true))
set_option maxRecDepth 100000 in
set_option maxHeartbeats 2000000 in
theorem refNewF (w : World) :
 Calls Tryz.prog 18 #[] w fun x w' => ∃ b, x = .returned (.pointer (some ⟨b, 0, none⟩)) ∧ NewR w' b ∧ Below w.heap.size w w' ∧ w.heap.size ≤ b := by
 go_enter Tryz.func18, Tryz.ntmps18
 go_wp2_with fail
 go_ret
 exact ⟨_, rfl, Blk.new _ _ _, (Below.refl _ w).alloc (Nat.le_refl _) _, Nat.le_refl _⟩
theorem TC : TS Tryz.prog 23 42 1 8 (.pointer none) := ⟨Tryz.underlying23, by kernel_rfl, rfl, by decide⟩
theorem TR : TS Tryz.prog 24 53 1 8 (.pointer none) := ⟨Tryz.underlying24, by kernel_rfl, rfl, by decide⟩
theorem own_kind2 {w : World} {B : Nat} {e : TypeId} {size : Nat} {v : Value} {n : Nat} {xs : List Value} (h : w.ownsRow B e size v n xs) : ∀ g, v.ownBlock = some g → ∃ c, w.heap[g]? = some (.cells c e (0, 0)) := by
 intro g hg
 rcases h.2 with ⟨rfl, _⟩ | ⟨g', cap, cur, rfl, _, hgg, _⟩
 · simp [Value.ownBlock] at hg
 · simp [Value.ownBlock] at hg
   subst hg
   exact ⟨cur, hgg⟩
theorem own_ne_blk {w : World} {B b : Nat} {e t : TypeId} {size n : Nat} {v : Value} {xs : List Value} {cs : Array Value} (h : w.ownsRow B e size v n xs) (k : Blk w b t cs) (hne : t ≠ e) : some b ≠ v.ownBlock := by
 intro hb
 obtain ⟨c, hc⟩ := own_kind2 h b hb.symm
 unfold Blk at k
 rw [k] at hc
 injection hc with hc
 injection hc with _ hc _
 exact hne hc
theorem own_ne_map {w : World} {B b : Nat} {e : TypeId} {size n : Nat} {v : Value} {xs : List Value} {P : Program} {kt : TypeId} {f : Value → Option Value} (h : w.ownsRow B e size v n xs) (k : MapX P kt w b f) : some b ≠ v.ownBlock := by
 intro hb
 obtain ⟨c, hc⟩ := own_kind2 h b hb.symm
 obtain ⟨es, cl, h1, _⟩ := k
 rw [h1] at hc
 cases hc
theorem own_apart2 {w : World} {B B' : Nat} {e e' : TypeId} {size size' : Nat} {v v' : Value} {n n' : Nat} {xs xs' : List Value} (h : w.ownsRow B e size v n xs) (h' : w.ownsRow B' e' size' v' n' xs') (hne : e ≠ e') : v.ownBlock = none ∨ v.ownBlock ≠ v'.ownBlock := by
 cases hv : v.ownBlock with
 | none => exact .inl rfl
 | some g =>
  right
  intro hc
  obtain ⟨c, h1⟩ := own_kind2 h g hv
  obtain ⟨c', h2⟩ := own_kind2 h' g hc.symm
  rw [h1] at h2
  injection h2 with h2
  injection h2 with _ h2 _
  exact hne h2
theorem push1P {P : Program} {ops : Array Oper} {rest : List Oper} {o : Oper} {a : Act} {Q : Exit → Act → World → Prop} {t e : TypeId} {size bytes : Nat} {z : Value}
 (T : TS P t e size bytes z) (w : World) (cs : Array Value) (base n : Nat) (v : Value) (xs : List Value) (hown : w.ownsRow base e size v n xs)
 (s x : Operand) (K : Nat) (hK : w.heap.size = K) (hgd : o.guard = none) (ho : o.op = .call { callee := .builtin .append, args := #[s, x], argTypes := #[t, t] })
 (hs : a.eval s = v) (hx : a.eval x = .slice (some ⟨K, 0, none⟩) 1 1) (hcs : cs.size = size) (h1 : ∀ u ∈ cs.toList, u.oneCell' = true)
 (hn : (n + 1) * bytes ≤ 140737488355328) (hn2 : n < 1000000000000) (hb : base ≤ w.heap.size)
 (h : ∀ v' w', w'.ownsRow base e size v' (n + 1) (xs ++ cs.toList) → (w.alloc (.cells cs e)).grownBy w' v.ownBlock → wpList P ops Q rest (a.put o.dst v') w') :
 wpList P ops Q (o :: rest) a (w.alloc (.cells cs e)) := by
 subst hK
 exact push1 T w cs base n v xs hown s x hgd ho hs hx hcs h1 hn hn2 hb h
/-- Pointers to blocks. -/
def ptrs (l : List Nat) : List Value := l.map fun b => .pointer (some ⟨b, 0, none⟩)
/-- New copies: their blocks and maps. -/
structure NewC (w : World) (B : Nat) (L : List (Nat × Nat)) : Prop where
 cpm : ∀ p ∈ L, CpM w p.1 p.2 0 false (fun _ => none) ∧ B ≤ p.1 ∧ B ≤ p.2
 nod1 : (L.map (·.1)).Nodup
 nod2 : (L.map (·.2)).Nodup
theorem NewC.nil (w : World) (B : Nat) : NewC w B [] := ⟨fun _ h => by simp at h, List.nodup_nil, List.nodup_nil⟩
theorem NewC.keep {w w' : World} {B : Nat} {L : List (Nat × Nat)} (h : NewC w B L) (hb : Below w.heap.size w w') : NewC w' B L :=
 ⟨fun p hp => ⟨(h.cpm p hp).1.keep hb, (h.cpm p hp).2⟩, h.nod1, h.nod2⟩
theorem NewC.snoc {w : World} {B cb mb : Nat} {L : List (Nat × Nat)} (h : NewC w B L) (k : CpM w cb mb 0 false (fun _ => none)) {K : Nat} (hB : B ≤ K) (h1 : K ≤ cb) (h2 : K ≤ mb) (hl : ∀ p ∈ L, p.1 < K ∧ p.2 < K) : NewC w B (L ++ [(cb, mb)]) := by
 refine ⟨fun p hp => ?_, ?_, ?_⟩
 · rcases List.mem_append.1 hp with hp | hp
   · exact h.cpm p hp
   · simp at hp
     subst hp
     exact ⟨k, by omega, by omega⟩
 · rw [List.map_append, List.nodup_append]
   refine ⟨h.nod1, by simp, fun a ha b hb => ?_⟩
   obtain ⟨p, hp, rfl⟩ := List.mem_map.1 ha
   simp at hb
   have := (hl p hp).1
   omega
 · rw [List.map_append, List.nodup_append]
   refine ⟨h.nod2, by simp, fun a ha b hb => ?_⟩
   obtain ⟨p, hp, rfl⟩ := List.mem_map.1 ha
   simp at hb
   have := (hl p hp).2
   omega
theorem NewC.grown {w w' : World} {B B' n size : Nat} {L : List (Nat × Nat)} {e : TypeId} {v : Value} {xs : List Value} (h : NewC w B L) (ho : w.ownsRow B' e size v n xs) (hg : w.grownBy w' v.ownBlock) (hne : 73 ≠ e) : NewC w' B L :=
 ⟨fun p hp => by
  obtain ⟨k, a, b⟩ := h.cpm p hp
  exact ⟨⟨k.blk.grown hg (own_ne_blk ho k.blk hne), k.map.grown hg (own_ne_map ho k.map)⟩, a, b⟩, h.nod1, h.nod2⟩
end Go.Proofs.YtciadmjdadnolaaGreatDoor
/- Walk of the law's copies: three or five new ones, and as many of the reference. No condition. -/
namespace Go.Proofs.YtciadmjdadnolaaGreatDoor
open Go.RowKit Go.Maps
/-- Slices of N new copies, and of N of the reference, all of them from block B on. -/
def CopAre (w : World) (B N : Nat) (a r : Value) : Prop := ∃ (L : List (Nat × Nat)) (M : List Nat),
 w.ownsRow B 42 1 a N (ptrs (L.map (·.1))) ∧ w.ownsRow B 53 1 r N (ptrs M) ∧ NewC w B L ∧ (∀ b ∈ M, NewR w b ∧ B ≤ b) ∧ M.Nodup
theorem ptrs_snoc (l : List Nat) (b : Nat) : ptrs (l ++ [b]) = ptrs l ++ [.pointer (some ⟨b, 0, none⟩)] := by simp [ptrs]
theorem CopAre.form {w : World} {B N : Nat} {a r : Value} (h : CopAre w B N a r) : ∃ A c R d, a = .slice A N c ∧ r = .slice R N d := by
 obtain ⟨L, M, h1, h2, _⟩ := h
 obtain ⟨A, c, e1⟩ := own_form h1
 obtain ⟨R, d, e2⟩ := own_form h2
 exact ⟨A, c, R, d, e1, e2⟩
set_option maxRecDepth 100000 in
set_option maxHeartbeats 4000000 in
theorem copies3 (w : World) :
 Calls Tryz.prog 5 #[.bool false] w fun x w' => ∃ a r, x = .returned (.tuple #[a, r]) ∧ CopAre w' w.heap.size 3 a r ∧ Below w.heap.size w w' := by
 have HNC := hid fun W => newCopyF W
 have HNR := hid fun W => refNewF W
 go_enter Tryz.func5, Tryz.ntmps5
 go_wp2
 go_loopg [4, 5, 7] 5 (fun gk a r i wr => ∃ d : Nat, gk + d = 5 ∧ i = .int .i64 d ∧ Hid (CopAre wr w.heap.size (min d 3) a r) ∧ Hid (Below w.heap.size w wr))
 case atStart => exact ⟨0, by omega, rfl, hid ⟨[], [], by simpa [ptrs] using World.ownsRow_nil _ _ _ _, by simpa [ptrs] using World.ownsRow_nil _ _ _ _, NewC.nil _ _, fun b h => by simp at h, List.nodup_nil⟩, hid (Below.refl _ _)⟩
 case round =>
  obtain ⟨d, hd, rfl, HC, HB⟩ := hrel
  have HD := hid hd
  by_cases hlt : d < 5
  · have HLT := hid hlt
    by_cases h3 : d < 3
    · have g1 : decide (d < 3) = true := decide_eq_true h3
      have g2 : decide ((d : Int) < 3) = true := decide_eq_true (by omega)
      have hlim : min d 3 = d := by omega
      have hlim2 : min (d + 1) 3 = d + 1 := by omega
      obtain ⟨A, ca, R, cr, hva, hvr⟩ := HC.out.form
      obtain ⟨L, M, hA, hR, hL, hM, hMn⟩ := HC.out
      first | rw [hlim] at hva hvr | skip
      subst hva hvr
      first | rw [hlim] at hA hR | skip
      have HLQ := hid hlim2
      have HA := hid hA; have HR := hid hR; have HL := hid hL; have HM := hid (And.intro hM hMn)
      have hdb : d < 5 := HLT.out
      clear hd h3 hlt hA hR hL hM hMn hlim hlim2 HC
      go_wp2_with fail
      refine (HNC.out _).mono ?_; rintro x w2 ⟨cb, mb, rfl, hcp, b2, k1, k2⟩
      have HA2 := hid (own_below HA.out b2)
      have HR2 := hid (own_below HR.out b2)
      have HL2 := hid ((HL.out.keep b2).snoc hcp HB.out.size k1 k2 (fun p hp => (HL.out.cpm p hp).1.lt))
      have HM2 := hid (show (∀ b ∈ M, NewR w2 b ∧ w.heap.size ≤ b) from fun b hb => ⟨(HM.out.1 b hb).1.keep b2, (HM.out.1 b hb).2⟩)
      have HB2 := hid (below_call HB.out b2 HB.out.size)
      have HMS := hid (show ∀ b ∈ M, b < wr.heap.size from fun b hb => (HM.out.1 b hb).1.lt)
      have hz2 := HB2.out.size
      have HS2 := hid b2.size
      clear hcp b2 k1 k2
      go_wp2_with (at_builtin; refine push1P TC w2 #[.pointer (some ⟨cb, 0, none⟩)] w.heap.size _ _ _ HA2.out _ _ w2.heap.size rfl rfl rfl rfl rfl rfl (by simp [Value.oneCell']) (by omega) (by omega) hz2 ?_; intro v1 w3 hown1 hgr)
      have HA3 := hid hown1
      have HR3 := hid (World.ownsRow.kept (HR2.out.alloc (.cells #[.pointer (some ⟨cb, 0, none⟩)] 42)) hgr (own_apart2 HR2.out HA2.out (by decide)))
      have HL3 := hid ((HL2.out.keep ((Below.refl _ _).alloc (Nat.le_refl _) (.cells #[.pointer (some ⟨cb, 0, none⟩)] 42))).grown (HA2.out.alloc _) hgr (by decide))
      have HM3 := hid (show (∀ b ∈ M, NewR w3 b ∧ w.heap.size ≤ b) from fun b hb => ⟨((HM2.out b hb).1.alloc (.cells #[.pointer (some ⟨cb, 0, none⟩)] 42)).grown hgr (own_ne_blk HA2.out (HM2.out b hb).1 (by decide)), (HM2.out b hb).2⟩)
      have HB3 := hid (below_push HB2.out HA2.out hgr hz2 (Nat.le_refl _))
      have HS3 := hid (show w2.heap.size ≤ w3.heap.size from by have := hgr.size; simp at this; omega)
      obtain ⟨A3, c3, rfl⟩ := own_form hown1
      clear hown1 hgr hz2
      go_wp2_with fail
      refine (HNR.out _).mono ?_; rintro x w4 ⟨rb, rfl, hrb, b4, k4⟩
      have HA4 := hid (own_below HA3.out b4)
      have HR4 := hid (own_below HR3.out b4)
      have HL4 := hid (HL3.out.keep b4)
      have HM4 := hid (show (∀ b ∈ M ++ [rb], NewR w4 b ∧ w.heap.size ≤ b) from fun b hb => by
       rcases List.mem_append.1 hb with hb | hb
       · exact ⟨(HM3.out b hb).1.keep b4, (HM3.out b hb).2⟩
       · simp at hb
         subst hb
         exact ⟨hrb, by have := HB3.out.size; omega⟩)
      have HMN := hid (show (M ++ [rb]).Nodup from by
       rw [List.nodup_append]
       refine ⟨HM.out.2, by simp, fun a ha b hb => ?_⟩
       have h1 := HMS.out a ha
       have h2 := HS2.out
       have h3 := HS3.out
       simp at hb
       omega)
      have HB4 := hid (below_call HB3.out b4 HB3.out.size)
      have hz4 := HB4.out.size
      clear hrb b4 k4
      go_wp2_with (at_builtin; refine push1P TR w4 #[.pointer (some ⟨rb, 0, none⟩)] w.heap.size _ _ _ HR4.out _ _ w4.heap.size rfl rfl rfl rfl rfl rfl (by simp [Value.oneCell']) (by omega) (by omega) hz4 ?_; intro v5 w5 hown5 hgr)
      have HR5 := hid hown5
      have HA5 := hid (World.ownsRow.kept (HA4.out.alloc (.cells #[.pointer (some ⟨rb, 0, none⟩)] 53)) hgr (own_apart2 HA4.out HR4.out (by decide)))
      have HL5 := hid ((HL4.out.keep ((Below.refl _ _).alloc (Nat.le_refl _) (.cells #[.pointer (some ⟨rb, 0, none⟩)] 53))).grown (HR4.out.alloc _) hgr (by decide))
      have HM5 := hid (show (∀ b ∈ M ++ [rb], NewR w5 b ∧ w.heap.size ≤ b) from fun b hb => ⟨((HM4.out b hb).1.alloc (.cells #[.pointer (some ⟨rb, 0, none⟩)] 53)).grown hgr (own_ne_blk HR4.out (HM4.out b hb).1 (by decide)), (HM4.out b hb).2⟩)
      have HB5 := hid (below_push HB4.out HR4.out hgr hz4 (Nat.le_refl _))
      obtain ⟨R5, c5, rfl⟩ := own_form hown5
      clear hown5 hgr hz4
      go_wp2
      go_roundg (gk - 1)
      case measure => have := HD.out; have := HLT.out; omega
      case rel =>
       refine ⟨d + 1, by have := HD.out; have := HLT.out; omega, by go_num, hid ?_, HB5⟩
       first | rw [HLQ.out] | skip
       refine ⟨L ++ [(cb, mb)], M ++ [rb], ?_, ?_, HL5.out, HM5.out, HMN.out⟩
       · rw [List.map_append]
         exact (by rw [List.map_cons, List.map_nil, ptrs_snoc]; exact HA5.out)
       · rw [ptrs_snoc]; exact HR5.out
    · have g1 : decide (d < 3) = false := decide_eq_false h3
      have g2 : decide ((d : Int) < 3) = false := decide_eq_false (by omega)
      have HC2 := hid (show CopAre wr w.heap.size (min (d + 1) 3) u4 u5 by
       have := HC.out
       rwa [show min (d + 1) 3 = min d 3 by omega])
      have hdb : d < 5 := HLT.out
      clear hd h3
      go_wp2
      go_roundg (gk - 1)
      case measure => have := HD.out; have := HLT.out; omega
      case rel => exact ⟨d + 1, by have := HD.out; have := HLT.out; omega, by go_num, HC2, HB⟩
  · obtain rfl : d = 5 := by have := HD.out; omega
    have HC2 := hid (show CopAre wr w.heap.size 3 u4 u5 from HC.out)
    clear hd hlt
    go_wp2
    go_ret2
    exact ⟨u4, u5, rfl, HC2.out, HB.out⟩
set_option maxRecDepth 100000 in
set_option maxHeartbeats 4000000 in
theorem copies5 (w : World) :
 Calls Tryz.prog 5 #[.bool true] w fun x w' => ∃ a r, x = .returned (.tuple #[a, r]) ∧ CopAre w' w.heap.size 5 a r ∧ Below w.heap.size w w' := by
 have HNC := hid fun W => newCopyF W
 have HNR := hid fun W => refNewF W
 go_enter Tryz.func5, Tryz.ntmps5
 go_wp2
 go_loopg [4, 5, 7] 5 (fun gk a r i wr => ∃ d : Nat, gk + d = 5 ∧ i = .int .i64 d ∧ Hid (CopAre wr w.heap.size d a r) ∧ Hid (Below w.heap.size w wr))
 case atStart => exact ⟨0, by omega, rfl, hid ⟨[], [], by simpa [ptrs] using World.ownsRow_nil _ _ _ _, by simpa [ptrs] using World.ownsRow_nil _ _ _ _, NewC.nil _ _, fun b h => by simp at h, List.nodup_nil⟩, hid (Below.refl _ _)⟩
 case round =>
  obtain ⟨d, hd, rfl, HC, HB⟩ := hrel
  have HD := hid hd
  by_cases hlt : d < 5
  · have HLT := hid hlt
    by_cases h3 : d < 3
    · have g1 : decide (d < 3) = true := decide_eq_true h3
      have g2 : decide ((d : Int) < 3) = true := decide_eq_true (by omega)
      have hlim : d + 0 = d := rfl
      have hlim2 : d + 1 = d + 1 := rfl
      obtain ⟨A, ca, R, cr, hva, hvr⟩ := HC.out.form
      obtain ⟨L, M, hA, hR, hL, hM, hMn⟩ := HC.out
      first | rw [hlim] at hva hvr | skip
      subst hva hvr
      first | rw [hlim] at hA hR | skip
      have HLQ := hid hlim2
      have HA := hid hA; have HR := hid hR; have HL := hid hL; have HM := hid (And.intro hM hMn)
      have hdb : d < 5 := HLT.out
      clear hd h3 hlt hA hR hL hM hMn hlim hlim2 HC
      go_wp2_with fail
      refine (HNC.out _).mono ?_; rintro x w2 ⟨cb, mb, rfl, hcp, b2, k1, k2⟩
      have HA2 := hid (own_below HA.out b2)
      have HR2 := hid (own_below HR.out b2)
      have HL2 := hid ((HL.out.keep b2).snoc hcp HB.out.size k1 k2 (fun p hp => (HL.out.cpm p hp).1.lt))
      have HM2 := hid (show (∀ b ∈ M, NewR w2 b ∧ w.heap.size ≤ b) from fun b hb => ⟨(HM.out.1 b hb).1.keep b2, (HM.out.1 b hb).2⟩)
      have HB2 := hid (below_call HB.out b2 HB.out.size)
      have HMS := hid (show ∀ b ∈ M, b < wr.heap.size from fun b hb => (HM.out.1 b hb).1.lt)
      have hz2 := HB2.out.size
      have HS2 := hid b2.size
      clear hcp b2 k1 k2
      go_wp2_with (at_builtin; refine push1P TC w2 #[.pointer (some ⟨cb, 0, none⟩)] w.heap.size _ _ _ HA2.out _ _ w2.heap.size rfl rfl rfl rfl rfl rfl (by simp [Value.oneCell']) (by omega) (by omega) hz2 ?_; intro v1 w3 hown1 hgr)
      have HA3 := hid hown1
      have HR3 := hid (World.ownsRow.kept (HR2.out.alloc (.cells #[.pointer (some ⟨cb, 0, none⟩)] 42)) hgr (own_apart2 HR2.out HA2.out (by decide)))
      have HL3 := hid ((HL2.out.keep ((Below.refl _ _).alloc (Nat.le_refl _) (.cells #[.pointer (some ⟨cb, 0, none⟩)] 42))).grown (HA2.out.alloc _) hgr (by decide))
      have HM3 := hid (show (∀ b ∈ M, NewR w3 b ∧ w.heap.size ≤ b) from fun b hb => ⟨((HM2.out b hb).1.alloc (.cells #[.pointer (some ⟨cb, 0, none⟩)] 42)).grown hgr (own_ne_blk HA2.out (HM2.out b hb).1 (by decide)), (HM2.out b hb).2⟩)
      have HB3 := hid (below_push HB2.out HA2.out hgr hz2 (Nat.le_refl _))
      have HS3 := hid (show w2.heap.size ≤ w3.heap.size from by have := hgr.size; simp at this; omega)
      obtain ⟨A3, c3, rfl⟩ := own_form hown1
      clear hown1 hgr hz2
      go_wp2_with fail
      refine (HNR.out _).mono ?_; rintro x w4 ⟨rb, rfl, hrb, b4, k4⟩
      have HA4 := hid (own_below HA3.out b4)
      have HR4 := hid (own_below HR3.out b4)
      have HL4 := hid (HL3.out.keep b4)
      have HM4 := hid (show (∀ b ∈ M ++ [rb], NewR w4 b ∧ w.heap.size ≤ b) from fun b hb => by
       rcases List.mem_append.1 hb with hb | hb
       · exact ⟨(HM3.out b hb).1.keep b4, (HM3.out b hb).2⟩
       · simp at hb
         subst hb
         exact ⟨hrb, by have := HB3.out.size; omega⟩)
      have HMN := hid (show (M ++ [rb]).Nodup from by
       rw [List.nodup_append]
       refine ⟨HM.out.2, by simp, fun a ha b hb => ?_⟩
       have h1 := HMS.out a ha
       have h2 := HS2.out
       have h3 := HS3.out
       simp at hb
       omega)
      have HB4 := hid (below_call HB3.out b4 HB3.out.size)
      have hz4 := HB4.out.size
      clear hrb b4 k4
      go_wp2_with (at_builtin; refine push1P TR w4 #[.pointer (some ⟨rb, 0, none⟩)] w.heap.size _ _ _ HR4.out _ _ w4.heap.size rfl rfl rfl rfl rfl rfl (by simp [Value.oneCell']) (by omega) (by omega) hz4 ?_; intro v5 w5 hown5 hgr)
      have HR5 := hid hown5
      have HA5 := hid (World.ownsRow.kept (HA4.out.alloc (.cells #[.pointer (some ⟨rb, 0, none⟩)] 53)) hgr (own_apart2 HA4.out HR4.out (by decide)))
      have HL5 := hid ((HL4.out.keep ((Below.refl _ _).alloc (Nat.le_refl _) (.cells #[.pointer (some ⟨rb, 0, none⟩)] 53))).grown (HR4.out.alloc _) hgr (by decide))
      have HM5 := hid (show (∀ b ∈ M ++ [rb], NewR w5 b ∧ w.heap.size ≤ b) from fun b hb => ⟨((HM4.out b hb).1.alloc (.cells #[.pointer (some ⟨rb, 0, none⟩)] 53)).grown hgr (own_ne_blk HR4.out (HM4.out b hb).1 (by decide)), (HM4.out b hb).2⟩)
      have HB5 := hid (below_push HB4.out HR4.out hgr hz4 (Nat.le_refl _))
      obtain ⟨R5, c5, rfl⟩ := own_form hown5
      clear hown5 hgr hz4
      go_wp2
      go_roundg (gk - 1)
      case measure => have := HD.out; have := HLT.out; omega
      case rel =>
       refine ⟨d + 1, by have := HD.out; have := HLT.out; omega, by go_num, hid ?_, HB5⟩
       first | rw [HLQ.out] | skip
       refine ⟨L ++ [(cb, mb)], M ++ [rb], ?_, ?_, HL5.out, HM5.out, HMN.out⟩
       · rw [List.map_append]
         exact (by rw [List.map_cons, List.map_nil, ptrs_snoc]; exact HA5.out)
       · rw [ptrs_snoc]; exact HR5.out
    · have g1 : decide (d < 3) = false := decide_eq_false h3
      have g2 : decide ((d : Int) < 3) = false := decide_eq_false (by omega)
      have hlim : d + 0 = d := rfl
      have hlim2 : d + 1 = d + 1 := rfl
      obtain ⟨A, ca, R, cr, hva, hvr⟩ := HC.out.form
      obtain ⟨L, M, hA, hR, hL, hM, hMn⟩ := HC.out
      first | rw [hlim] at hva hvr | skip
      subst hva hvr
      first | rw [hlim] at hA hR | skip
      have HLQ := hid hlim2
      have HA := hid hA; have HR := hid hR; have HL := hid hL; have HM := hid (And.intro hM hMn)
      have hdb : d < 5 := HLT.out
      clear hd h3 hlt hA hR hL hM hMn hlim hlim2 HC
      go_wp2_with fail
      refine (HNC.out _).mono ?_; rintro x w2 ⟨cb, mb, rfl, hcp, b2, k1, k2⟩
      have HA2 := hid (own_below HA.out b2)
      have HR2 := hid (own_below HR.out b2)
      have HL2 := hid ((HL.out.keep b2).snoc hcp HB.out.size k1 k2 (fun p hp => (HL.out.cpm p hp).1.lt))
      have HM2 := hid (show (∀ b ∈ M, NewR w2 b ∧ w.heap.size ≤ b) from fun b hb => ⟨(HM.out.1 b hb).1.keep b2, (HM.out.1 b hb).2⟩)
      have HB2 := hid (below_call HB.out b2 HB.out.size)
      have HMS := hid (show ∀ b ∈ M, b < wr.heap.size from fun b hb => (HM.out.1 b hb).1.lt)
      have hz2 := HB2.out.size
      have HS2 := hid b2.size
      clear hcp b2 k1 k2
      go_wp2_with (at_builtin; refine push1P TC w2 #[.pointer (some ⟨cb, 0, none⟩)] w.heap.size _ _ _ HA2.out _ _ w2.heap.size rfl rfl rfl rfl rfl rfl (by simp [Value.oneCell']) (by omega) (by omega) hz2 ?_; intro v1 w3 hown1 hgr)
      have HA3 := hid hown1
      have HR3 := hid (World.ownsRow.kept (HR2.out.alloc (.cells #[.pointer (some ⟨cb, 0, none⟩)] 42)) hgr (own_apart2 HR2.out HA2.out (by decide)))
      have HL3 := hid ((HL2.out.keep ((Below.refl _ _).alloc (Nat.le_refl _) (.cells #[.pointer (some ⟨cb, 0, none⟩)] 42))).grown (HA2.out.alloc _) hgr (by decide))
      have HM3 := hid (show (∀ b ∈ M, NewR w3 b ∧ w.heap.size ≤ b) from fun b hb => ⟨((HM2.out b hb).1.alloc (.cells #[.pointer (some ⟨cb, 0, none⟩)] 42)).grown hgr (own_ne_blk HA2.out (HM2.out b hb).1 (by decide)), (HM2.out b hb).2⟩)
      have HB3 := hid (below_push HB2.out HA2.out hgr hz2 (Nat.le_refl _))
      have HS3 := hid (show w2.heap.size ≤ w3.heap.size from by have := hgr.size; simp at this; omega)
      obtain ⟨A3, c3, rfl⟩ := own_form hown1
      clear hown1 hgr hz2
      go_wp2_with fail
      refine (HNR.out _).mono ?_; rintro x w4 ⟨rb, rfl, hrb, b4, k4⟩
      have HA4 := hid (own_below HA3.out b4)
      have HR4 := hid (own_below HR3.out b4)
      have HL4 := hid (HL3.out.keep b4)
      have HM4 := hid (show (∀ b ∈ M ++ [rb], NewR w4 b ∧ w.heap.size ≤ b) from fun b hb => by
       rcases List.mem_append.1 hb with hb | hb
       · exact ⟨(HM3.out b hb).1.keep b4, (HM3.out b hb).2⟩
       · simp at hb
         subst hb
         exact ⟨hrb, by have := HB3.out.size; omega⟩)
      have HMN := hid (show (M ++ [rb]).Nodup from by
       rw [List.nodup_append]
       refine ⟨HM.out.2, by simp, fun a ha b hb => ?_⟩
       have h1 := HMS.out a ha
       have h2 := HS2.out
       have h3 := HS3.out
       simp at hb
       omega)
      have HB4 := hid (below_call HB3.out b4 HB3.out.size)
      have hz4 := HB4.out.size
      clear hrb b4 k4
      go_wp2_with (at_builtin; refine push1P TR w4 #[.pointer (some ⟨rb, 0, none⟩)] w.heap.size _ _ _ HR4.out _ _ w4.heap.size rfl rfl rfl rfl rfl rfl (by simp [Value.oneCell']) (by omega) (by omega) hz4 ?_; intro v5 w5 hown5 hgr)
      have HR5 := hid hown5
      have HA5 := hid (World.ownsRow.kept (HA4.out.alloc (.cells #[.pointer (some ⟨rb, 0, none⟩)] 53)) hgr (own_apart2 HA4.out HR4.out (by decide)))
      have HL5 := hid ((HL4.out.keep ((Below.refl _ _).alloc (Nat.le_refl _) (.cells #[.pointer (some ⟨rb, 0, none⟩)] 53))).grown (HR4.out.alloc _) hgr (by decide))
      have HM5 := hid (show (∀ b ∈ M ++ [rb], NewR w5 b ∧ w.heap.size ≤ b) from fun b hb => ⟨((HM4.out b hb).1.alloc (.cells #[.pointer (some ⟨rb, 0, none⟩)] 53)).grown hgr (own_ne_blk HR4.out (HM4.out b hb).1 (by decide)), (HM4.out b hb).2⟩)
      have HB5 := hid (below_push HB4.out HR4.out hgr hz4 (Nat.le_refl _))
      obtain ⟨R5, c5, rfl⟩ := own_form hown5
      clear hown5 hgr hz4
      go_wp2
      go_roundg (gk - 1)
      case measure => have := HD.out; have := HLT.out; omega
      case rel =>
       refine ⟨d + 1, by have := HD.out; have := HLT.out; omega, by go_num, hid ?_, HB5⟩
       first | rw [HLQ.out] | skip
       refine ⟨L ++ [(cb, mb)], M ++ [rb], ?_, ?_, HL5.out, HM5.out, HMN.out⟩
       · rw [List.map_append]
         exact (by rw [List.map_cons, List.map_nil, ptrs_snoc]; exact HA5.out)
       · rw [ptrs_snoc]; exact HR5.out
  · obtain rfl : d = 5 := by have := HD.out; omega
    have HC2 := hid (show CopAre wr w.heap.size 5 u4 u5 from HC.out)
    clear hd hlt
    go_wp2
    go_ret2
    exact ⟨u4, u5, rfl, HC2.out, HB.out⟩
end Go.Proofs.YtciadmjdadnolaaGreatDoor
/- Walks of slices.ContainsFunc with the copies' none, and of slices.Contains on copies. Condition: the slice reads as pointers. -/
namespace Go.Proofs.YtciadmjdadnolaaGreatDoor
open Go.RowKit Go.Maps
/-- What none says of each of some values. -/
def NoneS (w : World) (vs : List Value) (f : Nat → Bool) : Prop := ∀ (i : Nat) v, vs[i]? = some v → Calls Tryz.prog 27 #[v] w fun e w' => e = .returned (.bool (f i)) ∧ w = w'
set_option maxRecDepth 100000 in
set_option maxHeartbeats 1000000 in
theorem noneIdx (A : Option Addr) (n c : Nat) (vs : List Value) (f : Nat → Bool) (lb : Array Value) (w : World) (hlb : lb = #[]) (hs : Sl w A n c vs) (hf : NoneS w vs f) :
 Calls Tryz.prog 38 #[.slice A n c, .func (.func 27) #[] lb] w fun e w' => (∃ r : Int, e = .returned (.int .i64 r) ∧ (0 ≤ r ↔ ∃ i, i < n ∧ f i = true)) ∧ w = w' := by
 subst hlb
 have hm : n ≤ 9223372036854775807 := by have := hs.cap; have := hs.capm; unfold maxLen at this; omega
 have he : ∀ args W, (callFunc 27 args).run Tryz.prog W = .ok (.enter 27 args) W := fun args W => enters Tryz.func27 (by kernel_rfl) rfl args W
 have HF := hid hf
 have HS := hid hs
 clear hs hf
 go_enter Tryz.func38, Tryz.ntmps38
 go_wp2
 go_loopg [8] n (fun gk i wr => ∃ k : Nat, gk + k = n ∧ i = .int .i64 k ∧ Hid (∀ j, j < k → f j = false) ∧ w = wr)
 case atStart => exact ⟨0, by omega, rfl, hid fun j h => absurd h (by omega), rfl⟩
 case round =>
  obtain ⟨k, hk, rfl, HN, hw⟩ := hrel
  subst hw
  have HK := hid hk
  by_cases hlt : k < n
  · have HLT := hid hlt
    obtain ⟨b, o, u, rfl, lb1, e1, ca⟩ := HS.out.at hlt
    have hc := HF.out k u e1
    have HC := hid hc
    clear e1 hc hk lb1
    cases hfx : f k
    · rw [hfx] at HC
      have HX := hid hfx
      clear hfx
      go_wp2_with (refine (HC.out).mono ?_; rintro e w1 ⟨rfl, rfl⟩)
      go_roundg (gk - 1)
      case measure => have := HK.out; have := HLT.out; omega
      case rel =>
       refine ⟨k + 1, by have := HK.out; have := HLT.out; omega, by go_num, hid fun j hj => ?_, rfl⟩
       by_cases e : j = k
       · subst e; exact HX.out
       · exact HN.out j (by omega)
    · rw [hfx] at HC
      have HX := hid hfx
      clear hfx
      go_wp2_with (refine (HC.out).mono ?_; rintro e w1 ⟨rfl, rfl⟩)
      go_ret
      exact ⟨⟨(k : Int), rfl, ⟨fun _ => ⟨k, HLT.out, HX.out⟩, fun _ => by omega⟩⟩, rfl⟩
  · obtain rfl : k = n := by have := HK.out; omega
    clear hk
    go_wp2
    go_ret
    exact ⟨⟨-1, rfl, ⟨fun h => absurd h (by decide), fun ⟨i, hi, hfi⟩ => by rw [HN.out i hi] at hfi; cases hfi⟩⟩, rfl⟩
set_option maxRecDepth 100000 in
theorem noneAny (A : Option Addr) (n c : Nat) (vs : List Value) (f : Nat → Bool) (b : Bool) (w : World) (hs : Sl w A n c vs) (hf : NoneS w vs f) (hb : b = true ↔ ∃ i, i < n ∧ f i = true) :
 Calls Tryz.prog 26 #[.slice A n c, .func (.func 27) #[] #[]] w fun e w' => e = .returned (.bool b) ∧ w = w' := by
 have HI := hid (noneIdx A n c vs f #[] w rfl hs hf)
 have HB := hid hb
 clear hs hf hb
 go_enter Tryz.func26, Tryz.ntmps26
 go_wp2_with fail
 refine (HI.out).mono ?_; rintro e w1 ⟨⟨r, rfl, hr⟩, rfl⟩
 have hd : decide (0 ≤ r) = b := by rw [Bool.eq_iff_iff, decide_eq_true_iff, HB.out]; exact hr
 clear hr
 go_wp2
 go_ret
 exact ⟨rfl, rfl⟩
/-- A block of cells lies there. -/
def IsBlk (w : World) (b : Nat) : Prop := ∃ t cs, Blk w b t cs
theorem ptrEq {w : World} {b y : Nat} (hb : IsBlk w b) (hy : IsBlk w y) : (binOp .eql 42 (.pointer (some ⟨b, 0, none⟩)) (.pointer (some ⟨y, 0, none⟩))).run Tryz.prog w = .ok (.bool (decide (b = y))) w := by
 obtain ⟨j, hj, hs⟩ : ∃ j, Tryz.prog.info? 73 = some j ∧ j.size = 3 := by
  have h : (Tryz.prog.info? 73).map (·.size) = some 3 := by kernel_rfl
  obtain ⟨j, h1, h2⟩ := Option.map_eq_some_iff.1 h
  exact ⟨j, h1, h2⟩
 by_cases e : b = y
 · subst e
   rw [decide_eq_true rfl]
   exact run_eql_ptr_same w _ Tryz.underlying42 hj
 · rw [decide_eq_false e]
   obtain ⟨t1, c1, h1⟩ := hb
   obtain ⟨t2, c2, h2⟩ := hy
   exact run_eql_ptr_other w Tryz.underlying42 hj (by omega) (fun k => e (by injection k)) h1 h2
set_option maxRecDepth 100000 in
set_option maxHeartbeats 1000000 in
theorem ptrIdx (A : Option Addr) (n c : Nat) (l : List Nat) (b : Nat) (w : World) (hs : Sl w A n c (ptrs l)) (hb : IsBlk w b) (hl : ∀ y ∈ l, IsBlk w y) :
 Calls Tryz.prog 39 #[.slice A n c, .pointer (some ⟨b, 0, none⟩)] w fun e w' => (∃ r : Int, e = .returned (.int .i64 r) ∧ (0 ≤ r ↔ b ∈ l)) ∧ w = w' := by
 have hm : n ≤ 9223372036854775807 := by have := hs.cap; have := hs.capm; unfold maxLen at this; omega
 have HS := hid hs
 have HL := hid (show l.length = n by have := hs.len; simpa [ptrs] using this)
 have HE := hid fun y hy => ptrEq hb (hl y hy)
 clear hs hb hl
 go_enter Tryz.func39, Tryz.ntmps39
 go_wp2
 go_loopg [8] n (fun gk i wr => ∃ k : Nat, gk + k = n ∧ i = .int .i64 k ∧ Hid (∀ j, j < k → l[j]? ≠ some b) ∧ w = wr)
 case atStart => exact ⟨0, by omega, rfl, hid fun j h => absurd h (by omega), rfl⟩
 case round =>
  obtain ⟨k, hk, rfl, HN, hw⟩ := hrel
  subst hw
  have HK := hid hk
  by_cases hlt : k < n
  · have HLT := hid hlt
    obtain ⟨b1, o, u, rfl, lb1, e1, ca⟩ := HS.out.at hlt
    obtain ⟨y, hy, rfl⟩ := Option.map_eq_some_iff.1 (show (l[k]?).map (fun b => Value.pointer (some ⟨b, 0, none⟩)) = some u by rw [← List.getElem?_map]; exact e1)
    have HY := hid hy
    have hqe := HE.out y (List.mem_of_getElem? hy)
    clear e1 hy hk lb1
    by_cases hq : b = y
    · subst hq
      rw [decide_eq_true rfl] at hqe
      go_wp2
      go_ret
      exact ⟨⟨(k : Int), rfl, ⟨fun _ => List.mem_of_getElem? HY.out, fun _ => by omega⟩⟩, rfl⟩
    · have hq2 : ¬ y = b := fun e => hq e.symm
      have HQ := hid hq
      rw [decide_eq_false hq] at hqe
      go_wp2
      go_roundg (gk - 1)
      case measure => have := HK.out; have := HLT.out; omega
      case rel =>
       refine ⟨k + 1, by have := HK.out; have := HLT.out; omega, by go_num, hid fun j hj => ?_, rfl⟩
       by_cases e : j = k
       · subst e
         rw [HY.out]
         exact fun e => HQ.out (Option.some.inj e).symm
       · exact HN.out j (by omega)
  · obtain rfl : k = n := by have := HK.out; omega
    clear hk
    go_wp2
    go_ret
    exact ⟨⟨-1, rfl, ⟨fun h => absurd h (by decide), fun hm => by
     obtain ⟨i, hi⟩ := List.getElem?_of_mem hm
     have := (List.getElem?_eq_some_iff.1 hi).1
     exact absurd hi (HN.out i (by have := HL.out; omega))⟩⟩, rfl⟩
set_option maxRecDepth 100000 in
theorem ptrHas (A : Option Addr) (n c : Nat) (l : List Nat) (b : Nat) (w : World) (hs : Sl w A n c (ptrs l)) (hb : IsBlk w b) (hl : ∀ y ∈ l, IsBlk w y) :
 Calls Tryz.prog 28 #[.slice A n c, .pointer (some ⟨b, 0, none⟩)] w fun e w' => e = .returned (.bool (decide (b ∈ l))) ∧ w = w' := by
 have HI := hid (ptrIdx A n c l b w hs hb hl)
 clear hs hb hl
 go_enter Tryz.func28, Tryz.ntmps28
 go_wp2_with fail
 refine (HI.out).mono ?_; rintro e w1 ⟨⟨r, rfl, hr⟩, rfl⟩
 have hd : decide (0 ≤ r) = decide (b ∈ l) := by rw [Bool.eq_iff_iff, decide_eq_true_iff, decide_eq_true_iff]; exact hr
 clear hr
 go_wp2
 go_ret
 exact ⟨rfl, rfl⟩
end Go.Proofs.YtciadmjdadnolaaGreatDoor
