/- Texts of this proof, one behind the other; each says its condition at its head. -/
import Derived.Test.YtciadmjdadnolaaGreatDoorK37
/- Walk of a mint's Do at 'medal gold', on a mint opened on three new copies. Condition: the library's MaxLen stands in its variable. -/
namespace Go.Proofs.YtciadmjdadnolaaGreatDoor
open Go.RowKit Go.Maps
/-- The entries of a copy ahead of the line, and behind it. -/
def ent0 : Ents := fun _ => none
def ent1 : Ents := putE ent0 0 (1, sMG)
/-- What stands while the line is put into d of the copies. -/
structure DoS (w W : World) (m sb nb : Nat) (a r : Value) (L : List (Nat × Nat)) (d : Nat) (M : Option Addr) (mc : Nat) (U : Option Addr) (uc : Nat) : Prop where
 mint : MintB W m a 1 sb (.slice none 0 0) false
 new : StG W nb w.heap.size M mc U uc
 own2 : W.ownsRow w.heap.size 42 1 r 3 (ptrs (L.map (·.1)))
 cp : ∀ i p, L[i]? = some p → CpM W p.1 p.2 1 false (if i < d then ent1 else ent0)
 low : Below w.heap.size w W
 hm : w.heap.size ≤ m
 hL : ∀ p ∈ L, w.heap.size ≤ p.1 ∧ w.heap.size ≤ p.2
 nod1 : (L.map (·.1)).Nodup
 nod2 : (L.map (·.2)).Nodup
section
variable {w W W' : World} {m sb nb d : Nat} {a r : Value} {L : List (Nat × Nat)} {M : Option Addr} {mc : Nat} {U : Option Addr} {uc : Nat}
theorem DoS.below (h : DoS w W m sb nb a r L d M mc U uc) (hb : Below W.heap.size W W') : DoS w W' m sb nb a r L d M mc U uc :=
 ⟨h.mint.keep hb, h.new.keep hb, own_below h.own2 hb, fun i p hp => (h.cp i p hp).keep hb, below_call h.low hb h.low.size, h.hm, h.hL, h.nod1, h.nod2⟩
theorem DoS.drew (h : DoS w W m sb nb a r L d M mc U uc) : DoS w W.drew m sb nb a r L d M mc U uc := h.below (Below.refl _ W).drew
/-- A copy's block or map is no block of other cells. -/
theorem cpm_ne {W : World} {cb mb b : Nat} {mark : Int} {away : Bool} {e : Ents} {t : TypeId} {cs : Array Value} (h : CpM W cb mb mark away e) (k : Blk W b t cs) (hne : t ≠ 73) : ¬ (b = cb ∨ b = mb) := by
 rintro (e' | e')
 · exact blk_neM k h.blk hne e'
 · exact h.map.ne_blk k e'
theorem own_chs {S : Nat → Prop} {W W' : World} {base : Nat} {e : TypeId} {size n : Nat} {v : Value} {xs : List Value} (h : W.ownsRow base e size v n xs) (hc : Chs S W W') (h1 : ∀ g, v.ownBlock = some g → ¬ S g) : W'.ownsRow base e size v n xs := by
 refine ⟨h.1, ?_⟩
 rcases h.2 with hn | ⟨g, cap, cur, hv, hb, hgg, rest⟩
 · exact .inl hn
 · subst hv
   exact .inr ⟨g, cap, cur, rfl, hb, (hc.block g (lt_of_block hgg) (h1 g rfl)).trans hgg, rest⟩
theorem own_cpm {W : World} {cb mb : Nat} {mark : Int} {away : Bool} {en : Ents} {base : Nat} {e : TypeId} {size n : Nat} {v : Value} {xs : List Value} (h : W.ownsRow base e size v n xs) (k : CpM W cb mb mark away en) (hne : 73 ≠ e) : ∀ g, v.ownBlock = some g → ¬ (g = cb ∨ g = mb) := by
 rintro g hg (e' | e')
 · exact own_ne_blk h k.blk hne (by rw [hg, e'])
 · exact own_ne_map h k.map (by rw [hg, e'])
theorem DoS.put {p : Nat × Nat} (h : DoS w W m sb nb a r L d M mc U uc) (hp : L[d]? = some p) (hc : CpM W' p.1 p.2 1 false ent1) (hg : Chs (fun b => b = p.1 ∨ b = p.2) W W') : DoS w W' m sb nb a r L (d + 1) M mc U uc := by
 have k := h.cp d p hp
 have hB := h.hL p (List.mem_of_getElem? hp)
 refine ⟨hg.blk h.mint (cpm_ne k h.mint (by decide)), ⟨hg.blk h.new.blk (cpm_ne k h.new.blk (by decide)), own_chs h.new.med hg (own_cpm h.new.med k (by decide)), own_chs h.new.abv hg (own_cpm h.new.abv k (by decide)), h.new.low⟩, own_chs h.own2 hg (own_cpm h.own2 k (by decide)), fun i q hq => ?_,
  hg.below h.low h.low.size (fun i e => by rcases e with e | e <;> rw [e] <;> first | exact hB.1 | exact hB.2), h.hm, h.hL, h.nod1, h.nod2⟩
 by_cases e : i = d
 · subst e
   rw [hp] at hq
   cases hq
   rw [if_pos (by omega)]
   exact hc
 · have cq := h.cp i q hq
   have h1 : q.1 ≠ p.1 := fun e' => by
    have hi : (L.map (·.1))[i]? = some q.1 := by rw [List.getElem?_map, hq]; rfl
    have hd : (L.map (·.1))[d]? = some q.1 := by rw [List.getElem?_map, hp, e']; rfl
    exact e ((List.getElem?_inj (List.getElem?_eq_some_iff.1 hi).1 h.nod1).1 (by rw [hi, hd]))
   have h2 : q.2 ≠ p.2 := fun e' => by
    have hi : (L.map (·.2))[i]? = some q.2 := by rw [List.getElem?_map, hq]; rfl
    have hd : (L.map (·.2))[d]? = some q.2 := by rw [List.getElem?_map, hp, e']; rfl
    exact e ((List.getElem?_inj (List.getElem?_eq_some_iff.1 hi).1 h.nod2).1 (by rw [hi, hd]))
   have h3 : q.2 ≠ p.1 := fun e' => cq.map.ne_blk k.blk e'.symm
   have h4 : q.1 ≠ p.2 := fun e' => k.map.ne_blk cq.blk e'
   have := hg.cpm cq (fun e => by rcases e with e | e <;> first | exact h1 e | exact h4 e) (fun e => by rcases e with e | e <;> first | exact h3 e | exact h2 e)
   by_cases hid : i < d
   · rw [if_pos hid] at this
     rw [if_pos (by omega)]; exact this
   · rw [if_neg hid] at this
     rw [if_neg (by omega)]; exact this
end
theorem putMG {W : World} {cb mb : Nat} (h : CpM W cb mb 1 false ent0) :
 Calls Tryz.prog 24 #[.pointer (some ⟨cb, 0, none⟩), .int .i64 0, .int .i64 1, .string sMG] W fun x w' => x = .returned (.int .i64 0) ∧ CpM w' cb mb 1 false ent1 ∧ Chs (fun b => b = cb ∨ b = mb) W w' := by
 refine (putF 0 1 sMG cb mb 1 false ent0 W h).mono fun e w' ⟨h1, h2, h3⟩ => ?_
 have h0 : putR false 1 0 1 sMG = 0 := by decide
 rw [h0] at h1 h2
 rcases h2 with ⟨h2, _⟩ | ⟨_, h2⟩
 · exact absurd rfl h2
 · exact ⟨h1, h2, h3⟩
set_option maxRecDepth 100000 in
set_option maxHeartbeats 4000000 in
theorem mintDo (w W0 : World) (m sb : Nat) (A : Option Addr) (c : Nat) (L : List (Nat × Nat)) (hml : MaxL w) (hlow : Below w.heap.size w W0) (hm : w.heap.size ≤ m) (hmint : MintB W0 m (.slice A 3 c) 1 sb (.slice none 0 0) false) (hst : Blk W0 sb 102 begC)
 (hown : W0.ownsRow w.heap.size 42 1 (.slice A 3 c) 3 (ptrs (L.map (·.1)))) (hcp : ∀ (i : Nat) (p : Nat × Nat), L[i]? = some p → CpM W0 p.1 p.2 1 false ent0) (hL : ∀ p ∈ L, w.heap.size ≤ p.1 ∧ w.heap.size ≤ p.2) (nod1 : (L.map (·.1)).Nodup) (nod2 : (L.map (·.2)).Nodup) :
 Calls Tryz.prog 8 #[.pointer (some ⟨m, 0, none⟩), .string sMG] W0 fun e w' => ∃ nb M mc U uc D dc, e = .returned (.tuple #[.string sMedal, .int .i64 0]) ∧ MintB w' m (.slice A 3 c) 1 nb (.slice D 1 dc) false ∧ StG w' nb w.heap.size M mc U uc ∧ Below w.heap.size w w' := by
 have hlen : L.length = 3 := by have := hown.1; simpa [ptrs] using this
 have HLEN := hid hlen
 have HN := hid (mintNone m _ _ sb _ _ W0 hmint)
 have HDO := hid (doMG sb W0 (hml.keep hlow) hst)
 have c2 := hmint.cell 2
 have c4 := hmint.cell 4
 simp only [List.getElem?_toArray, List.getElem?_cons_zero, List.getElem?_cons_succ] at c2 c4
 have HMI := hid hmint
 have HOWN := hid hown
 have HCP := hid hcp
 have HLW := hid hlow
 have HML := hid hml
 have HM := hid hm
 have HL := hid hL
 have N1 := hid nod1
 have N2 := hid nod2
 clear hml hlow hm hmint hst hown hcp hL nod1 nod2 hlen
 go_enter Tryz.func8, Tryz.ntmps8
 go_wp2_with fail
 refine (HN.out).mono ?_; rintro e w' ⟨rfl, rfl⟩
 go_wp2_with fail
 refine (HDO.out).mono ?_; rintro e w1 ⟨nb, M, mc, U, uc, rfl, hst1, b1⟩
 have HS1 := hid (show StG w1 nb w.heap.size M mc U uc from ⟨hst1.blk, own_more hst1.med HLW.out.size, own_more hst1.abv HLW.out.size, Nat.le_trans HLW.out.size hst1.low⟩)
 have HMI1 := hid (HMI.out.keep b1)
 have HOWN1 := hid (own_below HOWN.out b1)
 have HCP1 := hid fun (i : Nat) (p : Nat × Nat) (hp : L[i]? = some p) => (HCP.out i p hp).keep b1
 have HB1 := hid (below_call HLW.out b1 HLW.out.size)
 have d0 := HMI1.out.cell 0
 simp only [List.getElem?_toArray, List.getElem?_cons_zero] at d0
 have HIR := hid (inReachF A 3 c (L.map fun p => (p.1, false)) w1 (by omega) (by rw [List.map_map]; exact Sl.of_own HOWN1.out) (fun q hq => by
  obtain ⟨p, hp, rfl⟩ := List.mem_map.1 hq
  obtain ⟨i, hi⟩ := List.getElem?_of_mem hp
  have h := (HCP1.out i p hi).blk.cell 2
  simpa using h))
 rw [onL_all] at HIR
 have hll : (L.map (·.1)).length = 3 := by rw [List.length_map]; exact HLEN.out
 rw [hll] at HIR
 clear hst1 b1 c2 c4 HN HDO HMI HOWN HCP hll
 go_wp2_with fail
 refine (HIR.out).mono ?_; rintro e w2 ⟨A2, c2, rfl, ho2, b2⟩
 have J2 := hid (show DoS w w2 m sb nb (.slice A 3 c) (.slice A2 3 c2) L 0 M mc U uc from
  ⟨HMI1.out.keep b2, HS1.out.keep b2, own_more ho2 HB1.out.size, fun i p hp => by rw [if_neg (by omega)]; exact (HCP1.out i p hp).keep b2, below_call HB1.out b2 HB1.out.size, HM.out, HL.out, N1.out, N2.out⟩)
 have e0 := J2.out.mint.cell 0
 have e1 := J2.out.mint.cell 1
 have e3 := J2.out.mint.cell 3
 simp only [List.getElem?_toArray, List.getElem?_cons_zero, List.getElem?_cons_succ] at e0 e1 e3
 clear ho2 b2 d0 HIR HMI1 HOWN1 HCP1 HS1 HB1
 go_wp2_with fail
 refine (mostF A 3 c 3 w2 (by omega) (by omega)).mono ?_; rintro x w' ⟨rfl, rfl⟩
 go_wp2
 clear e0 e1 e3
 go_loopg [9, 59] 3 (fun gk v i wr => ∃ d : Nat, gk + d = 3 ∧ i = .int .i64 d ∧ v = .int .i64 d ∧ Hid (DoS w wr m sb nb (.slice A 3 c) (.slice A2 3 c2) L d M mc U uc))
 case atStart => exact ⟨0, rfl, rfl, rfl, J2⟩
 case round =>
  clear J2
  obtain ⟨d, hd, rfl, rfl, HJ⟩ := hrel
  have HD := hid hd
  by_cases hlt : d < 3
  · have HLT := hid hlt
    obtain ⟨b2, o2, u2, hA2, lb2, e2, ca2⟩ := (Sl.of_own HJ.out.own2).at hlt
    subst hA2
    obtain ⟨y2, hy2, rfl⟩ := Option.map_eq_some_iff.1 (show ((L.map (·.1))[d]?).map (fun b => Value.pointer (some ⟨b, 0, none⟩)) = some u2 by rw [← List.getElem?_map]; exact e2)
    rw [List.getElem?_map] at hy2
    obtain ⟨p, hp, rfl⟩ := Option.map_eq_some_iff.1 hy2
    have HP := hid hp
    have hcp := HJ.out.drew.cp d p hp
    rw [if_neg (by omega)] at hcp
    have HPU := hid (putMG hcp)
    have z1 := HJ.out.mint.cell 1
    have z3 := HJ.out.mint.cell 3
    simp only [List.getElem?_toArray, List.getElem?_cons_zero, List.getElem?_cons_succ] at z1 z3
    have hcap := (Sl.of_own HJ.out.own2).cap
    clear hd e2 hy2 lb2 hp hcp
    go_wp2_with fail
    go_region_held3 (fun w' => w'.cell? ⟨m, 1, none⟩ = some (.int .i64 1) ∧ w'.cell? ⟨m, 3, none⟩ = some (.slice none 0 0)) (first | assumption | (exact ⟨z1, z3⟩) | (exact HK.out)) (first
     | (go_at_call 24; refine (HPU.out).mono ?_; rintro e w5 ⟨rfl, hc5, hg5⟩; have J5 := hid (HJ.out.drew.put HP.out hc5 hg5); have HK := hid (And.intro (J5.out.mint.cell 1) (J5.out.mint.cell 3)); simp only [List.getElem?_toArray, List.getElem?_cons_zero, List.getElem?_cons_succ] at HK; clear hc5 hg5))
    all_goals go_wp2
    all_goals go_roundg (gk - 1)
    case measure => have := HD.out; have := HLT.out; omega
    case rel => exact ⟨d + 1, by have := HD.out; have := HLT.out; omega, by go_num, by go_num, J5⟩
  · obtain rfl : d = 3 := by have := HD.out; omega
    clear hd hlt
    have z0 := HJ.out.mint.cell 0
    have z2 := HJ.out.mint.cell 2
    have z3 := HJ.out.mint.cell 3
    have g2 := HJ.out.mint.free 2
    simp only [List.getElem?_toArray, List.getElem?_cons_zero, List.getElem?_cons_succ] at z0 z2 z3
    go_wp2_with fail
    refine (mostF A 3 c 3 wr (by omega) (by omega)).mono ?_; rintro x w' ⟨rfl, rfl⟩
    have M6 := hid (show MintB (wr.setCell ⟨m, 2, none⟩ (.pointer (some ⟨nb, 0, none⟩))) m (.slice A 3 c) 1 nb (.slice none 0 0) false from HJ.out.mint.set 2 _)
    have S6 := hid (show StG (wr.setCell ⟨m, 2, none⟩ (.pointer (some ⟨nb, 0, none⟩))) nb w.heap.size M mc U uc from
     ⟨HJ.out.new.blk.far (p := ⟨m, 2, none⟩) (blk_neM HJ.out.new.blk HJ.out.mint (by decide)) _, own_grown HJ.out.new.med HJ.out.mint (by decide) (setGrown wr ⟨m, 2, none⟩ _), own_grown HJ.out.new.abv HJ.out.mint (by decide) (setGrown wr ⟨m, 2, none⟩ _), HJ.out.new.low⟩)
    have L6 := hid (HJ.out.low.setCell (p := ⟨m, 2, none⟩) HJ.out.hm (.pointer (some ⟨nb, 0, none⟩)))
    have hs6 : (wr.setCell ⟨m, 2, none⟩ (.pointer (some ⟨nb, 0, none⟩))).heap.size = wr.heap.size := by simp
    have HS6 := hid hs6
    clear hs6
    go_wp2_with (at_builtin; refine push1P TS22 (wr.setCell ⟨m, 2, none⟩ (.pointer (some ⟨nb, 0, none⟩))) #[.string sMG] wr.heap.size 0 (.slice none 0 0) [] (World.ownsRow_nil _ _ _ _) _ _ wr.heap.size HS6.out rfl rfl rfl rfl rfl (by simp [Value.oneCell']) (by omega) (by omega) (by rw [HS6.out]; exact Nat.le_refl _) ?_; intro v1 w8 hown1 hgr; obtain ⟨D, dc, rfl⟩ := own_form hown1; have b8 := ((Below.refl (wr.setCell ⟨m, 2, none⟩ (.pointer (some ⟨nb, 0, none⟩))).heap.size (wr.setCell ⟨m, 2, none⟩ (.pointer (some ⟨nb, 0, none⟩)))).alloc (Nat.le_refl _) (.cells #[.string sMG] 9)).grown hgr (by simp) (fun k hk => by simp [Value.ownBlock] at hk); have M8 := hid (M6.out.keep b8); have S8 := hid (S6.out.keep b8); have L8 := hid (below_call L6.out b8 L6.out.size); have q3 := M8.out.cell 3; have g3 := M8.out.free 3; simp only [List.getElem?_toArray, List.getElem?_cons_zero, List.getElem?_cons_succ] at q3; have M9 := hid (show MintB (w8.setCell ⟨m, 3, none⟩ (.slice D 1 dc)) m (.slice A 3 c) 1 nb (.slice D 1 dc) false from M8.out.set 3 _); have S9 := hid (show StG (w8.setCell ⟨m, 3, none⟩ (.slice D 1 dc)) nb w.heap.size M mc U uc from ⟨S8.out.blk.far (p := ⟨m, 3, none⟩) (blk_neM S8.out.blk M8.out (by decide)) _, own_grown S8.out.med M8.out (by decide) (setGrown w8 ⟨m, 3, none⟩ _), own_grown S8.out.abv M8.out (by decide) (setGrown w8 ⟨m, 3, none⟩ _), S8.out.low⟩); have L9 := hid (L8.out.setCell (p := ⟨m, 3, none⟩) HM.out (.slice D 1 dc)); have HWD := hid (word_MG _ (HML.out.keep L9.out)); clear hown1 hgr b8)
    refine (HWD.out).mono ?_; rintro e w' ⟨rest, ok, kk, rfl, rfl⟩
    have M10 := hid (M9.out.drewN kk)
    have S10 := hid (S9.out.keep (below_drewN (Below.refl _ _) kk))
    have L10 := hid (below_drewN L9.out kk)
    clear HWD
    go_wp2
    go_ret2
    exact ⟨nb, M, mc, U, uc, D, dc, rfl, M10.out, S10.out, L10.out⟩
end Go.Proofs.YtciadmjdadnolaaGreatDoor
/- Walks of order's Lines at one element, of roll, and of ask and Ask at 'roll'. Conditions: the library's table of 64 numbers and MaxLen stand in their variables. -/
namespace Go.Proofs.YtciadmjdadnolaaGreatDoor
open Go.RowKit Go.Maps
set_option maxRecDepth 100000 in
set_option maxHeartbeats 4000000 in
theorem linesF (A : Option Addr) (c : Nat) (w : World) (hs : Sl w A 1 c [.int .i64 0]) (hT : Tab w) :
 Calls Tryz.prog 108 #[.slice A 1 c] w fun e w' => ∃ O oc R rc, e = .returned (.tuple #[.slice O 1 oc, .int .i64 0]) ∧ w'.ownsRow w.heap.size 89 1 (.slice O 1 oc) 1 [.slice R 1 rc] ∧ w'.ownsRow w.heap.size 3 1 (.slice R 1 rc) 1 [.int .i64 0] ∧ Below w.heap.size w w' := by
 have HR := hid (orderRead1 A c w hs hT)
 have HT := hid hT
 clear hs hT
 unfold ord1 at HR
 go_enter Tryz.func108, Tryz.ntmps108
 go_wp2_with fail
 refine (HR.out).mono ?_; rintro e w1 ⟨rfl, b1⟩
 have HL := hid (linesOne (w1.alloc (.cells #[.int .i64 1, .int .i64 0, .int .i64 0, .int .i64 0, .int .i64 0, .int .i64 0, .int .i64 0] 150)) ((HT.out.below b1).below ((Below.refl _ w1).alloc (Nat.le_refl _) _)))
 have HB := hid (b1.alloc b1.size (.cells #[.int .i64 1, .int .i64 0, .int .i64 0, .int .i64 0, .int .i64 0, .int .i64 0, .int .i64 0] 150))
 unfold ord1 at HL
 clear b1 HR
 go_wp2_with fail
 refine (HL.out).mono ?_; rintro e w2 ⟨O, oc, R, rc, rfl, h2, h3, b2⟩
 have H2 := hid (own_more h2 HB.out.size)
 have H3 := hid (own_more h3 HB.out.size)
 have HB2 := hid (below_call HB.out b2 HB.out.size)
 clear h2 h3 b2 HL
 go_wp2
 go_ret2
 exact ⟨O, oc, R, rc, rfl, H2.out, H3.out, HB2.out⟩
set_option maxRecDepth 100000 in
set_option maxHeartbeats 4000000 in
theorem rollF (A0 : Option Addr) (q0 : Nat) (nb B : Nat) (M : Option Addr) (mc : Nat) (U : Option Addr) (uc : Nat) (w : World) (h : StG w nb B M mc U uc) (hT : Tab w) :
 Calls Tryz.prog 74 #[.pointer (some ⟨nb, 0, none⟩), .agg #[.slice A0 0 q0, .slice none 0 0]] w fun e w' => e = .returned (.tuple #[.string ⟨#[114, 111, 108, 108, 32, 103, 111, 108, 100]⟩, .int .i64 0]) ∧ Below w.heap.size w w' := by
 have HS := hid (h.keep ((Below.refl _ w).alloc (Nat.le_refl _) (.cells #[.slice A0 0 q0, .slice none 0 0] 91)))
 have HB := hid ((Below.refl w.heap.size w).alloc (Nat.le_refl _) (.cells #[.slice A0 0 q0, .slice none 0 0] 91))
 have HT := hid (hT.below HB.out)
 clear h hT
 go_enter Tryz.func74, Tryz.ntmps74
 have c0 := HS.out.blk.cell 0
 have c1 := HS.out.blk.cell 1
 simp only [stC, List.getElem?_toArray, List.getElem?_cons_zero, List.getElem?_cons_succ] at c0 c1
 go_wp2_with fail
 generalize w.alloc (.cells #[.slice A0 0 q0, .slice none 0 0] 91) = W at *
 have HL := hid (linesF U uc W (Sl.of_own HS.out.abv) HT.out)
 clear c0 c1
 refine (HL.out).mono ?_; rintro e w2 ⟨O, oc, R, rc, rfl, h2, h3, b2⟩
 have HS2 := hid (HS.out.keep b2)
 have H3 := hid h3
 have H2 := hid h2
 have HB2 := hid (below_call HB.out b2 HB.out.size)
 clear h2 h3 b2 HL HS HT HB
 go_wp2_with fail
 have c0 := HS2.out.blk.cell 0
 simp only [stC, List.getElem?_toArray, List.getElem?_cons_zero] at c0
 obtain ⟨bo, oo, u, hO, lb, e1, ca⟩ := (Sl.of_own H2.out).at (k := 0) (by omega)
 subst hO
 simp only [List.getElem?_cons_zero, Option.some.injEq, Nat.add_zero] at e1 ca
 subst e1
 have hnm := namedF ⟨#[114, 111, 108, 108]⟩ M 1 mc [sGold] R 1 rc [0] w2.drew (Sl.of_own HS2.out.med).drew (Sl.of_own H3.out).drew (fun i hi => by simp at hi; omega) (by decide) (fun s hs => by simp at hs; subst hs; decide) (by omega)
 rw [show nmd ⟨#[114, 111, 108, 108]⟩ [sGold] [0] = ⟨#[114, 111, 108, 108, 32, 103, 111, 108, 100]⟩ from by kernel_rfl] at hnm
 have HNM := hid hnm
 have hcap := (Sl.of_own H2.out).cap
 clear lb hnm
 go_region_held3 (fun w' => w'.cell? ⟨nb, 0, none⟩ = some (.slice M 1 mc) ∧ w'.cell? ⟨bo, oo, none⟩ = some (.slice R 1 rc)) (first | exact ⟨c0, ca⟩ | assumption) (first
  | (go_at_call 109; refine (HNM.out).mono ?_; rintro e w5 ⟨rfl, rfl⟩))
 all_goals go_wp2
 all_goals go_ret2
 exact ⟨rfl, HB2.out.drew⟩
set_option maxRecDepth 100000 in
set_option maxHeartbeats 4000000 in
theorem askR (nb B : Nat) (M : Option Addr) (mc : Nat) (U : Option Addr) (uc : Nat) (w : World) (h : StG w nb B M mc U uc) (hT : Tab w) (hm : MaxL w) :
 Calls Tryz.prog 41 #[.pointer (some ⟨nb, 0, none⟩), .string sRoll] w fun e w' => e = .returned (.tuple #[.string ⟨#[114, 111, 108, 108, 32, 103, 111, 108, 100]⟩, .int .i64 0]) ∧ Below w.heap.size w w' := by
 have HC := hid (questionsF w)
 have HM := hid hm
 have HS := hid h
 have HT := hid hT
 have he : ∀ args W, (callFunc 74 args).run Tryz.prog W = .ok (.enter 74 args) W := fun args W => enters Tryz.func74 (by kernel_rfl) rfl args W
 clear hm h hT
 go_enter Tryz.func41, Tryz.ntmps41
 go_wp2_with fail
 refine (HC.out).mono ?_; rintro e w1 ⟨bm, rfl, hmap, hb, b1⟩
 have HB1 := hid b1
 have HF := hid (findAsk bm (asS questionsL) sRoll sRoll 0 0 74 0 [] w1 (HM.out.keep b1) hmap word_R (by kernel_rfl) (key_str _ (by decide)) (read_R _ _) line_R)
 clear hmap hb b1 HC
 go_wp2_with fail
 refine (HF.out).mono ?_; rintro e w2 ⟨A, c, rfl, ho, b2⟩
 have HB2 := hid (below_call HB1.out b2 HB1.out.size)
 clear ho b2 HF
 have b3 := (HB2.out.alloc HB2.out.size (.cells #[.int .i64 0, .int .i64 0, .nilFunc, .func (.func 74) #[] #[]] 88)).alloc (by have := HB2.out.size; simp; omega) (.cells #[.slice A 0 c, .slice none 0 0] 91)
 have HRO := hid (rollF A c nb B M mc U uc _ (HS.out.keep b3) (HT.out.below b3))
 have HB3 := hid b3
 clear b3
 go_wp2_with fail
 refine (HRO.out).mono ?_; rintro e w4 ⟨rfl, b4⟩
 have HB4 := hid (below_call HB3.out b4 HB3.out.size)
 clear b4
 go_wp2
 go_ret2
 exact ⟨rfl, HB4.out⟩
set_option maxRecDepth 100000 in
set_option maxHeartbeats 4000000 in
theorem mintAsk (m : Nat) (a : Value) (k : Int) (nb B : Nat) (d : Value) (M : Option Addr) (mc : Nat) (U : Option Addr) (uc : Nat) (w : World) (hmi : MintB w m a k nb d false) (h : StG w nb B M mc U uc) (hT : Tab w) (hm : MaxL w) :
 Calls Tryz.prog 32 #[.pointer (some ⟨m, 0, none⟩), .string sRoll] w fun e w' => e = .returned (.tuple #[.string ⟨#[114, 111, 108, 108, 32, 103, 111, 108, 100]⟩, .int .i64 0]) ∧ Below w.heap.size w w' := by
 have HN := hid (mintNone m a k nb d false w hmi)
 have HA := hid (askR nb B M mc U uc w h hT hm)
 have c2 := hmi.cell 2
 simp only [List.getElem?_toArray, List.getElem?_cons_zero, List.getElem?_cons_succ] at c2
 clear hmi h hT hm
 go_enter Tryz.func32, Tryz.ntmps32
 go_wp2_with fail
 refine (HN.out).mono ?_; rintro e w' ⟨rfl, rfl⟩
 go_wp2_with fail
 refine (HA.out).mono ?_; rintro e w2 ⟨rfl, b2⟩
 have HB2 := hid b2
 clear b2
 go_wp2
 go_ret2
 exact ⟨rfl, HB2.out⟩
end Go.Proofs.YtciadmjdadnolaaGreatDoor
/- Walk of awake: a mint on three new copies takes a medal, and rolls it. Conditions: the library's table of 64 numbers and MaxLen stand in their variables. -/
namespace Go.Proofs.YtciadmjdadnolaaGreatDoor
open Go.RowKit Go.Maps
set_option maxRecDepth 100000 in
set_option maxHeartbeats 4000000 in
theorem awakeF (w : World) (hT : Tab w) (hm : MaxL w) :
 Calls Tryz.prog 13 #[] w fun e w' => e = .returned (.bool true) ∧ Below w.heap.size w w' := by
 have HC := hid (copies3 w)
 have HT := hid hT
 have HM := hid hm
 clear hT hm
 go_enter Tryz.func13, Tryz.ntmps13
 go_wp2_with fail
 refine (HC.out).mono ?_; rintro e w1 ⟨a, r, rfl, ⟨L, M, h1, h2, h3, h4, h5⟩, b1⟩
 obtain ⟨A, c, rfl⟩ := own_form h1
 have HB1 := hid b1
 have HL := hid h3
 have HLEN := hid (show L.length = 3 from by have := h1.1; simpa [ptrs] using this)
 have HO := hid (openNew A 3 c L w.heap.size w1 (Or.inl rfl) (Sl.of_own h1) h3)
 clear h1 h2 h3 h4 h5 b1 HC
 go_wp2_with fail
 refine (HO.out).mono ?_; rintro e w2 ⟨m, sb, a2, r2, rfl, hop⟩
 obtain ⟨A2, c2, rfl⟩ := own_form hop.own1
 have hlow : Below w.heap.size w w2 := hop.chs.below HB1.out HB1.out.size (fun i hi => by
  obtain ⟨p, hp, rfl⟩ := List.mem_map.1 hi
  exact (HL.out.cpm p hp).2.1)
 have HLO := hid hlow
 have HDO := hid (mintDo w w2 m sb A2 c2 L HM.out hlow (Nat.le_trans HB1.out.size hop.hm) hop.mint hop.st (own_more hop.own1 HB1.out.size) (fun i p hp => by
  have := hop.cp i p hp
  rwa [if_pos (by have := (List.getElem?_eq_some_iff.1 hp).1; have := HLEN.out; omega)] at this) (fun p hp => (HL.out.cpm p hp).2) HL.out.nod1 HL.out.nod2)
 clear hop hlow HO
 go_wp2_with fail
 refine (HDO.out).mono ?_; rintro e w3 ⟨nb, M1, mc, U, uc, D, dc, rfl, hmi, hst, b3⟩
 have HA := hid (mintAsk m _ 1 nb w.heap.size _ M1 mc U uc w3 hmi hst (HT.out.below b3) (HM.out.keep b3))
 have HB3 := hid b3
 clear hmi hst b3 HDO
 go_wp2_with fail
 refine (HA.out).mono ?_; rintro e w4 ⟨rfl, b4⟩
 have HB4 := hid (below_call HB3.out b4 HB3.out.size)
 clear b4 HA
 go_wp2
 go_ret
 exact ⟨rfl, HB4.out⟩
end Go.Proofs.YtciadmjdadnolaaGreatDoor
