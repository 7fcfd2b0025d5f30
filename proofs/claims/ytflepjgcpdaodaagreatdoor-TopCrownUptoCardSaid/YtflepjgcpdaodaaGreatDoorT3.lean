/- Plain law of TopCrown: what the journal says of the players, as lists. No condition. -/
import Derived.Test.YtflepjgcpdaodaaGreatDoorO36
import Derived.Test.YtflepjgcpdaodaaGreatDoorT2
namespace Go.Proofs.YtflepjgcpdaodaaGreatDoor
open Go.RowKit Go.Maps
/-- What a line does to players and results, in the law's words. -/
inductive TopL (s : Bk) (x : ByteArray) (s' : Bk) : Prop
 | player (v : ByteArray) : wordOf x = sPlayer → parts x = [sPlayer, v] → s.players.length < 8 → s'.players = s.players ++ [v] → s'.beats = s.beats.map (fun t => bits .or .i64 t (p2 s.beats.length)) ++ [0] → TopL s x s'
 | beat (v k : ByteArray) (a c : Nat) : wordOf x = sBeat → parts x = [sBeat, v, k] → idxZ s.players v = a → idxZ s.players k = c → a < s.players.length → c < s.players.length → a ≠ c → s'.players = s.players → s'.beats = putI (putI s.beats a (fun t => bits .or .i64 t (p2 c))) c (fun t => bits .andNot .i64 t (p2 a)) → TopL s x s'
 | other : wordOf x ≠ sPlayer → wordOf x ≠ sBeat → s'.players = s.players → s'.beats = s.beats → TopL s x s'
theorem topL {s s' : Bk} {x : ByteArray} (hb : BkT s) (h : KindL s x s') : TopL s x s' := by
 cases h with
 | medal v h1 h2 h3 => exact .other (word_no h1 (by decide)) (word_no h1 (by decide)) (by unfold medalL; split <;> rfl) (beats_medal s v)
 | above v k h1 h2 h3 => exact .other (word_no h1 (by decide)) (word_no h1 (by decide)) (by unfold rankL; split <;> first | (split <;> rfl) | rfl) (beats_rank s v k)
 | batch a b c d h1 h2 h3 => exact .other (word_no h1 (by decide)) (word_no h1 (by decide)) (by unfold layL; split <;> rfl) (beats_lay s a b c d)
 | pan a b c d h1 h2 h3 => exact .other (word_no h1 (by decide)) (word_no h1 (by decide)) (by unfold panL; split <;> rfl) (beats_pan s a b c d)
 | bet v k h1 h2 h3 => exact .other (word_no h1 (by decide)) (word_no h1 (by decide)) (by unfold betL; split <;> first | rfl | (split <;> first | rfl | (split <;> rfl))) (beats_bet s v k)
 | player v h1 h2 h3 =>
  have hw : wordOf x = sPlayer := word_is h1 rfl
  have hp := lineL_parts h2 rfl
  rw [hw] at hp
  unfold playerL at h3 ⊢
  have hbl := hb.bk.1.bea
  by_cases he : (enterL s.players v 8).2 = 0
  · rw [if_pos he]
    have h4 := enterL_len he
    have h5 := hb.bk.1.pla
    have h6 : (enterL s.players v 8).1 = s.players ++ [v] := by
     unfold enterL at he ⊢
     by_cases e1 : v ∈ s.players
     · rw [if_pos e1] at he; cases he
     · by_cases e2 : s.players.length = 8
       · rw [if_neg e1, if_pos e2] at he; cases he
       · rw [if_neg e1, if_neg e2]
    exact .player v hw hp (by omega) h6 rfl
  · rw [if_neg he] at h3
    exact absurd h3 he
 | beat v k h1 h2 h3 =>
  have hw : wordOf x = sBeat := word_is h1 rfl
  have hp := lineL_parts h2 rfl
  rw [hw] at hp
  have hbl := hb.bk.1.bea
  have b1 := idxZ_bd v s.players
  have b2 := idxZ_bd k s.players
  unfold beatL at h3 ⊢
  by_cases e1 : 0 ≤ idxZ s.players v ∧ 0 ≤ idxZ s.players k
  · rw [if_pos e1] at h3 ⊢
    by_cases e2 : idxZ s.players v = idxZ s.players k ∨ bitV (s.beats.getD (idxZ s.players v).toNat 0) (idxZ s.players k) = 1
    · rw [if_pos e2] at h3; cases h3
    · rw [if_neg e2]
      simp only [not_or] at e2
      obtain ⟨a, ha⟩ := Int.eq_ofNat_of_zero_le e1.1
      obtain ⟨c, hc⟩ := Int.eq_ofNat_of_zero_le e1.2
      have hac : a ≠ c := by omega
      exact .beat v k a c hw hp ha hc (by omega) (by omega) hac rfl (by simp only [ha, hc, Int.toNat_natCast])
  · rw [if_neg e1] at h3; cases h3
/-- What stands while the journal is read: names and results, rows of the call's own. -/
structure TcS (w3 W : World) (N : Option Addr) (nc : Nat) (names : List ByteArray) (T : Option Addr) (tc n : Nat) (tl : List Int) : Prop where
 low : Below w3.heap.size w3 W
 nm : W.ownsRow w3.heap.size 9 1 (.slice N names.length nc) names.length (strV names)
 tt : W.ownsRow w3.heap.size 3 1 (.slice T n tc) n (intV tl)
section
variable {w3 W W' : World} {N N' T T' : Option Addr} {nc nc' tc tc' n n' : Nat} {names names' : List ByteArray} {tl tl' : List Int}
theorem TcS.below (h : TcS w3 W N nc names T tc n tl) (hb : Below W.heap.size W W') : TcS w3 W' N nc names T tc n tl := ⟨below_call h.low hb h.low.size, own_below h.nm hb, own_below h.tt hb⟩
theorem TcS.len (h : TcS w3 W N nc names T tc n tl) : tl.length = n := by have := h.tt.1; simpa [intV] using this
theorem TcS.pushN (h : TcS w3 W N nc names T tc n tl) (hg : W.grownBy W' (Value.slice N names.length nc).ownBlock) (ho : W'.ownsRow w3.heap.size 9 1 (.slice N' names'.length nc') names'.length (strV names')) : TcS w3 W' N' nc' names' T tc n tl :=
 ⟨h.low.grown hg h.low.size (fun k hk => (h.nm.lt k hk).1), ho, h.tt.kept hg (own_apart2 h.tt h.nm (by decide))⟩
theorem TcS.pushT (h : TcS w3 W N nc names T tc n tl) (hg : W.grownBy W' (Value.slice T n tc).ownBlock) (ho : W'.ownsRow w3.heap.size 3 1 (.slice T' n' tc') n' (intV tl')) : TcS w3 W' N nc names T' tc' n' tl' :=
 ⟨h.low.grown hg h.low.size (fun k hk => (h.tt.lt k hk).1), h.nm.kept hg (own_apart2 h.nm h.tt (by decide)), ho⟩
theorem TcS.set {g : Nat} (h : TcS w3 W N nc names (some ⟨g, 0, none⟩) tc n tl) {i : Nat} (hi : i < tl.length) (v : Int) : TcS w3 (W.setCell ⟨g, i, none⟩ (.int .i64 v)) N nc names (some ⟨g, 0, none⟩) tc n (tl.set i v) :=
 ⟨h.low.setCell (p := ⟨g, i, none⟩) (h.tt.lt g rfl).1 _, own_other h.nm _ _ (fun k hk e => by
  rcases own_apart2 h.nm h.tt (by decide) with h1 | h1
  · rw [hk] at h1; cases h1
  · exact h1 (by rw [hk, e]; rfl)), by
  have := own_set h.tt (i := i) (.int .i64 v) (by unfold intV; rw [List.length_map]; exact hi)
  unfold intV at *
  rw [List.map_set]
  exact this⟩
/-- Where a result lies. -/
theorem TcS.at (h : TcS w3 W N nc names T tc n tl) {i : Nat} (hi : i < n) : ∃ g, T = some ⟨g, 0, none⟩ ∧ W.cell? ⟨g, i, none⟩ = some (.int .i64 (tl.getD i 0)) ∧ W.frozen? ⟨g, i, none⟩ = false ∧ n ≤ tc ∧ tc ≤ maxLen := by
 have hl := h.len
 obtain ⟨_, hh⟩ := h.tt
 rcases hh with ⟨hv, h0⟩ | ⟨g, c, cur, hv, hg⟩
 · simp at hv
   omega
 · simp at hv
   obtain ⟨rfl, _⟩ := hv
   refine ⟨g, rfl, own_at h.tt (by unfold intV; rw [List.getElem?_map, List.getD_eq_getElem?_getD, List.getElem?_eq_getElem (by omega)]; rfl), own_free h.tt i, own_cap h.tt⟩
end
/-- Words on numbers, joined: one step. -/
theorem mixL {l : List Int} {q : Nat} (hq : q < l.length) (f : Int → Int) : ((l.take q).map f ++ l.drop q).getD q 0 = l.getD q 0 ∧ ((l.take q).map f ++ l.drop q).set q (f (l.getD q 0)) = (l.take (q + 1)).map f ++ l.drop (q + 1) ∧ ((l.take q).map f ++ l.drop q).length = l.length := by
 have h1 : ((l.take q).map f ++ l.drop q).length = l.length := by rw [List.length_append, List.length_map, List.length_take, List.length_drop]; omega
 have h2 : ((l.take q).map f).length = q := by rw [List.length_map, List.length_take]; omega
 have h3 : ((l.take q).map f ++ l.drop q).getD q 0 = l.getD q 0 := by
  rw [List.getD_eq_getElem?_getD, List.getElem?_append_right (by omega), h2, Nat.sub_self, List.getElem?_drop, Nat.add_zero, ← List.getD_eq_getElem?_getD]
 refine ⟨h3, ?_, h1⟩
 have h4 := step_map f l _ q hq rfl (by omega)
 rw [← h4]
 congr 2
 rw [← h3, List.getD_eq_getElem?_getD, List.getElem?_eq_getElem (by omega)]
 rfl
end Go.Proofs.YtflepjgcpdaodaaGreatDoor
