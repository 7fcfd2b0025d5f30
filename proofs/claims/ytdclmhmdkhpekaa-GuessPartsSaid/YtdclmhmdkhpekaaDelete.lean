/- Contract of slices.DeleteFunc on a slice of ints that the call owns. Conditions: the slice reads as a list; the function value tells a predicate whatever the slice holds. -/
import Derived.Test.YtdclmhmdkhpekaaSolveK
import Derived.Lib.SliceRun
namespace Go.Proofs.Ytdclmhmdkhpekaa
open Go.RowKit Go.Maps

theorem setCells_grow (b : Nat) : ∀ (vs : List Value) (o : Nat) (w : World), w.grownBy (w.setCells b o vs) (some b)
  | [], o, w => gr_refl _ _
  | v :: r, o, w => by
    rw [World.setCells]
    refine gr_trans ?_ (setCells_grow b r (o + 1) _)
    exact ⟨rfl, rfl, rfl, by simp, fun k _ hk => Below.heap_setCell w ⟨b, o, none⟩ v k (fun e => hk (by rw [e]))⟩
theorem setCells_blk (b : Nat) (t : TypeId) : ∀ (vs : List Value) (o : Nat) (w : World) (cs : Array Value), Blk w b t cs → ∃ cs', Blk (w.setCells b o vs) b t cs' ∧ cs'.size = cs.size ∧ ∀ k, k < o → cs'[k]? = cs[k]?
  | [], o, w, cs, h => ⟨cs, h, rfl, fun _ _ => rfl⟩
  | v :: r, o, w, cs, h => by
    rw [World.setCells]
    obtain ⟨cs', h1, h2, h3⟩ := setCells_blk b t r (o + 1) _ _ (h.set o v)
    refine ⟨cs', h1, by simpa using h2, fun k hk => ?_⟩
    rw [h3 k (by omega), Array.getElem?_setIfInBounds, if_neg (by omega)]
theorem own_parts {w : World} {base g n c : Nat} {xs : List Int} (h : w.ownsRow base 3 1 (.slice (some ⟨g, 0, none⟩) n c) n (xs.map (Value.int .i64))) : ∃ cur : Array Value, Blk w g 3 cur ∧ base ≤ g ∧ n ≤ c ∧ c ≤ maxLen ∧ cur.size = c ∧ xs.length = n ∧ ∀ (k : Nat) (x : Int), xs[k]? = some x → cur[k]? = some (Value.int .i64 x) := by
  have hl : xs.length = n := by have := h.1; simpa using this
  rcases h.2 with ⟨hv, _⟩ | ⟨g', cap, cur, hv, hb, hg, hc, hm, hs, ht⟩
  · simp at hv
  · simp at hv
    obtain ⟨rfl, rfl⟩ := hv
    refine ⟨cur, hg, hb, hc, hm, by omega, hl, fun k x hx => ?_⟩
    have hk : k < n := by have := (List.getElem?_eq_some_iff.1 hx).1; omega
    have e : (cur.toList.take (n * 1))[k]? = (xs.map (Value.int .i64))[k]? := by rw [ht]
    rw [List.getElem?_take_of_lt (by omega), List.getElem?_map, hx] at e
    simpa using e
theorem own_mk {w : World} {base g n c : Nat} {xs : List Int} {cur : Array Value} (hg : Blk w g 3 cur) (hb : base ≤ g) (hn : n ≤ c) (hm : c ≤ maxLen) (hs : cur.size = c) (hl : xs.length = n) (hx : ∀ (k : Nat) (x : Int), xs[k]? = some x → cur[k]? = some (Value.int .i64 x)) :
    w.ownsRow base 3 1 (.slice (some ⟨g, 0, none⟩) n c) n (xs.map (Value.int .i64)) := by
  refine ⟨by simp [hl], .inr ⟨g, c, cur, rfl, hb, hg, hn, hm, by omega, ?_⟩⟩
  apply List.ext_getElem?
  intro k
  rw [List.getElem?_take]
  by_cases hk : k < n
  · rw [if_pos (by omega), List.getElem?_map, List.getElem?_eq_getElem (show k < xs.length by omega)]
    have := hx k _ (List.getElem?_eq_getElem (show k < xs.length by omega))
    simpa using this
  · rw [if_neg (by omega), List.getElem?_eq_none (by simp; omega)]

/-- A function value that tells f whatever lies in block row. -/
structure TellsO (w : World) (row : Option Nat) (g : Nat) (lb : Array Value) (xs : List Int) (f : Int → Bool) : Prop where
  ent : ∀ args W, (callFunc g args).run Try.prog W = .ok (.enter g args) W
  run : ∀ x, x ∈ xs → ∀ W, w.grownBy W row → Calls Try.prog g (#[.int .i64 x] ++ lb) W fun e W' => e = .returned (.bool (f x)) ∧ Below W.heap.size W W'

theorem idxf_split {f : Int → Bool} : ∀ {xs : List Int}, (idxf f xs = -1 ∧ xs.filter (fun x => !f x) = xs) ∨ ∃ (k : Nat) (x : Int), idxf f xs = k ∧ xs[k]? = some x ∧ f x = true ∧ (xs.take k).filter (fun x => !f x) = xs.take k := by
  intro xs
  induction xs with
  | nil => left; exact ⟨rfl, rfl⟩
  | cons x l ih =>
    cases hx : f x
    · rcases ih with ⟨h1, h2⟩ | ⟨k, y, h1, h2, h3, h4⟩
      · left
        refine ⟨by simp [idxf, hx, h1], ?_⟩
        rw [List.filter_cons_of_pos (by simp [hx]), h2]
      · right
        refine ⟨k + 1, y, ?_, by simpa using h2, h3, ?_⟩
        · have : ¬ idxf f l = -1 := by omega
          simp only [idxf, hx, Bool.false_eq_true, if_false, h1]
          omega
        · rw [List.take_succ_cons, List.filter_cons_of_pos (by simp [hx]), h4]
    · right
      exact ⟨0, x, by simp [idxf, hx], rfl, hx, by simp⟩

set_option maxRecDepth 100000 in
set_option maxHeartbeats 4000000 in
theorem deleteFunc (base : Nat) (A : Option Addr) (n c : Nat) (xs : List Int) (g : Nat) (lb : Array Value) (f : Int → Bool) (w : World) (ho : w.ownsRow base 3 1 (.slice A n c) n (xs.map (Value.int .i64))) (hn : n ≤ 1000) (hf : TellsO w (Value.slice A n c).ownBlock g lb xs f) :
    Calls Try.prog 92 #[.slice A n c, .func (.func g) #[] lb] w fun e w' => (∃ A' m c', e = .returned (.slice A' m c') ∧ w'.ownsRow base 3 1 (.slice A' m c') m ((xs.filter fun x => !f x).map (Value.int .i64))) ∧ w.grownBy w' (Value.slice A n c).ownBlock := by
  have HC := hid (indexFunc2 (fun W => Below w.heap.size w W) A n c xs g lb f w (Below.refl _ _) (fun W hW => (Sl.of_own ho).below hW) ⟨hf.ent, fun x hx W hW => (hf.run x hx W (gr_below hW)).mono fun e W' ⟨he, hb⟩ => ⟨he, below_call hW hb hW.size⟩⟩)
  have HF := hid hf.run
  have he := hf.ent
  have HO := hid ho
  clear hf ho
  rcases @idxf_split f xs with ⟨h1, h2⟩ | ⟨k0, x0, h1, h2, h3, h4⟩
  · rw [h1] at HC
    have H2 := hid h2
    clear h1 h2
    go_enter Try.func92, Try.ntmps92
    go_wp2_with (go_at_call 70; refine (HC.out).mono ?_; rintro e w1 ⟨⟨k, rfl, rfl⟩, hb1⟩; have HB1 := hid hb1; clear hb1)
    go_ret
    exact ⟨⟨A, n, c, rfl, by rw [H2.out]; exact own_below HO.out HB1.out⟩, gr_below HB1.out⟩
  · rw [h1] at HC
    have hk0 : k0 < n := by have := (List.getElem?_eq_some_iff.1 h2).1; have h := HO.out.1; simp at h; omega
    have H3 := hid h3; have H4 := hid h4
    have hx2 := hid h2
    obtain ⟨gb, rfl⟩ : ∃ gb, A = some ⟨gb, 0, none⟩ := by
      rcases HO.out.2 with ⟨hv, hz⟩ | ⟨g', cap, cur, hv, _⟩
      · omega
      · simp at hv; exact ⟨g', hv.1⟩
    have hne1 : ((k0 : Int) == -1) = false := beq_eq_false_iff_ne.2 (by omega)
    have hz0 : ∀ W : World, (zeroValue 3).run Try.prog W = .ok (.int .i64 0) W := by intro W; simp [go_sem]
    have HZ0 := hid hz0
    clear h1 h2 h3 h4 hz0
    go_enter Try.func92, Try.ntmps92
    go_wp2_with (go_at_call 70; refine (HC.out).mono ?_; rintro e w1 ⟨⟨k, rfl, rfl⟩, hb1⟩; have HB1 := hid hb1; clear hb1)
    go_loopg [5, 6, 7] n (fun g i j _ wr => ∃ (a b : Nat) (ys : List Int), n ≤ g + b ∧ a < b ∧ b ≤ n ∧ i = .int .i64 a ∧ j = .int .i64 b ∧ Hid (wr.ownsRow base 3 1 (.slice (some ⟨gb, 0, none⟩) n c) n (ys.map (Value.int .i64))) ∧ Hid (ys.take a = (xs.take b).filter fun x => !f x) ∧ Hid (ys.drop b = xs.drop b) ∧ Hid (w.grownBy wr (some gb)))
    case atStart =>
      refine ⟨k0, k0 + 1, xs, by omega, by omega, by omega, rfl, by go_num, hid (own_below HO.out HB1.out), hid ?_, hid rfl, hid (gr_below HB1.out)⟩
      rw [List.take_add_one, hx2.out, List.filter_append, H4.out]
      simp [H3.out]
    case round =>
      obtain ⟨a, b, ys, hgb, hab, hbn, rfl, rfl, hO, hT, hD, hG⟩ := hrel
      have HGB := hid hgb
      obtain ⟨cur, hblk, hbg, hnc, hcm, hcs, hyl, hcur⟩ := own_parts hO.out
      have HYL := hid hyl
      by_cases hlt : b < n
      · have hxl : xs.length = n := by have := HO.out.1; simpa using this
        have hyb : ys[b]? = xs[b]? := by
          have := congrArg (fun l : List Int => l[0]?) hD.out
          simpa using this
        have hxb : xs[b]? = some xs[b] := List.getElem?_eq_getElem (by omega)
        generalize hxx : xs[b] = x at hxb
        have hcb := hcur b x (hyb.trans hxb)
        have hca := hcur a ys[a] (List.getElem?_eq_getElem (by omega))
        have c1 : wr.cell? ⟨gb, b, none⟩ = some (.int .i64 x) := (hblk.cell b).trans hcb
        have c2 : wr.cell? ⟨gb, a, none⟩ = some (.int .i64 ys[a]) := (hblk.cell a).trans hca
        have hcall := HF.out x (List.mem_of_getElem? hxb) wr hG.out
        have f2 := hblk.free a
        have HXB := hid hxb
        have HB := hid hblk
        have HCU := hid hcur
        generalize ys[a] = old at *
        have HC1 := hid c1
        clear hgb hyb hxx hcb hca hblk hcur hyl hxb
        have hgl : gb < wr.heap.size := HB.out.lt
        cases hfx : f x
        · rw [hfx] at hcall
          have HCA := hid hcall
          have HFX := hid hfx
          clear hfx hcall
          go_wp2_with (refine (HCA.out).mono ?_; rintro e w2 ⟨rfl, hb2⟩; have d2 : w2.cell? ⟨gb, a, none⟩ = some (.int .i64 old) := cell_keep hb2 c2; have g2 : w2.frozen? ⟨gb, a, none⟩ = false := (HB.out.keep hb2).free a; have HB2 := hid hb2; clear hb2)
          go_roundg (gk - 1)
          case measure => have := HGB.out; omega
          case rel =>
            refine ⟨a + 1, b + 1, ys.set a x, by have := HGB.out; omega, by omega, by omega, by go_num, by go_num, hid ?_, hid ?_, hid ?_, hid ?_⟩
            · refine own_mk (((HB.out.keep HB2.out).set a (.int .i64 x))) hbg hnc hcm (by simpa using hcs) (by simpa using HYL.out) fun k y hy => ?_
              rw [Array.getElem?_setIfInBounds]
              by_cases e : a = k
              · subst e
                rw [List.getElem?_set_self (by have := HYL.out; omega)] at hy
                simp at hy
                subst hy
                simp
                omega
              · rw [if_neg e]
                rw [List.getElem?_set_ne e] at hy
                exact HCU.out k y hy
            · rw [List.take_add_one, List.getElem?_set_self (by have := HYL.out; omega), List.take_set_of_le (Nat.le_refl _), hT.out, List.take_add_one, HXB.out, List.filter_append]
              simp [HFX.out]
            · rw [List.drop_set_of_lt (by omega)]
              have := congrArg (List.drop 1) hD.out
              simpa using this
            · exact gr_trans (gr_trans hG.out (gr_below HB2.out)) ⟨rfl, rfl, rfl, by simp, fun k _ hk => Below.heap_setCell _ ⟨gb, a, none⟩ _ k (fun e => hk (by rw [e]))⟩
        · rw [hfx] at hcall
          have HCA := hid hcall
          have HFX := hid hfx
          clear hfx hcall
          go_wp2_with (refine (HCA.out).mono ?_; rintro e w2 ⟨rfl, hb2⟩; have HB2 := hid hb2; clear hb2)
          go_roundg (gk - 1)
          case measure => have := HGB.out; omega
          case rel =>
            refine ⟨a, b + 1, ys, by have := HGB.out; omega, by omega, by omega, rfl, by go_num, hid (own_below hO.out HB2.out), hid ?_, hid ?_, hid (gr_trans hG.out (gr_below HB2.out))⟩
            · rw [hT.out, List.take_add_one, HXB.out, List.filter_append]
              simp [HFX.out]
            · have := congrArg (List.drop 1) hD.out
              simpa using this
      · obtain rfl : b = n := by omega
        have hxl : xs.length = b := by have := HO.out.1; simpa using this
        have hcl : ∀ ty, (Builtin.clear_ #[34] ty #[.slice (some ⟨gb, a, none⟩) (b - a) (c - a)]).run Try.prog wr = .ok (.tuple #[]) (wr.setCells gb a (List.replicate (b - a) (.int .i64 0))) :=
          fun ty => Lib.run_clear_slice wr _ _ ty _ Try.underlying34 HZ0.out rfl rfl gb a _ _ (by omega) (fun t ht => by rw [hblk.cell]; have := hcur (a + t) ys[a + t] (List.getElem?_eq_getElem (by omega)); rw [this]; rfl) (fun t ht => hblk.free _)
        have HB := hid hblk; have HCU := hid hcur
        have HXL := hid hxl
        clear hgb hblk hcur hyl hxl
        go_wp2
        go_ret
        refine ⟨⟨some ⟨gb, 0, none⟩, a, c, rfl, ?_⟩, gr_trans hG.out (setCells_grow gb _ _ _)⟩
        obtain ⟨cs', k1, k2, k3⟩ := setCells_blk gb 3 (List.replicate (b - a) (.int .i64 0)) a wr cur HB.out
        have hT' := hT.out
        have ex : xs.take b = xs := List.take_of_length_le (by have := HXL.out; omega)
        rw [ex] at hT'
        rw [← hT']
        refine own_mk k1 hbg (by omega) hcm (by omega) (by rw [List.length_take]; have := HYL.out; omega) fun k y hy => ?_
        rw [List.getElem?_take] at hy
        split at hy
        · rename_i hka
          rw [k3 k hka]
          exact HCU.out k y hy
        · cases hy
end Go.Proofs.Ytdclmhmdkhpekaa
