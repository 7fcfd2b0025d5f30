/- Texts of this proof, one behind the other; each says its condition at its head. -/
import Derived.Test.YtnibidmlkbcfkaaGreatDoorT24
import Derived.Test.YtnibidmlkbcfkaaGreatDoorT10
import Derived.Test.YtnibidmlkbcfkaaGreatDoorT11
namespace Go.Proofs.YtnibidmlkbcfkaaGreatDoor
/- What a mint's books keep, whatever is done. No condition. -/
section
open Go.RowKit Go.Maps
/-- What a mint's books keep. -/
def BkI (s : Bk) : Prop := BkJ s ∧ OrdI s.above
theorem BkI.begin : BkI ⟨[], [], [], [], 0, 0, 0, 1, []⟩ :=
 ⟨⟨by simp, rfl, by simp, rfl, ⟨by simp, by simp, by simp, by simp, by decide⟩, ⟨fun u hu => by simp at hu, by simp⟩⟩, ⟨fun _ _ => false, rfl, ⟨fun i hi => by simp at hi, fun i j k hi => by simp at hi⟩⟩⟩
theorem BkI.medal {s : Bk} (h : BkI s) (x : ByteArray) : BkI (medalL s x).1 := by
 refine ⟨h.1.medal x, ?_⟩
 unfold medalL
 split
 · exact h.2.push
 · exact h.2
theorem BkI.player {s : Bk} (h : BkI s) (x : ByteArray) : BkI (playerL s x).1 := by
 refine ⟨h.1.player x, ?_⟩
 unfold playerL
 split <;> exact h.2
theorem BkI.beat {s : Bk} (h : BkI s) (x y : ByteArray) : BkI (beatL s x y).1 := by
 refine ⟨h.1.beat x y, ?_⟩
 unfold beatL
 split
 · split <;> exact h.2
 · exact h.2
theorem BkI.lay {s : Bk} (h : BkI s) {x0 x1 x2 x3 : Int} (hx : ∀ v ∈ [x0, x1, x2, x3], 0 ≤ v ∧ v < 1000) : BkI (layL s x0 x1 x2 x3).1 := by
 refine ⟨h.1.lay hx, ?_⟩
 unfold layL
 split <;> exact h.2
theorem BkI.pan {s : Bk} (h : BkI s) {x0 x1 x2 x3 : Int} (hx : ∀ v ∈ [x0, x1, x2, x3], 0 ≤ v ∧ v < 1000) : BkI (panL s x0 x1 x2 x3).1 := by
 refine ⟨h.1.pan hx, ?_⟩
 unfold panL
 split <;> exact h.2
theorem BkI.bets {s : Bk} (h : BkI s) {v k : Int} (hk : 0 ≤ k) : BkI (betL s v k).1 := by
 refine ⟨h.1.bets hk, ?_⟩
 unfold betL
 split
 · exact h.2
 · split
   · exact h.2
   · split <;> exact h.2
theorem BkI.rank {s : Bk} (h : BkI s) (x y : ByteArray) : BkI (rankL s x y).1 := by
 have hb1 := idxZ_bd x s.medals
 have hb2 := idxZ_bd y s.medals
 have hab := h.1.abv
 unfold rankL
 split
 · rename_i hok
   split
   · exact ⟨⟨h.1.med, by simp only [addZ_len]; exact hab, h.1.pla, h.1.bea, h.1.kn, h.1.bet⟩, h.2.add (by omega) (by omega)⟩
   · exact h
 · exact h
theorem lineL_some {r0 r1 : Nat} {x : ByteArray} {nm : List ByteArray} {nu : List Int} (h : lineL r0 r1 x = some (nm, nu)) : ∀ v ∈ nu, 0 ≤ v ∧ v < 1000 := by
 unfold lineL at h
 split at h
 · exact (readP_shape h).2.2
 · cases h
theorem BkI.doL {s : Bk} (h : BkI s) (x : ByteArray) : BkI (doL s x).1 := by
 unfold Go.Proofs.YtnibidmlkbcfkaaGreatDoor.doL
 split
 · split
   · rename_i hl
     exact h.bets (lineL_some hl _ (by simp)).1
   · exact h
 · split
   · split
     · rename_i hl
       exact h.pan (lineL_some hl)
     · exact h
   · split
     · split
       · rename_i hl
         exact h.lay (lineL_some hl)
       · exact h
     · split
       · split
         · exact h.beat _ _
         · exact h
       · split
         · split
           · exact h.player _
           · exact h
         · split
           · split
             · exact h.rank _ _
             · exact h
           · split
             · split
               · exact h.medal _
               · exact h
             · exact h
end
/- The plain law of MintEntries: three copies alike, all in reach. No program in sight. -/
section
open Go.RowKit Go.Maps
/-- What Do does: the copies, the books, the journal, whether the mint is out; and the answer's number. -/
def doM (C : List Cp) (k : Int) (s : Bk) (J : List ByteArray) (out : Bool) (x : ByteArray) : List Cp × Bk × List ByteArray × Bool × Nat :=
 if out then (C, s, J, true, 5) else
 if (doL s x).2 ≠ 0 then (C, s, J, false, (doL s x).2) else
 if J.length = 200 then (C, s, J, false, 7) else
 if ¬ C.length < 2 * reachN C then (C, s, J, false, 8) else
 if ¬ C.length < 2 * C.countP (fun c => !c.away && decide (c.mark ≤ k)) then (onAll (fun c => c.put J.length k x) C, s, J, true, 5) else
 (onAll (fun c => c.put J.length k x) C, (doL s x).1, J ++ [x], false, 0)
/-- A change of the books, if there is one. -/
def stepL (s : Bk) (x : ByteArray) : Option Bk := if (doL s x).2 = 0 then some (doL s x).1 else none
/-- The first state. -/
def bk0 : Bk := ⟨[], [], [], [], 0, 0, 0, 1, []⟩
/-- What Open reads. -/
def readM (C : List Cp) : Bk × List ByteArray := readL stepL (bestE (entsOn C)) 200 0 0 bk0 []
/-- The copies behind Open. -/
def openM (C : List Cp) : List Cp := putAll (topM C + 1) (readM C).2 0 (onAll (fun c => c.prom (topM C + 1)) C)
/-- The entries of a journal. -/
def entJ (k : Int) (J : List ByteArray) : Ents := fun i => (J[i]?).map fun x => (k, x)
/-- Copies alike. -/
def likeC (k : Int) (J : List ByteArray) : List Cp := List.replicate 3 ⟨k, false, entJ k J⟩
theorem like_len (k : Int) (J : List ByteArray) : (likeC k J).length = 3 := rfl
theorem like_reach (k : Int) (J : List ByteArray) : reachN (likeC k J) = 3 := rfl
theorem like_count (k m : Int) (J : List ByteArray) : (likeC k J).countP (fun c => !c.away && decide (c.mark ≤ m)) = if k ≤ m then 3 else 0 := by
 unfold likeC
 rw [List.countP_replicate]
 simp
theorem like_all (f : Cp → Cp) (k : Int) (J : List ByteArray) : onAll f (likeC k J) = List.replicate 3 (f ⟨k, false, entJ k J⟩) := by
 unfold onAll likeC
 rw [List.map_replicate]
 simp
theorem ent_push (k : Int) (J : List ByteArray) (x : ByteArray) : putE (entJ k J) J.length (k, x) = entJ k (J ++ [x]) := by
 funext i
 unfold putE entJ
 by_cases h : i = J.length
 · subst h; simp
 · rw [if_neg h]
   by_cases h2 : i < J.length
   · rw [List.getElem?_append_left h2]
   · rw [List.getElem?_eq_none (by omega), List.getElem?_eq_none (by simp; omega)]
theorem like_put (k : Int) (J : List ByteArray) (x : ByteArray) : onAll (fun c => c.put J.length k x) (likeC k J) = likeC k (J ++ [x]) := by
 rw [like_all]
 unfold Cp.put
 simp only [Int.lt_irrefl, if_false]
 rw [ent_push]
 rfl
theorem like_do (k : Int) (s : Bk) (J : List ByteArray) (x : ByteArray) (hl : J.length < 200) : doM (likeC k J) k s J false x =
 if (doL s x).2 ≠ 0 then (likeC k J, s, J, false, (doL s x).2) else (likeC k (J ++ [x]), (doL s x).1, J ++ [x], false, 0) := by
 unfold doM
 rw [like_len, like_reach, like_count, if_pos (Int.le_refl k), like_put]
 split
 · rename_i h; cases h
 split
 · rfl
 rw [if_neg (by omega), if_neg (by omega), if_neg (by omega)]
/-- All lines done on copies alike. -/
def runD (s : Bk) (J : List ByteArray) : List ByteArray → Bk × List ByteArray
 | [] => (s, J)
 | x :: l => if (doL s x).2 ≠ 0 then runD s J l else runD (doL s x).1 (J ++ [x]) l
theorem runD_runs (l : List ByteArray) : ∀ (s : Bk) (J : List ByteArray), runL stepL bk0 J = some s → runL stepL bk0 (runD s J l).2 = some (runD s J l).1 := by
 induction l with
 | nil => intro s J h; exact h
 | cons x l ih =>
  intro s J h
  rw [runD]
  by_cases hx : (doL s x).2 = 0
  · rw [if_neg (by simpa using hx)]
    refine ih _ _ ?_
    rw [runL_snoc, h]
    show stepL s x = _
    unfold stepL
    rw [if_pos hx]
  · rw [if_pos hx]
    exact ih s J h
theorem runD_len (l : List ByteArray) : ∀ (s : Bk) (J : List ByteArray), (runD s J l).2.length ≤ J.length + l.length := by
 induction l with
 | nil => intro s J; simp [runD]
 | cons x l ih =>
  intro s J
  rw [runD]
  split
  · have := ih s J; simp; omega
  · have := ih (doL s x).1 (J ++ [x]); simp at this ⊢; omega
theorem runD_take (l : List ByteArray) (n : Nat) (x : ByteArray) : ∀ (s : Bk) (J : List ByteArray), l[n]? = some x → runD s J (l.take (n + 1)) = if (doL (runD s J (l.take n)).1 x).2 ≠ 0 then runD s J (l.take n) else ((doL (runD s J (l.take n)).1 x).1, (runD s J (l.take n)).2 ++ [x]) := by
 induction l generalizing n with
 | nil => intro s J h; simp at h
 | cons y l ih =>
  intro s J h
  cases n with
  | zero =>
   have h : y = x := by simpa using h
   subst h
   simp only [List.take_succ_cons, List.take_zero, runD]
  | succ n =>
   simp only [List.getElem?_cons_succ] at h
   simp only [List.take_succ_cons, runD]
   split
   · exact ih n s J h
   · exact ih n _ _ h
theorem runD_keep (l : List ByteArray) : ∀ (s : Bk) (J : List ByteArray), BkI s → BkI (runD s J l).1 := by
 induction l with
 | nil => intro s J h; exact h
 | cons x l ih =>
  intro s J h
  rw [runD]
  split
  · exact ih s J h
  · exact ih _ _ (h.doL x)
theorem ents_like (k : Int) (J : List ByteArray) : entsOn (likeC k J) = List.replicate 3 (entJ k J) := rfl
theorem best_like (k : Int) (J : List ByteArray) (i : Nat) : bestE (entsOn (likeC k J)) i = entJ k J i := by
 rw [ents_like]
 unfold bestE
 simp only [List.replicate, List.foldl_cons, List.foldl_nil]
 cases h : entJ k J i with
 | none => rfl
 | some x => simp [betE]
theorem top_like (k : Int) (J : List ByteArray) (hk : 0 ≤ k) : topM (likeC k J) = k := by
 unfold topM likeC
 simp [List.replicate]
 omega
theorem read_like (k : Int) (J : List ByteArray) (s : Bk) (hk : 0 ≤ k) (hl : J.length < 200) (h : runL stepL bk0 J = some s) : readM (likeC k J) = (s, J) := by
 unfold readM
 rw [readL_all (D := stepL) (bestE (entsOn (likeC k J))) k J 200 0 0 bk0 s [] (by omega) hk (fun j x hx => by
  rw [best_like, Nat.zero_add]
  unfold entJ
  rw [hx]
  rfl) h]
 obtain ⟨n, hn⟩ : ∃ n, 200 - J.length = n + 1 := ⟨200 - J.length - 1, by omega⟩
 rw [hn, readL, best_like]
 have : entJ k J (0 + J.length) = none := by unfold entJ; simp
 rw [this, List.nil_append]
theorem open_like (k : Int) (J : List ByteArray) (s : Bk) (hk : 0 ≤ k) (hl : J.length < 200) (h : runL stepL bk0 J = some s) : openM (likeC k J) = likeC (k + 1) J := by
 unfold openM
 rw [top_like k J hk, read_like k J s hk hl h]
 have hp : onAll (fun c => c.prom (k + 1)) (likeC k J) = List.replicate 3 ⟨k + 1, false, entJ k J⟩ := by rw [like_all]; rfl
 rw [hp, putAll_eq _ _ _ _ (fun c hc _ => by rw [List.eq_of_mem_replicate hc])]
 have he : putsE (k + 1) J 0 (entJ k J) = entJ (k + 1) J := by
  funext j
  rw [putsE_at]
  unfold entJ
  by_cases hj : j < J.length
  · rw [if_pos ⟨by omega, by omega⟩, Nat.sub_zero]
  · rw [if_neg (by omega), List.getElem?_eq_none (by omega)]
    rfl
 unfold onAll likeC
 rw [List.map_replicate]
 simp only [Bool.false_eq_true, if_false]
 rw [he]
end
/- Walk of a mint's read, at copies that hold anything. Conditions: the mint is being opened; the entries' lines are short of the shelf's bound; the library's variables stand. -/
section
open Go.RowKit Go.Maps
/-- What do says and makes, in one form. -/
theorem DoR.form {w w' : World} {sb : Nat} {q : Bk × Nat} {r : Ending} (h : DoR w sb q r w') : ∃ nb, r = .returned (.tuple #[.pointer (some ⟨nb, 0, none⟩), .int .i64 (q.2 : Nat)]) ∧ (q.2 = 0 → ∃ m u p t e, StO w' w.heap.size nb m u p t e q.1) ∧ Below w.heap.size w w' := by
 obtain ⟨h | h, hb⟩ := h
 · obtain ⟨h0, nb, m, u, p, t, e, rfl, hs⟩ := h
   exact ⟨nb, by rw [h0]; rfl, fun _ => ⟨m, u, p, t, e, hs⟩, hb⟩
 · exact ⟨sb, h.2, fun h0 => absurd h0 h.1, hb⟩
/-- What state.do does, at any books that a mint keeps. -/
def DoK : Prop := ∀ (G : Nat → Prop) (sb : Nat) (s : Bk) (x : ByteArray) (w : World), BkI s → x.size ≤ 100000000 → EnvN w → Tab w → StR w G sb s →
 Calls Tryz.prog 53 #[.pointer (some ⟨sb, 0, none⟩), .string x] w fun r w' => DoR w sb (doL s x) r w'
theorem readL_go {f : Nat → Option (Int × ByteArray)} {d : Nat} {last : Int} {s : Bk} {J : List ByteArray} (hd : d < 200) : readL stepL f (200 - d) d last s J =
 match f d with
 | none => (s, J)
 | some x => if x.1 < last then (s, J) else if (doL s x.2).2 = 0 then readL stepL f (200 - (d + 1)) (d + 1) x.1 (doL s x.2).1 (J ++ [x.2]) else (s, J) := by
 obtain ⟨e, he⟩ : ∃ e, 200 - d = e + 1 := ⟨200 - d - 1, by omega⟩
 rw [he, readL, show 200 - (d + 1) = e by omega]
 unfold stepL
 cases f d with
 | none => rfl
 | some x =>
  simp only
  split
  · rfl
  · by_cases h0 : (doL s x.2).2 = 0
    · rw [if_pos h0, if_pos h0]
    · rw [if_neg h0, if_neg h0]
theorem OpG.low {w w0 W : World} {m sb n nr : Nat} {a r d : Value} {L : List (Nat × Nat)} {C : List Cp} {k : Int} {s : Bk} {J : List ByteArray} (h : OpG w W m sb n nr a r d L C k s J) (hlow : Below w0.heap.size w0 w) (hL : ∀ i, inL L i → w0.heap.size ≤ i) : Below w0.heap.size w0 W := h.chs.below hlow hlow.size hL
theorem strV_snoc (J : List ByteArray) (x : ByteArray) : strV (J ++ [x]) = strV J ++ (#[.string x] : Array Value).toList := by unfold strV; rw [List.map_append]; rfl
set_option maxRecDepth 100000 in
set_option maxHeartbeats 4000000 in
theorem readG (w0 w W : World) (m sb n nr : Nat) (a : Value) (A : Option Addr) (c : Nat) (L : List (Nat × Nat)) (C : List Cp) (k : Int) (hlow : Below w0.heap.size w0 w) (hL : ∀ i, inL L i → w0.heap.size ≤ i) (he : EnvN w0) (hT : Tab w0) (hdo : DoK)
 (h : OpG w W m sb n nr a (.slice A nr c) (.slice none 0 0) L C k bk0 []) (hnr : nr ≤ 1000) (hsz : ∀ i y, bestE (entsOn C) i = some y → y.2.size ≤ 100000000) :
 Calls Tryz.prog 64 #[.pointer (some ⟨m, 0, none⟩), .slice A nr c] W fun x W' => x = .returned (.tuple #[]) ∧ ∃ sb' d', OpG w W' m sb' n nr a (.slice A nr c) d' L C k (readM C).1 (readM C).2 := by
 have HO0 := hid h
 have HSZ := hid hsz
 have HLOW := hid hlow
 have HLL := hid hL
 have HEN := hid he
 have HTA := hid hT
 have HDO := hid hdo
 obtain ⟨i0, hi0, hz0, hz1, hzz⟩ := info_parts TS22.inf
 clear h hsz hlow hL he hT hdo
 go_enter Tryz.func64, Tryz.ntmps64
 go_wp2
 go_loopg [4, 10] 200 (fun gk l i wr => ∃ (d : Nat) (last : Int) (sb' : Nat) (dv : Value) (s : Bk) (J : List ByteArray), gk + d = 200 ∧ l = .int .i64 last ∧ i = .int .i64 d ∧ Hid (BkI s) ∧ Hid (J.length ≤ d) ∧ Hid (readL stepL (bestE (entsOn C)) (200 - d) d last s J = readM C) ∧ Hid (OpG w wr m sb' n nr a (.slice A nr c) dv L C k s J))
 case atStart => exact ⟨0, 0, sb, _, bk0, [], by omega, rfl, rfl, hid BkI.begin, hid (by simp), hid rfl, HO0⟩
 case round =>
  clear HO0
  obtain ⟨d, last, sb', dv, s, J, hd, rfl, rfl, HBK, HJL, HRD, HO⟩ := hrel
  have HD := hid hd
  by_cases hlt : d < 200
  · have HLT := hid hlt
    have HE := hid (entryF A nr c d L C wr hnr (by omega) (Sl.of_own HO.out.own2) HO.out.cps)
    have HRG := hid (readL_go (f := bestE (entsOn C)) (last := last) (s := s) (J := J) hlt)
    clear hd
    go_wp2_with fail
    refine (HE.out).mono ?_; rintro x w1 ⟨rfl, b1⟩
    have HO := hid (HO.out.below b1)
    clear b1 HE
    cases hb : bestE (entsOn C) d with
    | none =>
     rw [hb] at HRG
     have HQ := hid (show readM C = (s, J) from HRD.out.symm.trans HRG.out)
     have HO := hid (HO.out.below ((Below.refl w1.heap.size w1).alloc (Nat.le_refl _) (.cells #[.int .i64 0, .string ByteArray.empty] 141)))
     clear hb HRG
     go_wp2
     refine bodyPost_ret (results_none rfl _ _ _) rfl ?_
     rw [HQ.out]
     exact ⟨rfl, _, _, HO.out⟩
    | some x =>
     have HXS := hid (HSZ.out d x hb)
     rw [hb] at HRG
     simp only [eM, eT, Option.getD_some]
     have HEB := hid (Blk.new w1 141 #[.int .i64 x.1, .string x.2])
     have HO := hid (HO.out.below ((Below.refl w1.heap.size w1).alloc (Nat.le_refl _) (.cells #[.int .i64 x.1, .string x.2] 141)))
     obtain ⟨eb, heb⟩ : ∃ eb, eb = w1.heap.size := ⟨_, rfl⟩
     have c0 := HEB.out.cell 0
     simp only [List.getElem?_toArray, List.getElem?_cons_zero] at c0
     clear hb
     by_cases hm : x.1 < last
     · have HQ := hid (show readM C = (s, J) from HRD.out.symm.trans (HRG.out.trans (if_pos hm)))
       have g1 : decide (x.1 < last) = true := decide_eq_true hm
       clear HRG hm
       go_wp2
       refine bodyPost_ret (results_none rfl _ _ _) rfl ?_
       rw [HQ.out]
       exact ⟨rfl, _, _, HO.out⟩
     · have HRG := hid (HRG.out.trans (if_neg hm))
       have g1 : decide (x.1 < last) = false := decide_eq_false hm
       clear hm
       go_wp2_with fail
       rw [← heb] at c0 HEB ⊢
       clear heb c0
       have HKP := hid (HO.out.mint.cell 2)
       generalize w1.alloc (.cells #[.int .i64 x.1, .string x.2] 141) = X at *
       refine wp_region_held_drew (S := (fun w' => w'.cell? ⟨m, 2, none⟩ = some (.pointer (some ⟨sb', 0, none⟩)) ∧ w'.cell? ⟨eb, 1, none⟩ = some (.string x.2))) (by kernel_rfl) (by (try dsimp only); (exact ⟨HKP.out, HEB.out.cell 1⟩)) (fun hHeld => ?_)
       have HO := hid HO.out.drew; have HEB := hid HEB.out.drew
       have HKP := hid (HO.out.mint.cell 2)
       generalize X.drew = X1 at *
       obtain ⟨X, rfl⟩ : ∃ Y, Y = X1 := ⟨X1, rfl⟩
       refine tk ?_ 0 (some 28) rfl rfl ?_ ?_; rotate_left; · (intro w hSw; (try dsimp only at hSw); go_simp <;> with_reducible rfl)
       try simp only [Act.put,qA,qB,qC]
       refine tk ?_ 1 (some 29) rfl rfl ?_ ?_; rotate_left; · (intro w hSw; (try dsimp only at hSw); go_simp <;> with_reducible rfl)
       try simp only [Act.put,qA,qB,qC]
       refine tk ?_ 2 (some 30) rfl rfl ?_ ?_; rotate_left; · (intro w hSw; (try dsimp only at hSw); go_simp <;> with_reducible rfl)
       try simp only [Act.put,qA,qB,qC]
       refine tk ?_ 3 (some 31) rfl rfl ?_ ?_; rotate_left; · (intro w hSw; (try dsimp only at hSw); go_simp <;> with_reducible rfl)
       try simp only [Act.put,qA,qB,qC]
       refine tk ?_ 4 (some 32) rfl rfl ?_ ?_; rotate_left; · (intro w hSw; (try dsimp only at hSw); go_simp <;> with_reducible rfl)
       try simp only [Act.put,qA,qB,qC]
       refine tk ?_ 5 (some 33) rfl rfl ?_ ?_; rotate_left; · (intro w hSw; (try dsimp only at hSw); go_simp <;> with_reducible rfl)
       try simp only [Act.put,qA,qB,qC]
       refine st 6 rfl fun K hK => ?_
       go_simp
       obtain ⟨G, hst, _⟩ := HO.out.st
       refine (HDO.out G sb' s x.2 X HBK.out HXS.out (HEN.out.keep (HO.out.low HLOW.out HLL.out)) (HTA.out.below (HO.out.low HLOW.out HLL.out)) hst).mono ?_; rintro r X1 hdr
       obtain ⟨nx, rfl, hst', hb⟩ := DoR.form hdr
       have HST := hid hst'
       have HB := hid hb
       have HEB := hid (HEB.out.keep hb)
       have HKP := hid ((HO.out.below hb).mint.cell 2)
       clear hdr hst hst' hb hHeld
       refine hK.out _ _ ?_ (fun hHeld => ?_); · ((try dsimp only); (exact ⟨HKP.out, HEB.out.cell 1⟩))
       clear hK K
       try simp only [Act.put,qA,qB,qC]
       refine tk ?_ 7 (some 27) rfl rfl ?_ ?_; rotate_left; · (intro w hSw; (try dsimp only at hSw); go_simp <;> with_reducible rfl)
       try simp only [Act.put,qA,qB,qC]
       refine tk ?_ 8 (some 35) rfl rfl ?_ ?_; rotate_left; · (intro w hSw; (try dsimp only at hSw); go_simp <;> with_reducible rfl)
       try simp only [Act.put,qA,qB,qC]
       refine tk ?_ 9 (some 36) rfl rfl ?_ ?_; rotate_left; · (intro w hSw; (try dsimp only at hSw); go_simp <;> with_reducible rfl)
       try simp only [Act.put,qA,qB,qC]
       refine tk ?_ 10 (some 8) rfl rfl ?_ ?_; rotate_left; · (intro w hSw; (try dsimp only at hSw); go_simp <;> with_reducible rfl)
       try simp only [Act.put,qA,qB,qC]
       refine tk ?_ 11 (some 9) rfl rfl ?_ ?_; rotate_left; · (intro w hSw; (try dsimp only at hSw); go_simp <;> with_reducible rfl)
       try simp only [Act.put,qA,qB,qC]
       refine wpAnyH_done (by kernel_rfl) ?_ _
       generalize hq : doL s x.2 = q at *
       have HQ := hid hq
       by_cases hz : q.2 = 0
       · obtain ⟨v1, v2, v3, v4, v5, hst⟩ := HST.out hz
         have HST := hid hst
         rw [hz]
         have HRG := hid (HRG.out.trans (if_pos hz))
         have HBK2 := hid (show BkI q.1 from by rw [← HQ.out]; exact HBK.out.doL x.2)
         have HNE := hid (blk_neM (HO.out.below HB.out).mint HEB.out (by decide))
         have hx1 : eb ≠ m := fun e => HNE.out e.symm
         have HNX := hid hx1
         clear hst hq hz hx1
         go_wp2_with fail
         obtain ⟨X0, hX0⟩ : ∃ Y, Y = X := ⟨X, rfl⟩
         rw [← hX0] at HO HB HST
         clear hX0 HKP
         obtain ⟨X, rfl⟩ : ∃ Y, Y = X1 := ⟨X1, rfl⟩
         refine wp_region_held_drew (S := (fun w' => w'.cell? ⟨eb, 0, none⟩ = some (.int .i64 x.1))) (by kernel_rfl) (by (try dsimp only); (exact HEB.out.cell 0)) (fun hHeld => ?_)
         have HB := hid (HB.out.trans (Below.refl _ X).drew); have HST := hid (HST.out.below (Below.refl _ X).drew); have HEB := hid HEB.out.drew
         generalize X.drew = X1 at *
         obtain ⟨X, rfl⟩ : ∃ Y, Y = X1 := ⟨X1, rfl⟩
         refine tk ?_ 0 (some 39) rfl rfl ?_ ?_; rotate_left; · (intro w hSw; (try dsimp only at hSw); go_simp <;> with_reducible rfl)
         try simp only [Act.put,qA,qB,qC]
         refine tk ?_ 1 (some 40) rfl rfl ?_ ?_; rotate_left; · (intro w hSw; (try dsimp only at hSw); go_simp <;> with_reducible rfl)
         try simp only [Act.put,qA,qB,qC]
         refine tk ?_ 2 (some 41) rfl rfl ?_ ?_; rotate_left; · (intro w hSw; (try dsimp only at hSw); go_simp <;> with_reducible rfl)
         try simp only [Act.put,qA,qB,qC]
         refine tk ?_ 3 (some 42) rfl rfl ?_ ?_; rotate_left; · (intro w hSw; (try dsimp only at hSw); go_simp <;> with_reducible rfl)
         try simp only [Act.put,qA,qB,qC]
         refine tk ?_ 4 (some 43) rfl rfl ?_ ?_; rotate_left; · (intro w hSw; (try dsimp only at hSw); go_simp <;> with_reducible rfl)
         try simp only [Act.put,qA,qB,qC]
         refine tk ?_ 5 (some 44) rfl rfl ?_ ?_; rotate_left; · (intro w hSw; (try dsimp only at hSw); go_simp <;> with_reducible rfl)
         try simp only [Act.put,qA,qB,qC]
         refine st 6 rfl fun K hK => ?_
         have z2 := (HO.out.below HB.out).mint.cell 2
         have f2 := (HO.out.below HB.out).mint.free 2
         simp only [List.getElem?_toArray, List.getElem?_cons_zero, List.getElem?_cons_succ] at z2
         go_simp
         have HO := hid (HO.out.newSt HB.out HST.out)
         have HEB := hid (HEB.out.far (p := ⟨m, 2, none⟩) HNX.out (.pointer (some ⟨nx, 0, none⟩)))
         clear z2 f2 hHeld HB HST
         generalize X.setCell ⟨m, 2, none⟩ (.pointer (some ⟨nx, 0, none⟩)) = X1 at *
         obtain ⟨X, rfl⟩ : ∃ Y, Y = X1 := ⟨X1, rfl⟩
         refine hK.out _ _ ?_ (fun hHeld => ?_); · ((try dsimp only); (exact HEB.out.cell 0))
         clear hK K
         try simp only [Act.put,qA,qB,qC]
         refine tk ?_ 7 (some 4) rfl rfl ?_ ?_; rotate_left; · (intro w hSw; (try dsimp only at hSw); go_simp <;> with_reducible rfl)
         try simp only [Act.put,qA,qB,qC]
         refine wpAnyH_done (by kernel_rfl) ?_ _
         go_wp2_with fail
         refine wp_region_held_drew (S := (fun w' => w'.cell? ⟨eb, 1, none⟩ = some (.string x.2))) (by kernel_rfl) (by (try dsimp only); (exact HEB.out.cell 1)) (fun hHeld => ?_)
         have HO := hid HO.out.drew; have HEB := hid HEB.out.drew
         generalize X.drew = X1 at *
         obtain ⟨X, rfl⟩ : ∃ Y, Y = X1 := ⟨X1, rfl⟩
         refine tk ?_ 0 (some 45) rfl rfl ?_ ?_; rotate_left; · (intro w hSw; (try dsimp only at hSw); go_simp <;> with_reducible rfl)
         try simp only [Act.put,qA,qB,qC]
         refine tk ?_ 1 (some 46) rfl rfl ?_ ?_; rotate_left; · (intro w hSw; (try dsimp only at hSw); go_simp <;> with_reducible rfl)
         try simp only [Act.put,qA,qB,qC]
         refine tk ?_ 2 (some 47) rfl rfl ?_ ?_; rotate_left; · (intro w hSw; (try dsimp only at hSw); go_simp <;> with_reducible rfl)
         try simp only [Act.put,qA,qB,qC]
         refine tk ?_ 3 (some 48) rfl rfl ?_ ?_; rotate_left; · (intro w hSw; (try dsimp only at hSw); go_simp <;> with_reducible rfl)
         try simp only [Act.put,qA,qB,qC]
         refine tk ?_ 5 (some 50) rfl rfl ?_ ?_; rotate_left; · (intro w hSw; (try dsimp only at hSw); go_simp <;> with_reducible rfl)
         try simp only [Act.put,qA,qB,qC]
         refine tk ?_ 6 (some 51) rfl rfl ?_ ?_; rotate_left; · (intro w hSw; (try dsimp only at hSw); go_simp <;> with_reducible rfl)
         try simp only [Act.put,qA,qB,qC]
         refine wpAnyH_ready (rs := [4, 7]) (by kernel_rfl) (by simp) ?_
         refine AllReadyH.cons rfl (fun K hK => ?_) (AllReadyH.cons rfl (fun K hK => ?_) (AllReadyH.nil))
         · have z3 := HO.out.mint.cell 3
           simp only [List.getElem?_toArray, List.getElem?_cons_zero, List.getElem?_cons_succ] at z3
           go_simp
           clear z3
           refine hK.out _ _ ?_ (fun hHeld => ?_); · ((try dsimp only); (exact HEB.out.cell 1))
           clear hK K
           try simp only [Act.put,qA,qB,qC]
           refine st 7 rfl fun K hK => ?_
           go_simp
           have bb := (Below.refl X.heap.size X).alloc (Nat.le_refl _) (.cells #[.string x.2] 9)
           have HN := hid (Blk.new X 9 #[.string x.2])
           have HO := hid (HO.out.below bb); have HEB := hid (HEB.out.keep bb)
           clear bb hHeld
           obtain ⟨tb, htb⟩ : ∃ tb, tb = X.heap.size := ⟨_, rfl⟩
           rw [← htb] at HN ⊢
           clear htb
           generalize X.alloc (.cells #[.string x.2] 9) = X1 at *
           obtain ⟨X, rfl⟩ : ∃ Y, Y = X1 := ⟨X1, rfl⟩
           refine hK.out _ _ ?_ (fun hHeld => ?_); · ((try dsimp only); (exact HEB.out.cell 1))
           clear hK K
           try simp only [Act.put,qA,qB,qC]
           refine st 8 rfl fun K hK => ?_
           refine step_append_lies _ rfl (.tmp 49) (.tmp 52) 22 rfl w.heap.size 9 i0 (.string ByteArray.empty) 1 16 TS22.und hi0 hz0 hz1 hzz TS22.zc TS22.sz _ J.length (strV J) rfl HO.out.don ⟨tb, 0, none⟩ 1 1 (#[.string x.2] : Array Value).toList rfl rfl (World.news_of_block HN.out) (by simp [Value.oneCell']) (by decide) (by have := HJL.out; unfold maxLen; omega) (by have := HJL.out; omega) HO.out.size _ rfl ?_
           intro g gc X1 how hgr hwh _
           show K (Act.put _ (some 53) _) X1
           have HWO := hid (show X1.ownsRow w.heap.size 9 1 (.slice (some ⟨g, 0, none⟩) (J.length + 1) gc) (J ++ [x.2]).length (strV (J ++ [x.2])) from by rw [strV_snoc, List.length_append, List.length_singleton]; exact how)
           have HGR := hid hgr
           have HWH := hid (show (Value.slice (some ⟨g, 0, none⟩) (J.length + 1) gc).ownBlock = dv.ownBlock ∨ ∀ g', (Value.slice (some ⟨g, 0, none⟩) (J.length + 1) gc).ownBlock = some g' → X.heap.size ≤ g' from by
            rcases hwh with h | h
            · left; exact (show dv.ownBlock = some g from h).symm
            · right; intro g' hg'; cases hg'; exact Nat.le_of_eq (show X.heap.size = g from h.symm))
           have HMB := hid (HO.out.mint.grown hgr (own_ne_blk HO.out.don HO.out.mint (by decide)))
           have HEB := hid (HEB.out.grown hgr (own_ne_blk HO.out.don HEB.out (by decide)))
           clear how hgr hwh hHeld HN
           refine hK.out _ _ ?_ (fun hHeld => ?_); · ((try dsimp only); (exact HEB.out.cell 1))
           clear hK K
           try simp only [Act.put, List.setIfInBounds_toArray]
           refine tk ?_ 9 (some 54) rfl rfl ?_ ?_; rotate_left; · (intro w hSw; (try dsimp only at hSw); go_simp <;> with_reducible rfl)
           try simp only [Act.put]
           refine tk ?_ 10 (some 55) rfl rfl ?_ ?_; rotate_left; · (intro w hSw; (try dsimp only at hSw); go_simp <;> with_reducible rfl)
           try simp only [Act.put]
           refine st 11 rfl fun K hK => ?_
           have z3 := HMB.out.cell 3
           have f3 := HMB.out.free 3
           simp only [List.getElem?_toArray, List.getElem?_cons_zero, List.getElem?_cons_succ] at z3
           go_simp
           have HO := hid (HO.out.push HGR.out HWO.out HWH.out)
           have HEB := hid (HEB.out.far (p := ⟨m, 3, none⟩) HNX.out (.slice (some ⟨g, 0, none⟩) (J.length + 1) gc))
           clear z3 f3 hHeld HGR HWO HWH HMB
           generalize X1.setCell ⟨m, 3, none⟩ (.slice (some ⟨g, 0, none⟩) (J.length + 1) gc) = X2 at *
           refine hK.out _ _ ?_ (fun hHeld => ?_); · ((try dsimp only); (exact HEB.out.cell 1))
           clear hK K
           try simp only [Act.put,qA,qB,qC]
           refine wpAnyH_done (by kernel_rfl) ?_ _
           go_wp2
           go_roundg (gk - 1)
           case measure => have := HD.out; have := HLT.out; omega
           case rel => exact ⟨d + 1, x.1, nx, _, q.1, J ++ [x.2], by have := HD.out; have := HLT.out; omega, rfl, by go_num, HBK2, hid (by have := HJL.out; simp; omega), hid (HRG.out.symm.trans HRD.out), HO⟩
         · go_simp
           have bb := (Below.refl X.heap.size X).alloc (Nat.le_refl _) (.cells #[.string x.2] 9)
           have HN := hid (Blk.new X 9 #[.string x.2])
           have HO := hid (HO.out.below bb); have HEB := hid (HEB.out.keep bb)
           clear bb hHeld
           obtain ⟨tb, htb⟩ : ∃ tb, tb = X.heap.size := ⟨_, rfl⟩
           rw [← htb] at HN ⊢
           clear htb
           generalize X.alloc (.cells #[.string x.2] 9) = X1 at *
           obtain ⟨X, rfl⟩ : ∃ Y, Y = X1 := ⟨X1, rfl⟩
           refine hK.out _ _ ?_ (fun hHeld => ?_); · ((try dsimp only); (exact HEB.out.cell 1))
           clear hK K
           try simp only [Act.put,qA,qB,qC]
           refine st 4 rfl fun K hK => ?_
           have z3 := HO.out.mint.cell 3
           simp only [List.getElem?_toArray, List.getElem?_cons_zero, List.getElem?_cons_succ] at z3
           go_simp
           clear z3
           refine hK.out _ _ ?_ (fun hHeld => ?_); · ((try dsimp only); (exact HEB.out.cell 1))
           clear hK K
           try simp only [Act.put,qA,qB,qC]
           refine st 8 rfl fun K hK => ?_
           refine step_append_lies _ rfl (.tmp 49) (.tmp 52) 22 rfl w.heap.size 9 i0 (.string ByteArray.empty) 1 16 TS22.und hi0 hz0 hz1 hzz TS22.zc TS22.sz _ J.length (strV J) rfl HO.out.don ⟨tb, 0, none⟩ 1 1 (#[.string x.2] : Array Value).toList rfl rfl (World.news_of_block HN.out) (by simp [Value.oneCell']) (by decide) (by have := HJL.out; unfold maxLen; omega) (by have := HJL.out; omega) HO.out.size _ rfl ?_
           intro g gc X1 how hgr hwh _
           show K (Act.put _ (some 53) _) X1
           have HWO := hid (show X1.ownsRow w.heap.size 9 1 (.slice (some ⟨g, 0, none⟩) (J.length + 1) gc) (J ++ [x.2]).length (strV (J ++ [x.2])) from by rw [strV_snoc, List.length_append, List.length_singleton]; exact how)
           have HGR := hid hgr
           have HWH := hid (show (Value.slice (some ⟨g, 0, none⟩) (J.length + 1) gc).ownBlock = dv.ownBlock ∨ ∀ g', (Value.slice (some ⟨g, 0, none⟩) (J.length + 1) gc).ownBlock = some g' → X.heap.size ≤ g' from by
            rcases hwh with h | h
            · left; exact (show dv.ownBlock = some g from h).symm
            · right; intro g' hg'; cases hg'; exact Nat.le_of_eq (show X.heap.size = g from h.symm))
           have HMB := hid (HO.out.mint.grown hgr (own_ne_blk HO.out.don HO.out.mint (by decide)))
           have HEB := hid (HEB.out.grown hgr (own_ne_blk HO.out.don HEB.out (by decide)))
           clear how hgr hwh hHeld HN
           refine hK.out _ _ ?_ (fun hHeld => ?_); · ((try dsimp only); (exact HEB.out.cell 1))
           clear hK K
           try simp only [Act.put, List.setIfInBounds_toArray]
           refine tk ?_ 9 (some 54) rfl rfl ?_ ?_; rotate_left; · (intro w hSw; (try dsimp only at hSw); go_simp <;> with_reducible rfl)
           try simp only [Act.put]
           refine tk ?_ 10 (some 55) rfl rfl ?_ ?_; rotate_left; · (intro w hSw; (try dsimp only at hSw); go_simp <;> with_reducible rfl)
           try simp only [Act.put]
           refine st 11 rfl fun K hK => ?_
           have z3 := HMB.out.cell 3
           have f3 := HMB.out.free 3
           simp only [List.getElem?_toArray, List.getElem?_cons_zero, List.getElem?_cons_succ] at z3
           go_simp
           have HO := hid (HO.out.push HGR.out HWO.out HWH.out)
           have HEB := hid (HEB.out.far (p := ⟨m, 3, none⟩) HNX.out (.slice (some ⟨g, 0, none⟩) (J.length + 1) gc))
           clear z3 f3 hHeld HGR HWO HWH HMB
           generalize X1.setCell ⟨m, 3, none⟩ (.slice (some ⟨g, 0, none⟩) (J.length + 1) gc) = X2 at *
           refine hK.out _ _ ?_ (fun hHeld => ?_); · ((try dsimp only); (exact HEB.out.cell 1))
           clear hK K
           try simp only [Act.put,qA,qB,qC]
           refine wpAnyH_done (by kernel_rfl) ?_ _
           go_wp2
           go_roundg (gk - 1)
           case measure => have := HD.out; have := HLT.out; omega
           case rel => exact ⟨d + 1, x.1, nx, _, q.1, J ++ [x.2], by have := HD.out; have := HLT.out; omega, rfl, by go_num, HBK2, hid (by have := HJL.out; simp; omega), hid (HRG.out.symm.trans HRD.out), HO⟩
       · have HRG := hid (HRG.out.trans (if_neg hz))
         have HQQ := hid (show readM C = (s, J) from HRD.out.symm.trans HRG.out)
         have HO := hid (HO.out.below HB.out)
         have hz2 : ¬ ((q.2 : Nat) : Int) = 0 := by omega
         obtain ⟨qn, hqn⟩ : ∃ qn, qn = q.2 := ⟨_, rfl⟩
         rw [← hqn] at hz2 ⊢
         clear hz HQ HST hqn hq
         go_wp2
         refine bodyPost_ret (results_none rfl _ _ _) rfl ?_
         rw [HQQ.out]
         exact ⟨rfl, _, _, HO.out⟩
  · obtain rfl : d = 200 := by have := HD.out; omega
    have HQ := hid (show readM C = (s, J) from HRD.out.symm)
    clear hd hlt
    go_wp2
    go_end0
    rw [HQ.out]
    exact ⟨rfl, _, _, HO.out⟩
end
/- Walk of order's below. Condition: an order of six elements at most. -/
section
open Go.RowKit Go.Maps
attribute [local go_sem ↓] shl_bit shr_v and_shr
set_option maxRecDepth 100000 in
set_option maxHeartbeats 1000000 in
theorem belowF (n : Nat) (a : Nat → Nat → Bool) (i : Nat) (hn : n ≤ 6) (hi : i < n) (w : World) :
 Calls Tryz.prog 72 #[.agg (ordC n a), .int .i64 (i : Nat)] w fun e w' => e = .returned (.int .i64 (mk n (fun j => a j i))) ∧ Below w.heap.size w w' := by
 have HB := hid ((Below.refl w.heap.size w).alloc (Nat.le_refl _) (.cells (ordC n a) 78))
 have HBL := hid (Blk.new w 78 (ordC n a))
 have fi : Fits (i : Int) := ⟨by omega, by omega⟩
 have HCV := hid (fun k (hk : k < 6) => ordC_at HBL.out hk)
 have c0 := HBL.out.cell 0
 simp only [ordC, List.getElem?_toArray, List.getElem?_cons_zero] at c0
 unfold ordC at HB HCV ⊢
 go_enter Tryz.func72, Tryz.ntmps72
 go_wp2_with fail
 clear c0
 generalize w.alloc (.cells #[.int .i64 (n : Nat), .int .i64 (oc n a 0), .int .i64 (oc n a 1), .int .i64 (oc n a 2), .int .i64 (oc n a 3), .int .i64 (oc n a 4), .int .i64 (oc n a 5)] 78) = X at *
 go_loopg [5, 9] n (fun gk o q wr => ∃ d : Nat, gk + d = n ∧ q = .int .i64 d ∧ o = .int .i64 (mk d (fun j => a j i)) ∧ X = wr)
 case atStart => exact ⟨0, by omega, rfl, rfl, rfl⟩
 case round =>
  obtain ⟨d, hd, rfl, rfl, hw⟩ := hrel
  subst hw
  have HD := hid hd
  by_cases hlt : d < n
  · have HLT := hid hlt
    have cd := HCV.out d (by omega)
    have hbit := oc_bit a hlt hi
    have hps := mk_push (n := n) hlt (by omega) (fun j => a j i) hbit
    have fd : Fits (d : Int) := ⟨by omega, by omega⟩
    have hd6 : (d : Int) < 6 := by omega
    have hdn : (d : Int) < (n : Int) := by omega
    generalize oc n a d = vd at *
    generalize hm : mk d (fun j => a j i) = md at *
    obtain ⟨me, hme⟩ : ∃ me, me = mk (d + 1) (fun j => a j i) := ⟨_, rfl⟩
    rw [← hme] at hps
    have HME := hid hme
    clear hd hbit hm hme
    go_wp2
    go_roundg (gk - 1)
    case measure => have := HD.out; have := HLT.out; omega
    case rel => exact ⟨d + 1, by have := HD.out; have := HLT.out; omega, by go_num, by rw [HME.out], rfl⟩
  · obtain rfl : d = n := by have := HD.out; omega
    clear hd hlt
    go_wp2
    go_ret
    exact ⟨rfl, HB.out⟩
end
end Go.Proofs.YtnibidmlkbcfkaaGreatDoor
