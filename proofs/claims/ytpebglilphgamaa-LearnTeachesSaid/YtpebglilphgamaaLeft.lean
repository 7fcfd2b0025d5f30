/- Walks of after and Left. Condition: the slices read as lists. -/
import Derived.Test.YtpebglilphgamaaExam
namespace Go.Proofs.Ytpebglilphgamaa
open Go.RowKit

theorem leftL_sel (n : Nat) (xs : List Int) (f : Nat → Bool) (u : Int × Int) (l : List (Int × Int)) (h : sel n f xs = leftL (sel n (fun _ => true) xs) l) :
    sel n (fun i => f i && (bitB (at0 xs i) u.1 == (u.2 == 1))) xs = leftL (sel n (fun _ => true) xs) (l ++ [u]) := by
  rw [leftL_snoc, ← h, sel_split]

set_option maxRecDepth 100000 in
set_option maxHeartbeats 1000000 in
theorem afterOk (s : Nat) (p : Int) (A : Option Addr) (n c : Nat) (xs : List Int) (B : Nat) (hp : p ≤ 60) (hn : n ≤ 16) (E : Option Addr) (m d : Nat) (ls : List (Int × Int)) (H : Exs p ls) (w : World) (hs : Sch w s p A n c xs B) (he : Sl2 w E m d ls) :
    Calls Try.prog 53 #[.pointer (some ⟨s, 0, none⟩), .slice E m d] w fun e w' => ∃ g, e = .returned (.tuple #[.int .i64 (mk n g), .bool true]) ∧ sel n g xs = leftL (sel n (fun _ => true) xs) ls ∧ Below w.heap.size w w' := by
  have hm := he.len
  have hm20 : m ≤ 20 := by have := H.len; omega
  have HA := hid H.all
  have hall := hid (allS s p A n c xs B hn w hs)
  have HT := hid fun (k : Nat) (u : Int × Int) (hu : ls[k]? = some u) => show ls.take (k + 1) = ls.take k ++ [u] from by
    have hk := (List.getElem?_eq_some_iff.1 hu).1
    have e : ls[k] = u := (List.getElem?_eq_some_iff.1 hu).2
    rw [List.take_succ_eq_append_getElem hk, e]
  have HE := hid (show ls.take m = ls by rw [List.take_of_length_le (by omega)])
  have HS := hid hs
  have HN := hid hn
  clear H hm hs hn
  go_enter Try.func53, Try.ntmps53
  go_wp2_with (go_at_call 57; refine (hall.out).mono ?_; rintro e w1 ⟨rfl, rfl⟩)
  go_loopg [4, 15] m (fun gk o i wr => ∃ k : Nat, gk + k = m ∧ i = .int .i64 k ∧ (∃ g, o = .int .i64 (mk n g) ∧ sel n g xs = leftL (sel n (fun _ => true) xs) (ls.take k)) ∧ Below w.heap.size w wr)
  case atStart => exact ⟨0, by omega, rfl, ⟨_, rfl, rfl⟩, Below.refl _ _⟩
  case round =>
    obtain ⟨k, hk, rfl, ⟨g, rfl, hg⟩, hb⟩ := hrel
    have HK := hid hk; have HG := hid hg; clear hk hg
    by_cases hlt : k < m
    · obtain ⟨b, o, ⟨x, y⟩, rfl, lb, hu, c1, c2⟩ := he.at hlt
      have d1 := (hb.cell (p := ⟨b, o + k * 2, none⟩) lb).trans c1
      have d3 : wr.cell? ⟨b, o + k * 2 + 1, none⟩ = some (.int .i64 y) := (hb.cell (p := ⟨b, o + (k * 2 + 1), none⟩) lb).trans c2
      have hx := HA.out k _ hu
      have hx2 := exBad_iff hx
      unfold exBad at hx
      simp only [Bool.or_eq_false_iff, Bool.and_eq_false_iff, decide_eq_false_iff_not] at hx
      obtain ⟨⟨x1, x2⟩, x3⟩ := hx
      have x1' : decide (x < 0) = false := decide_eq_false x1
      have x2' : decide (p ≤ x) = false := decide_eq_false x2
      have hsz := hid hb.size
      have HB := hid (hb.alloc hb.size (.cells #[.int .i64 x, .int .i64 y] 42))
      have hsc : Sch (wr.alloc (.cells #[.int .i64 x, .int .i64 y] 42)) s p A n c xs B := HS.out.keep (HB.out.mono (Nat.le_refl _))
      have e0 : (wr.alloc (.cells #[.int .i64 x, .int .i64 y] 42)).cell? ⟨wr.heap.size, 0, none⟩ = some (.int .i64 x) := World.cell?_alloc_new _ _ _ _
      have e1 : (wr.alloc (.cells #[.int .i64 x, .int .i64 y] 42)).cell? ⟨wr.heap.size, 1, none⟩ = some (.int .i64 y) := World.cell?_alloc_new _ _ _ _
      have c0 := hsc.c0
      have HSC := hid hsc
      have hT := hid (HT.out k _ hu)
      have hf : Fits x := ⟨hx2.1, by have := hx2.2.1; simp only at this; omega⟩
      have hR := hid fun W (hW : Sch W s p A n c xs B) => saidS s p A n c xs B g x (y == 1) hf HN.out W hW
      have hy : y = if (y == 1) = true then 1 else 0 := hx2.2.2
      rw [← hy] at hR
      clear c1 c2 hu x1 x2 hsc hx2 hy hb
      rcases x3 with x3 | x3
      · go_wp2_with fail
        go_quiet (fail)
        go_wp2_with fail
        refine (hR.out _ (HSC.out.drewN _)).mono ?_; rintro e w2 ⟨rfl, rfl⟩
        go_wp2
        go_roundg (gk - 1)
        case measure => have := HK.out; omega
        case rel => exact ⟨k + 1, by have := HK.out; omega, by go_num, ⟨_, rfl, by rw [hT.out]; exact leftL_sel n xs g (x, y) _ HG.out⟩, below_drewN HB.out _⟩
      · have x4 : (y != 0) = true := by rw [bne_eq_false_iff_eq] at x3; subst x3; rfl
        go_wp2_with fail
        go_quiet (fail)
        go_wp2_with fail
        refine (hR.out _ (HSC.out.drewN _)).mono ?_; rintro e w2 ⟨rfl, rfl⟩
        go_wp2
        go_roundg (gk - 1)
        case measure => have := HK.out; omega
        case rel => exact ⟨k + 1, by have := HK.out; omega, by go_num, ⟨_, rfl, by rw [hT.out]; exact leftL_sel n xs g (x, y) _ HG.out⟩, below_drewN HB.out _⟩
    · obtain rfl : k = m := by have := HK.out; omega
      go_wp2
      go_ret2
      exact ⟨g, rfl, by have := HG.out; rw [HE.out] at this; exact this, hb⟩

set_option maxRecDepth 100000 in
set_option maxHeartbeats 2000000 in
theorem afterBad (s : Nat) (p : Int) (A : Option Addr) (n c : Nat) (xs : List Int) (B : Nat) (hp : p ≤ 60) (hn : n ≤ 16) (E : Option Addr) (m d : Nat) (ls : List (Int × Int)) (hno : ¬ Exs p ls) (w : World) (hs : Sch w s p A n c xs B) (he : Sl2 w E m d ls) :
    Calls Try.prog 53 #[.pointer (some ⟨s, 0, none⟩), .slice E m d] w fun e w' => e = .returned (.tuple #[.int .i64 0, .bool false]) ∧ Below w.heap.size w w' := by
  have hm := he.len
  have hle := he.len_le
  have hall := hid (allS s p A n c xs B hn w hs)
  by_cases h20 : 20 < m
  · have h20' : decide (20 < (m : Int)) = true := decide_eq_true (by omega)
    clear hs hno hm
    go_enter Try.func53, Try.ntmps53
    go_wp2_with (go_at_call 57; refine (hall.out).mono ?_; rintro e w1 ⟨rfl, rfl⟩)
    go_ret2
    exact ⟨rfl, Below.refl _ _⟩
  have hm20 : m ≤ 20 := by omega
  have HNO := hid fun (h : ∀ (j : Nat) (u : Int × Int), j < m → ls[j]? = some u → exBad p u = false) => hno ⟨by omega, fun j u hu => h j u (by have := (List.getElem?_eq_some_iff.1 hu).1; omega) hu⟩
  have HS := hid hs
  have HN := hid hn
  clear hno hm hs hn
  go_enter Try.func53, Try.ntmps53
  go_wp2_with (go_at_call 57; refine (hall.out).mono ?_; rintro e w1 ⟨rfl, rfl⟩)
  go_loopg [4, 15] m (fun gk o i wr => ∃ k : Nat, gk + k = m ∧ i = .int .i64 k ∧ (∃ g, o = .int .i64 (mk n g)) ∧ (∀ (j : Nat) (u : Int × Int), j < k → ls[j]? = some u → exBad p u = false) ∧ Below w.heap.size w wr)
  case atStart => exact ⟨0, by omega, rfl, ⟨_, rfl⟩, fun j u h => absurd h (by omega), Below.refl _ _⟩
  case round =>
    obtain ⟨k, hk, rfl, ⟨g, rfl⟩, ha, hb⟩ := hrel
    have HK := hid hk; have HA := hid ha; clear hk ha
    by_cases hlt : k < m
    · obtain ⟨b, o, ⟨x, y⟩, rfl, lb, hu, c1, c2⟩ := he.at hlt
      have d1 := (hb.cell (p := ⟨b, o + k * 2, none⟩) lb).trans c1
      have d3 : wr.cell? ⟨b, o + k * 2 + 1, none⟩ = some (.int .i64 y) := (hb.cell (p := ⟨b, o + (k * 2 + 1), none⟩) lb).trans c2
      have hsz := hid hb.size
      have HB := hid (hb.alloc hb.size (.cells #[.int .i64 x, .int .i64 y] 42))
      have hsc : Sch (wr.alloc (.cells #[.int .i64 x, .int .i64 y] 42)) s p A n c xs B := HS.out.keep (HB.out.mono (Nat.le_refl _))
      have e0 : (wr.alloc (.cells #[.int .i64 x, .int .i64 y] 42)).cell? ⟨wr.heap.size, 0, none⟩ = some (.int .i64 x) := World.cell?_alloc_new _ _ _ _
      have e1 : (wr.alloc (.cells #[.int .i64 x, .int .i64 y] 42)).cell? ⟨wr.heap.size, 1, none⟩ = some (.int .i64 y) := World.cell?_alloc_new _ _ _ _
      have c0 := hsc.c0
      have HSC := hid hsc
      have HG := hid fun (hx : exBad p (x, y) = false) => show ∀ (j : Nat) (u : Int × Int), j < k + 1 → ls[j]? = some u → exBad p u = false from fun j u hj hju => by
        by_cases e : j = k
        · subst e; rw [hu] at hju; cases hju; exact hx
        · exact HA.out j u (by omega) hju
      clear c1 c2 hu hsc hb
      by_cases x1 : x < 0
      · have x1' : decide (x < 0) = true := decide_eq_true x1
        go_wp2_with fail
        go_quiet (fail)
        go_wp2
        go_ret2
        exact ⟨rfl, below_drewN HB.out _⟩
      have x1' : decide (x < 0) = false := decide_eq_false x1
      by_cases x2 : p ≤ x
      · have x2' : decide (p ≤ x) = true := decide_eq_true x2
        go_wp2_with fail
        go_quiet (fail)
        go_wp2
        go_ret2
        exact ⟨rfl, below_drewN HB.out _⟩
      have x2' : decide (p ≤ x) = false := decide_eq_false x2
      have hf : Fits x := ⟨by omega, by omega⟩
      have hR := hid fun W (hW : Sch W s p A n c xs B) => saidS s p A n c xs B g x (y == 1) hf HN.out W hW
      by_cases y0 : y = 0
      · have y0' : (y != 0) = false := by rw [bne_eq_false_iff_eq]; exact y0
        have hG := hid (HG.out (by unfold exBad; simp [x1', x2', y0]))
        have hy : (if (y == 1) = true then 1 else 0) = y := by rw [y0]; rfl
        rw [hy] at hR
        clear y0 hy
        go_wp2_with fail
        go_quiet (fail)
        go_wp2_with fail
        refine (hR.out _ (HSC.out.drewN _)).mono ?_; rintro e w2 ⟨rfl, rfl⟩
        go_wp2
        go_roundg (gk - 1)
        case measure => have := HK.out; omega
        case rel => exact ⟨k + 1, by have := HK.out; omega, by go_num, ⟨_, rfl⟩, hG.out, below_drewN HB.out _⟩
      have y0' : (y != 0) = true := by rw [bne_iff_ne]; exact y0
      by_cases y1 : y = 1
      · have y1' : (y != 1) = false := by rw [bne_eq_false_iff_eq]; exact y1
        have hG := hid (HG.out (by unfold exBad; simp [x1', x2', y1]))
        have hy : (if (y == 1) = true then 1 else 0) = y := by rw [y1]; rfl
        rw [hy] at hR
        clear y0 y1 hy
        go_wp2_with fail
        go_quiet (fail)
        go_wp2_with fail
        refine (hR.out _ (HSC.out.drewN _)).mono ?_; rintro e w2 ⟨rfl, rfl⟩
        go_wp2
        go_roundg (gk - 1)
        case measure => have := HK.out; omega
        case rel => exact ⟨k + 1, by have := HK.out; omega, by go_num, ⟨_, rfl⟩, hG.out, below_drewN HB.out _⟩
      have y1' : (y != 1) = true := by rw [bne_iff_ne]; exact y1
      go_wp2_with fail
      go_quiet (fail)
      go_wp2
      go_ret2
      exact ⟨rfl, below_drewN HB.out _⟩
    · exact absurd (HNO.out fun j u hj => HA.out j u (by have := HK.out; omega)) (fun h => h)

attribute [local go_sem ↓] shr_v and_shr
set_option maxRecDepth 100000 in
set_option maxHeartbeats 1000000 in
/-- Left returns the concepts that agree with examples. -/
theorem leftOk (p : Int) (A : Option Addr) (n c : Nat) (xs : List Int) (hc : Cls p xs) (E : Option Addr) (m d : Nat) (ls : List (Int × Int)) (H : Exs p ls) (w : World) (hs : Sl w A n c (xs.map (Value.int .i64))) (he : Sl2 w E m d ls) :
    Calls Try.prog 16 #[.int .i64 p, .slice A n c, .slice E m d] w fun e w' => ∃ A' k c', e = .returned (.tuple #[.slice A' k c', .int .i64 0]) ∧ Sl w' A' k c' ((leftL xs ls).map (Value.int .i64)) ∧ Below w.heap.size w w' := by
  have hl := hs.numlen
  have hn : n ≤ 16 := by have := hc.n16; omega
  have hp : p ≤ 60 := by have := hc.p5; omega
  have HR := hid (readOk p A n c xs w (fun _ _ => True) hs hc)
  have HF := hid fun s B W (hW : Sch W s p A n c xs B) (hW2 : Sl2 W E m d ls) => afterOk s p A n c xs B hp hn E m d ls H W hW hW2
  have HX := hid (show sel n (fun _ => true) xs = xs by rw [← hl]; exact sel_all xs)
  have HS := hid hs; have HE := hid he
  clear hl hs he H hc
  go_enter Try.func16, Try.ntmps16
  go_wp2_with fail
  refine (HR.out).mono ?_; rintro e w1 ⟨s, B, rfl, _, _, _, hsch, _, hb⟩
  go_wp2_with fail
  refine (HF.out s B _ hsch (HE.out.below hb)).mono ?_; rintro e w2 ⟨g, rfl, hg, hb2⟩
  have hbb : Below w.heap.size w w2 := below_call hb hb2 hb.size
  have HG := hid hg
  have hs2 := HS.out.below hbb
  clear hg hb hb2 hsch
  go_wp2
  go_loopg [11, 32] n (fun gk o i wr => ∃ k : Nat, gk + k = n ∧ i = .int .i64 k ∧ (∃ A' q c', o = .slice A' q c' ∧ wr.ownsRow w.heap.size 3 1 (.slice A' q c') q ((sel k g xs).map (Value.int .i64))) ∧ Below w.heap.size w wr)
  case atStart => exact ⟨0, by omega, rfl, ⟨none, 0, 0, rfl, by simpa [sel] using World.ownsRow_nil _ _ _ _⟩, hbb⟩
  case round =>
    obtain ⟨k, hk, rfl, ⟨A', q, c', rfl, ho⟩, hb⟩ := hrel
    have HK := hid hk; clear hk
    have hz := hid hb.size
    have HO := hid ho
    have hq : q ≤ 16 := by
      have h1 := sel_len k g xs
      have h2 : (sel k g xs).length = q := by simpa using ho.1
      have := HK.out; omega
    clear ho
    by_cases hlt : k < n
    · obtain ⟨b, o, rfl, lb, _, ca⟩ := HS.out.num hlt
      have cc := (hb.cell (p := ⟨b, o + k, none⟩) lb).trans ca
      have hf : Fits (k : Int) := ⟨by omega, by omega⟩
      have hbit := mk_bitB g hlt
      have hS := hid (sel_succ k g xs)
      have h16 : k < 16 := by omega
      clear ca
      by_cases hv : g k = true
      · have ht : (bitV (mk n g) k == 1) = true := by rw [hv] at hbit; exact hbit
        have hS2 := hid (show sel (k + 1) g xs = sel k g xs ++ [at0 xs k] by rw [hS.out, if_pos hv])
        clear hv hbit
        go_wp2_with (at_builtin; refine push1 TI wr #[.int .i64 (at0 xs k)] _ q _ _ HO.out _ _ rfl rfl rfl rfl rfl (by simp [Value.oneCell']) (by omega) (by omega) hz.out ?_; intro v1 w3 hown1 hgr; have hb1 : Below w.heap.size w w3 := below_push hb HO.out hgr hz.out (Nat.le_refl _))
        obtain ⟨A1, c1, rfl⟩ := own_form hown1
        clear hgr
        go_wp2
        go_roundg (gk - 1)
        case measure => have := HK.out; omega
        case rel => exact ⟨k + 1, by have := HK.out; omega, by go_num, ⟨A1, q + 1, c1, rfl, by rw [hS2.out, List.map_append]; simpa using hown1⟩, hb1⟩
      · have ht : (bitV (mk n g) k == 1) = false := by
          have hv' : g k = false := by simpa using hv
          rw [hv'] at hbit; exact hbit
        have hS2 := hid (show sel (k + 1) g xs = sel k g xs by rw [hS.out, if_neg hv, List.append_nil])
        clear hv hbit
        go_wp2
        go_roundg (gk - 1)
        case measure => have := HK.out; omega
        case rel => exact ⟨k + 1, by have := HK.out; omega, by go_num, ⟨A', q, c', rfl, by rw [hS2.out]; exact HO.out⟩, hb⟩
    · obtain rfl : k = n := by have := HK.out; omega
      go_wp2
      go_ret2
      exact ⟨A', q, c', rfl, by have h1 := Sl.of_own HO.out; rw [HG.out, HX.out] at h1; exact h1, hb⟩
end Go.Proofs.Ytpebglilphgamaa
