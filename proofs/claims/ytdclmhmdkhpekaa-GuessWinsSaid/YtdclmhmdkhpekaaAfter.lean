/- Walks of after and After: the state after a reply. Conditions: a question for a state of small numbers. -/
import Derived.Test.YtdclmhmdkhpekaaLiar2
import Derived.Test.YtdclmhmdkhpekaaMem2
namespace Go.Proofs.Ytdclmhmdkhpekaa
open Go.RowKit

theorem TS79 : TS Try.prog 79 3 1 8 (.int .i64 0) := ⟨Try.underlying79, by kernel_rfl, rfl, by decide⟩

theorem inA_bd {yes : Bool} {xs q : List Int} {m : Int} {j : Nat} (hx : ∀ x ∈ xs, 0 ≤ x ∧ x ≤ m) (hq : askOk xs q = true) (hj : j < xs.length) : 0 ≤ inA yes xs q j ∧ inA yes xs q j ≤ m := by
  have h := askOk_iff.1 hq
  have h1 := h.2 j (by omega)
  have h2 := hx _ (at0_mem hj)
  unfold inA
  split <;> omega
theorem aftk_bd {yes : Bool} {xs q : List Int} {m : Int} {k : Nat} (hm : 0 ≤ m) (hx : ∀ x ∈ xs, 0 ≤ x ∧ x ≤ m) (hq : askOk xs q = true) (hk : k < xs.length) : 0 ≤ aftk yes xs q k k ∧ aftk yes xs q k k ≤ m := by
  unfold aftk
  rw [if_neg (by omega)]
  split
  · exact inA_bd hx hq (by omega)
  · omega
theorem aftk_step1 {yes : Bool} {xs q : List Int} {k n : Nat} (hk : k + 1 < n) : ∀ j, j < n → aftk yes xs q (k + 1) j = if j = k + 1 then inA (!yes) xs q k else if j = k then aft yes xs q k else aftk yes xs q k j := by
  intro j _
  unfold aftk
  by_cases e : j = k + 1
  · subst e; simp
  · rw [if_neg e]
    by_cases e2 : j = k
    · subst e2; simp
    · rw [if_neg e2]
      by_cases e3 : j < k
      · rw [if_pos (by omega), if_pos e3]
      · rw [if_neg (by omega), if_neg (by omega), if_neg e3, if_neg (by omega)]
theorem aftk_step2 {yes : Bool} {xs q : List Int} {k n : Nat} (hk : k + 1 = n) : ∀ j, j < n → aftk yes xs q (k + 1) j = if j = k then aft yes xs q k else aftk yes xs q k j := by
  intro j hj
  unfold aftk
  by_cases e2 : j = k
  · subst e2; simp
  · rw [if_neg e2, if_pos (by omega), if_pos (by omega)]
theorem aftk_end (yes : Bool) (xs q : List Int) : (arr xs.length (aftk yes xs q xs.length)).toList = (after yes xs q).map (Value.int .i64) := by
  unfold arr after
  rw [List.map_map]
  apply List.map_congr_left
  intro j hj
  simp only [List.mem_range] at hj
  simp [aftk, hj]


set_option maxRecDepth 100000 in
set_option maxHeartbeats 2000000 in
theorem progAfter_true (A B : Option Addr) (n c d : Nat) (xs q : List Int) (m : Int) (h0 : 0 ≤ m) (hm : m ≤ 1000) (hn1 : 1 ≤ n) (hn4 : n ≤ 4) (hx : ∀ x ∈ xs, 0 ≤ x ∧ x ≤ m) (hk : askOk xs q = true) (w : World) (hs : Sl w A n c (xs.map (Value.int .i64))) (hq : Sl w B n d (q.map (Value.int .i64))) :
    Calls Try.prog 63 #[.slice A n c, .slice B n d, .bool true] w fun e w' => ∃ A' c', e = .returned (.slice A' n c') ∧ w'.ownsRow w.heap.size 3 1 (.slice A' n c') n ((after true xs q).map (Value.int .i64)) ∧ Below w.heap.size w w' := by
  have hln := hs.numlen
  obtain ⟨i0, hi, hz0, hz1, hz2⟩ := info_parts TS79.inf
  have HX := hid hx; have HK := hid hk; have HL := hid hln
  clear hx hk hln
  go_enter Try.func63, Try.ntmps63
  go_wp2_with (at_make; refine wpList_make_full _ rfl _ _ 79 rfl w.heap.size 3 i0 (.int .i64 0) 1 TS79.und hi hz0 hz1 _ _ _ _ n rfl rfl rfl rfl (by rw [hz2]; omega) (by unfold maxLen; omega) (Nat.le_refl _) ?_; intro w1 hown1 hg1; have hb1 : Below w.heap.size w w1 := (Below.refl _ _).grown hg1 (Nat.le_refl _) (fun k hk => by cases hk); have bo := own_blk hown1; rw [made_arr] at bo; clear hown1 hg1)
  go_loopg [17] n (fun gk i wr => ∃ k : Nat, gk + k = n ∧ i = .int .i64 k ∧ Blk wr w.heap.size 3 (arr n (aftk true xs q k)) ∧ Below w.heap.size w wr)
  case atStart => exact ⟨0, by omega, rfl, by rw [arr_congr fun j _ => aftk_zero true xs q j]; exact bo, hb1⟩
  case round =>
    clear bo hb1
    obtain ⟨k, hk, rfl, bo, hb⟩ := hrel
    have HG := hid hk; clear hk
    by_cases hlt : k < n
    · have hkl : k < xs.length := by have := HL.out; omega
      have i1 := inA_bd (yes := true) HX.out HK.out hkl
      have i2 := inA_bd (yes := !true) HX.out HK.out hkl
      have i3 := aftk_bd (yes := true) h0 HX.out HK.out hkl
      have y1 := hid (show inA true xs q k = at0 q k from rfl)
      have y2 := hid (show inA (!true) xs q k = at0 xs k - at0 q k from rfl)
      rw [y1.out] at i1
      rw [y2.out] at i2
      obtain ⟨b1, o1, rfl, lb1, _, ca⟩ := hs.num hlt
      obtain ⟨b2, o2, rfl, lb2, _, cb⟩ := hq.num hlt
      have ca' : wr.cell? ⟨b1, o1 + k, none⟩ = some (.int .i64 (at0 xs k)) := (hb.cell (p := ⟨b1, o1 + k, none⟩) lb1).trans ca
      have cb' : wr.cell? ⟨b2, o2 + k, none⟩ = some (.int .i64 (at0 q k)) := (hb.cell (p := ⟨b2, o2 + k, none⟩) lb2).trans cb
      have co := (bo.cell k).trans (arr_get hlt)
      have fo := bo.free k
      have e1 := hid (aftk_here true xs q k)
      clear ca cb hkl
      by_cases hl2 : k + 1 < n
      · have co2 := (bo.cell (k + 1)).trans (arr_get hl2)
        rw [aftk_next] at co2
        have fo2 := bo.free (k + 1)
        go_wp2_with fail
        go_quiet (fail)
        go_wp2
        go_roundg (gk - 1)
        case measure => have := HG.out; omega
        case rel =>
          refine ⟨k + 1, by have := HG.out; omega, by go_num, ?_, ?_⟩
          · have hst : ∀ j, j < n → aftk true xs q (k + 1) j = if j = k + 1 then at0 xs k - at0 q k else if j = k then aftk true xs q k k + (at0 q k) else aftk true xs q k j := fun j hj => by rw [aftk_step1 hl2 j hj, ← e1.out, y1.out, y2.out]
            have hb2 := ((bo.drewN nq).set k (.int .i64 (aftk true xs q k k + (at0 q k)))).set (k + 1) (.int .i64 (at0 xs k - at0 q k))
            rw [arr_set, arr_set] at hb2
            rw [arr_congr hst]
            exact hb2
          · exact ((show Below w.heap.size w (wr.drewN nq) from below_drewN hb _).setCell (by simp) _).setCell (by simp) _
      · go_wp2_with fail
        go_quiet (fail)
        go_wp2
        go_roundg (gk - 1)
        case measure => have := HG.out; omega
        case rel =>
          refine ⟨k + 1, by have := HG.out; omega, by go_num, ?_, ?_⟩
          · have hst : ∀ j, j < n → aftk true xs q (k + 1) j = if j = k then aftk true xs q k k + (at0 q k) else aftk true xs q k j := fun j hj => by rw [aftk_step2 (show k + 1 = n by omega) j hj, ← e1.out, y1.out]
            have hb2 := ((bo.drewN nq).set k (.int .i64 (aftk true xs q k k + (at0 q k))))
            rw [arr_set] at hb2
            rw [arr_congr hst]
            exact hb2
          · exact (show Below w.heap.size w (wr.drewN nq) from below_drewN hb _).setCell (by simp) _
    · obtain rfl : k = n := by have := HG.out; omega
      go_wp2
      go_ret
      refine ⟨_, _, rfl, ?_, hb⟩
      have hl := HL.out
      have := blk_own (base := w.heap.size) bo (Nat.le_refl _) (arr_size _ _).symm (by omega)
      rw [← aftk_end, hl]
      exact this

set_option maxRecDepth 100000 in
set_option maxHeartbeats 2000000 in
theorem refAfter_true (A B : Option Addr) (n c d : Nat) (xs q : List Int) (m : Int) (h0 : 0 ≤ m) (hm : m ≤ 1000) (hn1 : 1 ≤ n) (hn4 : n ≤ 4) (hx : ∀ x ∈ xs, 0 ≤ x ∧ x ≤ m) (hk : askOk xs q = true) (w : World) (hs : Sl w A n c (xs.map (Value.int .i64))) (hq : Sl w B n d (q.map (Value.int .i64))) :
    Calls Try.prog 38 #[.slice A n c, .slice B n d, .bool true] w fun e w' => ∃ A' c', e = .returned (.slice A' n c') ∧ w'.ownsRow w.heap.size 3 1 (.slice A' n c') n ((after true xs q).map (Value.int .i64)) ∧ Below w.heap.size w w' := by
  have hln := hs.numlen
  obtain ⟨i0, hi, hz0, hz1, hz2⟩ := info_parts TI.inf
  have HX := hid hx; have HK := hid hk; have HL := hid hln
  clear hx hk hln
  go_enter Try.func38, Try.ntmps38
  go_wp2_with (at_make; refine wpList_make_full _ rfl _ _ 34 rfl w.heap.size 3 i0 (.int .i64 0) 1 TI.und hi hz0 hz1 _ _ _ _ n rfl rfl rfl rfl (by rw [hz2]; omega) (by unfold maxLen; omega) (Nat.le_refl _) ?_; intro w1 hown1 hg1; have hb1 : Below w.heap.size w w1 := (Below.refl _ _).grown hg1 (Nat.le_refl _) (fun k hk => by cases hk); have bo := own_blk hown1; rw [made_arr] at bo; clear hown1 hg1)
  go_loopg [16] n (fun gk i wr => ∃ k : Nat, gk + k = n ∧ i = .int .i64 k ∧ Blk wr w.heap.size 3 (arr n (aftk true xs q k)) ∧ Below w.heap.size w wr)
  case atStart => exact ⟨0, by omega, rfl, by rw [arr_congr fun j _ => aftk_zero true xs q j]; exact bo, hb1⟩
  case round =>
    clear bo hb1
    obtain ⟨k, hk, rfl, bo, hb⟩ := hrel
    have HG := hid hk; clear hk
    by_cases hlt : k < n
    · have hkl : k < xs.length := by have := HL.out; omega
      have i1 := inA_bd (yes := true) HX.out HK.out hkl
      have i2 := inA_bd (yes := !true) HX.out HK.out hkl
      have i3 := aftk_bd (yes := true) h0 HX.out HK.out hkl
      have y1 := hid (show inA true xs q k = at0 q k from rfl)
      have y2 := hid (show inA (!true) xs q k = at0 xs k - at0 q k from rfl)
      rw [y1.out] at i1
      rw [y2.out] at i2
      obtain ⟨b1, o1, rfl, lb1, _, ca⟩ := hs.num hlt
      obtain ⟨b2, o2, rfl, lb2, _, cb⟩ := hq.num hlt
      have ca' : wr.cell? ⟨b1, o1 + k, none⟩ = some (.int .i64 (at0 xs k)) := (hb.cell (p := ⟨b1, o1 + k, none⟩) lb1).trans ca
      have cb' : wr.cell? ⟨b2, o2 + k, none⟩ = some (.int .i64 (at0 q k)) := (hb.cell (p := ⟨b2, o2 + k, none⟩) lb2).trans cb
      have co := (bo.cell k).trans (arr_get hlt)
      have fo := bo.free k
      have e1 := hid (aftk_here true xs q k)
      clear ca cb hkl
      by_cases hl2 : k + 1 < n
      · have co2 := (bo.cell (k + 1)).trans (arr_get hl2)
        rw [aftk_next] at co2
        have fo2 := bo.free (k + 1)
        go_wp2_with fail
        go_quiet (fail)
        go_wp2
        go_roundg (gk - 1)
        case measure => have := HG.out; omega
        case rel =>
          refine ⟨k + 1, by have := HG.out; omega, by go_num, ?_, ?_⟩
          · have hst : ∀ j, j < n → aftk true xs q (k + 1) j = if j = k + 1 then at0 xs k - at0 q k else if j = k then aftk true xs q k k + (at0 q k) else aftk true xs q k j := fun j hj => by rw [aftk_step1 hl2 j hj, ← e1.out, y1.out, y2.out]
            have hb2 := ((bo.drewN nq).set k (.int .i64 (aftk true xs q k k + (at0 q k)))).set (k + 1) (.int .i64 (at0 xs k - at0 q k))
            rw [arr_set, arr_set] at hb2
            rw [arr_congr hst]
            exact hb2
          · exact ((show Below w.heap.size w (wr.drewN nq) from below_drewN hb _).setCell (by simp) _).setCell (by simp) _
      · go_wp2_with fail
        go_quiet (fail)
        go_wp2
        go_roundg (gk - 1)
        case measure => have := HG.out; omega
        case rel =>
          refine ⟨k + 1, by have := HG.out; omega, by go_num, ?_, ?_⟩
          · have hst : ∀ j, j < n → aftk true xs q (k + 1) j = if j = k then aftk true xs q k k + (at0 q k) else aftk true xs q k j := fun j hj => by rw [aftk_step2 (show k + 1 = n by omega) j hj, ← e1.out, y1.out]
            have hb2 := ((bo.drewN nq).set k (.int .i64 (aftk true xs q k k + (at0 q k))))
            rw [arr_set] at hb2
            rw [arr_congr hst]
            exact hb2
          · exact (show Below w.heap.size w (wr.drewN nq) from below_drewN hb _).setCell (by simp) _
    · obtain rfl : k = n := by have := HG.out; omega
      go_wp2
      go_ret
      refine ⟨_, _, rfl, ?_, hb⟩
      have hl := HL.out
      have := blk_own (base := w.heap.size) bo (Nat.le_refl _) (arr_size _ _).symm (by omega)
      rw [← aftk_end, hl]
      exact this

set_option maxRecDepth 100000 in
set_option maxHeartbeats 2000000 in
theorem progAfter_false (A B : Option Addr) (n c d : Nat) (xs q : List Int) (m : Int) (h0 : 0 ≤ m) (hm : m ≤ 1000) (hn1 : 1 ≤ n) (hn4 : n ≤ 4) (hx : ∀ x ∈ xs, 0 ≤ x ∧ x ≤ m) (hk : askOk xs q = true) (w : World) (hs : Sl w A n c (xs.map (Value.int .i64))) (hq : Sl w B n d (q.map (Value.int .i64))) :
    Calls Try.prog 63 #[.slice A n c, .slice B n d, .bool false] w fun e w' => ∃ A' c', e = .returned (.slice A' n c') ∧ w'.ownsRow w.heap.size 3 1 (.slice A' n c') n ((after false xs q).map (Value.int .i64)) ∧ Below w.heap.size w w' := by
  have hln := hs.numlen
  obtain ⟨i0, hi, hz0, hz1, hz2⟩ := info_parts TS79.inf
  have HX := hid hx; have HK := hid hk; have HL := hid hln
  clear hx hk hln
  go_enter Try.func63, Try.ntmps63
  go_wp2_with (at_make; refine wpList_make_full _ rfl _ _ 79 rfl w.heap.size 3 i0 (.int .i64 0) 1 TS79.und hi hz0 hz1 _ _ _ _ n rfl rfl rfl rfl (by rw [hz2]; omega) (by unfold maxLen; omega) (Nat.le_refl _) ?_; intro w1 hown1 hg1; have hb1 : Below w.heap.size w w1 := (Below.refl _ _).grown hg1 (Nat.le_refl _) (fun k hk => by cases hk); have bo := own_blk hown1; rw [made_arr] at bo; clear hown1 hg1)
  go_loopg [17] n (fun gk i wr => ∃ k : Nat, gk + k = n ∧ i = .int .i64 k ∧ Blk wr w.heap.size 3 (arr n (aftk false xs q k)) ∧ Below w.heap.size w wr)
  case atStart => exact ⟨0, by omega, rfl, by rw [arr_congr fun j _ => aftk_zero false xs q j]; exact bo, hb1⟩
  case round =>
    clear bo hb1
    obtain ⟨k, hk, rfl, bo, hb⟩ := hrel
    have HG := hid hk; clear hk
    by_cases hlt : k < n
    · have hkl : k < xs.length := by have := HL.out; omega
      have i1 := inA_bd (yes := false) HX.out HK.out hkl
      have i2 := inA_bd (yes := !false) HX.out HK.out hkl
      have i3 := aftk_bd (yes := false) h0 HX.out HK.out hkl
      have y1 := hid (show inA false xs q k = at0 xs k - at0 q k from rfl)
      have y2 := hid (show inA (!false) xs q k = at0 q k from rfl)
      rw [y1.out] at i1
      rw [y2.out] at i2
      obtain ⟨b1, o1, rfl, lb1, _, ca⟩ := hs.num hlt
      obtain ⟨b2, o2, rfl, lb2, _, cb⟩ := hq.num hlt
      have ca' : wr.cell? ⟨b1, o1 + k, none⟩ = some (.int .i64 (at0 xs k)) := (hb.cell (p := ⟨b1, o1 + k, none⟩) lb1).trans ca
      have cb' : wr.cell? ⟨b2, o2 + k, none⟩ = some (.int .i64 (at0 q k)) := (hb.cell (p := ⟨b2, o2 + k, none⟩) lb2).trans cb
      have co := (bo.cell k).trans (arr_get hlt)
      have fo := bo.free k
      have e1 := hid (aftk_here false xs q k)
      clear ca cb hkl
      by_cases hl2 : k + 1 < n
      · have co2 := (bo.cell (k + 1)).trans (arr_get hl2)
        rw [aftk_next] at co2
        have fo2 := bo.free (k + 1)
        go_wp2_with fail
        go_quiet (fail)
        go_wp2
        go_roundg (gk - 1)
        case measure => have := HG.out; omega
        case rel =>
          refine ⟨k + 1, by have := HG.out; omega, by go_num, ?_, ?_⟩
          · have hst : ∀ j, j < n → aftk false xs q (k + 1) j = if j = k + 1 then at0 q k else if j = k then aftk false xs q k k + (at0 xs k - at0 q k) else aftk false xs q k j := fun j hj => by rw [aftk_step1 hl2 j hj, ← e1.out, y1.out, y2.out]
            have hb2 := ((bo.drewN nq).set k (.int .i64 (aftk false xs q k k + (at0 xs k - at0 q k)))).set (k + 1) (.int .i64 (at0 q k))
            rw [arr_set, arr_set] at hb2
            rw [arr_congr hst]
            exact hb2
          · exact ((show Below w.heap.size w (wr.drewN nq) from below_drewN hb _).setCell (by simp) _).setCell (by simp) _
      · go_wp2_with fail
        go_quiet (fail)
        go_wp2
        go_roundg (gk - 1)
        case measure => have := HG.out; omega
        case rel =>
          refine ⟨k + 1, by have := HG.out; omega, by go_num, ?_, ?_⟩
          · have hst : ∀ j, j < n → aftk false xs q (k + 1) j = if j = k then aftk false xs q k k + (at0 xs k - at0 q k) else aftk false xs q k j := fun j hj => by rw [aftk_step2 (show k + 1 = n by omega) j hj, ← e1.out, y1.out]
            have hb2 := ((bo.drewN nq).set k (.int .i64 (aftk false xs q k k + (at0 xs k - at0 q k))))
            rw [arr_set] at hb2
            rw [arr_congr hst]
            exact hb2
          · exact (show Below w.heap.size w (wr.drewN nq) from below_drewN hb _).setCell (by simp) _
    · obtain rfl : k = n := by have := HG.out; omega
      go_wp2
      go_ret
      refine ⟨_, _, rfl, ?_, hb⟩
      have hl := HL.out
      have := blk_own (base := w.heap.size) bo (Nat.le_refl _) (arr_size _ _).symm (by omega)
      rw [← aftk_end, hl]
      exact this

set_option maxRecDepth 100000 in
set_option maxHeartbeats 2000000 in
theorem refAfter_false (A B : Option Addr) (n c d : Nat) (xs q : List Int) (m : Int) (h0 : 0 ≤ m) (hm : m ≤ 1000) (hn1 : 1 ≤ n) (hn4 : n ≤ 4) (hx : ∀ x ∈ xs, 0 ≤ x ∧ x ≤ m) (hk : askOk xs q = true) (w : World) (hs : Sl w A n c (xs.map (Value.int .i64))) (hq : Sl w B n d (q.map (Value.int .i64))) :
    Calls Try.prog 38 #[.slice A n c, .slice B n d, .bool false] w fun e w' => ∃ A' c', e = .returned (.slice A' n c') ∧ w'.ownsRow w.heap.size 3 1 (.slice A' n c') n ((after false xs q).map (Value.int .i64)) ∧ Below w.heap.size w w' := by
  have hln := hs.numlen
  obtain ⟨i0, hi, hz0, hz1, hz2⟩ := info_parts TI.inf
  have HX := hid hx; have HK := hid hk; have HL := hid hln
  clear hx hk hln
  go_enter Try.func38, Try.ntmps38
  go_wp2_with (at_make; refine wpList_make_full _ rfl _ _ 34 rfl w.heap.size 3 i0 (.int .i64 0) 1 TI.und hi hz0 hz1 _ _ _ _ n rfl rfl rfl rfl (by rw [hz2]; omega) (by unfold maxLen; omega) (Nat.le_refl _) ?_; intro w1 hown1 hg1; have hb1 : Below w.heap.size w w1 := (Below.refl _ _).grown hg1 (Nat.le_refl _) (fun k hk => by cases hk); have bo := own_blk hown1; rw [made_arr] at bo; clear hown1 hg1)
  go_loopg [16] n (fun gk i wr => ∃ k : Nat, gk + k = n ∧ i = .int .i64 k ∧ Blk wr w.heap.size 3 (arr n (aftk false xs q k)) ∧ Below w.heap.size w wr)
  case atStart => exact ⟨0, by omega, rfl, by rw [arr_congr fun j _ => aftk_zero false xs q j]; exact bo, hb1⟩
  case round =>
    clear bo hb1
    obtain ⟨k, hk, rfl, bo, hb⟩ := hrel
    have HG := hid hk; clear hk
    by_cases hlt : k < n
    · have hkl : k < xs.length := by have := HL.out; omega
      have i1 := inA_bd (yes := false) HX.out HK.out hkl
      have i2 := inA_bd (yes := !false) HX.out HK.out hkl
      have i3 := aftk_bd (yes := false) h0 HX.out HK.out hkl
      have y1 := hid (show inA false xs q k = at0 xs k - at0 q k from rfl)
      have y2 := hid (show inA (!false) xs q k = at0 q k from rfl)
      rw [y1.out] at i1
      rw [y2.out] at i2
      obtain ⟨b1, o1, rfl, lb1, _, ca⟩ := hs.num hlt
      obtain ⟨b2, o2, rfl, lb2, _, cb⟩ := hq.num hlt
      have ca' : wr.cell? ⟨b1, o1 + k, none⟩ = some (.int .i64 (at0 xs k)) := (hb.cell (p := ⟨b1, o1 + k, none⟩) lb1).trans ca
      have cb' : wr.cell? ⟨b2, o2 + k, none⟩ = some (.int .i64 (at0 q k)) := (hb.cell (p := ⟨b2, o2 + k, none⟩) lb2).trans cb
      have co := (bo.cell k).trans (arr_get hlt)
      have fo := bo.free k
      have e1 := hid (aftk_here false xs q k)
      clear ca cb hkl
      by_cases hl2 : k + 1 < n
      · have co2 := (bo.cell (k + 1)).trans (arr_get hl2)
        rw [aftk_next] at co2
        have fo2 := bo.free (k + 1)
        go_wp2_with fail
        go_quiet (fail)
        go_wp2
        go_roundg (gk - 1)
        case measure => have := HG.out; omega
        case rel =>
          refine ⟨k + 1, by have := HG.out; omega, by go_num, ?_, ?_⟩
          · have hst : ∀ j, j < n → aftk false xs q (k + 1) j = if j = k + 1 then at0 q k else if j = k then aftk false xs q k k + (at0 xs k - at0 q k) else aftk false xs q k j := fun j hj => by rw [aftk_step1 hl2 j hj, ← e1.out, y1.out, y2.out]
            have hb2 := ((bo.drewN nq).set k (.int .i64 (aftk false xs q k k + (at0 xs k - at0 q k)))).set (k + 1) (.int .i64 (at0 q k))
            rw [arr_set, arr_set] at hb2
            rw [arr_congr hst]
            exact hb2
          · exact ((show Below w.heap.size w (wr.drewN nq) from below_drewN hb _).setCell (by simp) _).setCell (by simp) _
      · go_wp2_with fail
        go_quiet (fail)
        go_wp2
        go_roundg (gk - 1)
        case measure => have := HG.out; omega
        case rel =>
          refine ⟨k + 1, by have := HG.out; omega, by go_num, ?_, ?_⟩
          · have hst : ∀ j, j < n → aftk false xs q (k + 1) j = if j = k then aftk false xs q k k + (at0 xs k - at0 q k) else aftk false xs q k j := fun j hj => by rw [aftk_step2 (show k + 1 = n by omega) j hj, ← e1.out, y1.out]
            have hb2 := ((bo.drewN nq).set k (.int .i64 (aftk false xs q k k + (at0 xs k - at0 q k))))
            rw [arr_set] at hb2
            rw [arr_congr hst]
            exact hb2
          · exact (show Below w.heap.size w (wr.drewN nq) from below_drewN hb _).setCell (by simp) _
    · obtain rfl : k = n := by have := HG.out; omega
      go_wp2
      go_ret
      refine ⟨_, _, rfl, ?_, hb⟩
      have hl := HL.out
      have := blk_own (base := w.heap.size) bo (Nat.le_refl _) (arr_size _ _).symm (by omega)
      rw [← aftk_end, hl]
      exact this

theorem progAfter (A B : Option Addr) (n c d : Nat) (xs q : List Int) (yes : Bool) (m : Int) (h0 : 0 ≤ m) (hm : m ≤ 1000) (hn1 : 1 ≤ n) (hn4 : n ≤ 4) (hx : ∀ x ∈ xs, 0 ≤ x ∧ x ≤ m) (hk : askOk xs q = true) (w : World) (hs : Sl w A n c (xs.map (Value.int .i64))) (hq : Sl w B n d (q.map (Value.int .i64))) :
    Calls Try.prog 63 #[.slice A n c, .slice B n d, .bool yes] w fun e w' => ∃ A' c', e = .returned (.slice A' n c') ∧ w'.ownsRow w.heap.size 3 1 (.slice A' n c') n ((after yes xs q).map (Value.int .i64)) ∧ Below w.heap.size w w' := by
  cases yes
  · exact progAfter_false A B n c d xs q m h0 hm hn1 hn4 hx hk w hs hq
  · exact progAfter_true A B n c d xs q m h0 hm hn1 hn4 hx hk w hs hq
theorem refAfter (A B : Option Addr) (n c d : Nat) (xs q : List Int) (yes : Bool) (m : Int) (h0 : 0 ≤ m) (hm : m ≤ 1000) (hn1 : 1 ≤ n) (hn4 : n ≤ 4) (hx : ∀ x ∈ xs, 0 ≤ x ∧ x ≤ m) (hk : askOk xs q = true) (w : World) (hs : Sl w A n c (xs.map (Value.int .i64))) (hq : Sl w B n d (q.map (Value.int .i64))) :
    Calls Try.prog 38 #[.slice A n c, .slice B n d, .bool yes] w fun e w' => ∃ A' c', e = .returned (.slice A' n c') ∧ w'.ownsRow w.heap.size 3 1 (.slice A' n c') n ((after yes xs q).map (Value.int .i64)) ∧ Below w.heap.size w w' := by
  cases yes
  · exact refAfter_false A B n c d xs q m h0 hm hn1 hn4 hx hk w hs hq
  · exact refAfter_true A B n c d xs q m h0 hm hn1 hn4 hx hk w hs hq
end Go.Proofs.Ytdclmhmdkhpekaa
