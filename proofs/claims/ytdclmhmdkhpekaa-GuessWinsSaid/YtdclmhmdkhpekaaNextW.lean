/- Walk of next: the next question in the order of rows. Conditions: a question that was made, for a state. -/
import Derived.Test.YtdclmhmdkhpekaaNext
namespace Go.Proofs.Ytdclmhmdkhpekaa
open Go.RowKit

/-- A question, and the next one; false: it was the last. -/
inductive NextR (n : Nat) (xs : List Int) (f : Nat → Int) : (Nat → Int) → Bool → Prop
  | some (i : Nat) (hi : i < n) (h1 : f i < at0 xs i) (h2 : ∀ j, i < j → j < n → at0 xs j ≤ f j) : NextR n xs f (fun j => if j < i then f j else if j = i then f i + 1 else 0) true
  | none (g : Nat → Int) (h : ∀ j, j < n → at0 xs j ≤ f j) : NextR n xs f g false
def NextQ (n : Nat) (xs : List Int) (f : Nat → Int) (gb : Nat) (w : World) (e : Ending) (w' : World) : Prop := ∃ f' ok, e = .returned (.bool ok) ∧ NextR n xs f f' ok ∧ Blk w' gb 3 (arr n f') ∧ w.grownBy w' (some gb)
theorem grow_drewN {a b : World} {r : Option Nat} (h : a.grownBy b r) (n : Nat) : a.grownBy (b.drewN n) r := grow_trans h ⟨rfl, rfl, rfl, Nat.le_refl _, fun _ _ _ => rfl⟩
theorem grow_set {a b : World} {g : Nat} (h : a.grownBy b (some g)) (i : Nat) (u : Value) : a.grownBy (b.setCell ⟨g, i, none⟩ u) (some g) :=
  grow_trans h ⟨rfl, rfl, rfl, by simp, fun k _ hk => Below.heap_setCell b ⟨g, i, none⟩ u k (by intro e; exact hk (by rw [e]))⟩

set_option maxRecDepth 100000 in
set_option maxHeartbeats 2000000 in
theorem nextS (A : Option Addr) (n c gb d : Nat) (xs : List Int) (f : Nat → Int) (hn : n ≤ 4) (hx : Small xs) (hf : ∀ j, j < n → 0 ≤ f j ∧ f j ≤ 60) (w : World) (hs : Sl w A n c (xs.map (Value.int .i64))) (hne : ∀ a, A = some a → a.block ≠ gb) (hb : Blk w gb 3 (arr n f)) :
    Calls Try.prog 77 #[.slice A n c, .slice (some ⟨gb, 0, none⟩) n d] w (NextQ n xs f gb w) := by
  have HX := hid hx
  have HF := hid hf
  have HN := hid hne
  have HB := hid hb
  clear hne hb hx hf
  go_enter Try.func77, Try.ntmps77
  go_wp2
  go_loopg [5] n (fun gk i wr => ∃ m : Nat, gk = m ∧ m ≤ n ∧ i = .int .i64 ((m : Int) - 1) ∧ (∀ j, m ≤ j → j < n → at0 xs j ≤ f j) ∧ Blk wr gb 3 (arr n fun j => if j < m then f j else 0) ∧ w.grownBy wr (some gb))
  case atStart => exact ⟨n, rfl, Nat.le_refl _, by go_num, fun j h1 h2 => absurd h2 (by omega), by rw [arr_congr (g := f) fun j hj => if_pos hj]; exact HB.out, grow_refl _ _⟩
  case round =>
    obtain ⟨m, rfl, hm, rfl, hno, hbk, hg⟩ := hrel
    have HO := hid hno; have HK := hid hbk; have HG := hid hg
    cases gk with
    | zero =>
      have g0 : decide ((0 : Int) ≤ ((0 : Nat) : Int) - 1) = false := by decide
      clear hno hbk hg
      go_wp2
      go_ret
      exact ⟨_, false, rfl, .none _ fun j hj => HO.out j (by omega) hj, HK.out, HG.out⟩
    | succ m =>
      have e1 : ((m + 1 : Nat) : Int) - 1 = (m : Int) := by omega
      rw [e1]
      have hmn : m < n := by omega
      obtain ⟨b, o, rfl, lb, _, ca⟩ := hs.num hmn
      have hbg := HN.out _ rfl
      have cc : wr.cell? ⟨b, o + m, none⟩ = some (.int .i64 (at0 xs m)) := (World.cell?_of_block (a := ⟨b, o + m, none⟩) (HG.out.block b lb (by intro e; injection e with e; exact hbg e))).trans ca
      have cq := HK.out.cell m
      rw [arr_get hmn, if_pos (by omega)] at cq
      have fq := HK.out.free m
      have hf := HF.out m hmn
      have g1 : decide ((0 : Int) ≤ (m : Int)) = true := decide_eq_true (by omega)
      clear hno hbk hg ca
      by_cases hlt : f m < at0 xs m
      · have g2 : decide (f m < at0 xs m) = true := decide_eq_true hlt
        have HT := hid hlt
        clear hlt
        go_wp2_with fail
        go_quiet (fail)
        generalize hW : wr.drewN _ = W at *
        have HK1 := hid (show Blk W gb 3 (arr n fun j => if j < m + 1 then f j else 0) by rw [← hW]; exact HK.out.drewN _)
        have HG1 := hid (show w.grownBy W (some gb) by rw [← hW]; exact grow_drewN HG.out _)
        clear hW cq cc fq
        have cq := HK1.out.cell m
        rw [arr_get hmn, if_pos (by omega)] at cq
        have fq := HK1.out.free m
        go_wp2_with fail
        go_ret
        refine ⟨_, true, rfl, .some m hmn HT.out fun j h1 h2 => HO.out j (by omega) h2, ?_, grow_set HG1.out m _⟩
        have := HK1.out.set m (.int .i64 (f m + 1))
        rwa [arr_step (g := fun j => if j < m then f j else if j = m then f m + 1 else 0) fun j hj => by
          by_cases e : j = m
          · subst e; simp
          · by_cases e2 : j < m
            · simp [e, e2, show j < m + 1 by omega]
            · simp [e, e2, show ¬ j < m + 1 by omega]] at this
      · have g2 : decide (f m < at0 xs m) = false := decide_eq_false hlt
        have HT := hid (show at0 xs m ≤ f m by omega)
        clear hlt
        go_wp2_with fail
        go_quiet (fail)
        generalize hW : wr.drewN _ = W at *
        have HK1 := hid (show Blk W gb 3 (arr n fun j => if j < m + 1 then f j else 0) by rw [← hW]; exact HK.out.drewN _)
        have HG1 := hid (show w.grownBy W (some gb) by rw [← hW]; exact grow_drewN HG.out _)
        clear hW cq cc fq
        have cq := HK1.out.cell m
        rw [arr_get hmn, if_pos (by omega)] at cq
        have fq := HK1.out.free m
        go_wp2_with fail
        go_roundg m
        case measure => omega
        case rel =>
          refine ⟨m, rfl, by omega, by go_num, fun j h1 h2 => ?_, ?_, grow_set HG1.out m _⟩
          · by_cases e : j = m
            · subst e; exact HT.out
            · exact HO.out j (by omega) h2
          · have := HK1.out.set m (.int .i64 0)
            rwa [arr_step (g := fun j => if j < m then f j else 0) fun j hj => by
              by_cases e : j = m
              · subst e; simp
              · by_cases e2 : j < m
                · simp [e, e2, show j < m + 1 by omega]
                · simp [e, e2, show ¬ j < m + 1 by omega]] at this
end Go.Proofs.Ytdclmhmdkhpekaa
