/- Walk of Check. Conditions: the slices read as a class and as nodes. -/
import Derived.Test.YtpebglilphgamaaWTree
import Derived.Test.YtpebglilphgamaaCheckM
namespace Go.Proofs.Ytpebglilphgamaa
open Go.RowKit Go.Maps

attribute [local go_sem ↓] shl_p2

set_option maxRecDepth 100000 in
set_option maxHeartbeats 2000000 in
theorem checkPub (p : Nat) (A : Option Addr) (n c : Nat) (xs : List Int) (T : Option Addr) (m k : Nat) (ts : List Nd) (hm : m ≤ 1000) (w : World) (hs : Sl w A n c (xs.map (Value.int .i64))) (h3 : Sl3 w T m k ts) (H : Cls p xs) :
    Calls Try.prog 27 #[.int .i64 p, .slice A n c, .slice T m k] w fun e w' =>
      e = .returned (.tuple #[.int .i64 (((checkL p xs ts).getD 0 : Nat) : Int), .bool (checkL p xs ts).isSome, .int .i64 0]) ∧ Below w.heap.size w w' := by
  have hl := hs.numlen
  have hn : n ≤ 16 := by have := H.n16; omega
  have hp : p ≤ 60 := by have := H.p5; omega
  have hne : xs ≠ [] := by rintro rfl; have := H.n1; simp at this
  have hl3 := h3.len
  have hbl := bitLen_le (m := m) (k := 10) (by omega) (by omega)
  have HR := hid (readOk p A n c xs w (fun _ _ => True) hs H)
  have HLN := hid fun W => lenS (m : Int) W (by omega) (by omega)
  rw [Int.toNat_natCast] at HLN
  have hcv : IntKind.u64.wrap (m : Int) = (m : Int) := by rw [IntKind.wrap_u64]; omega
  have HA := hid fun s B W (hW : Sch W s p A n c xs B) => allS s p A n c xs B hn W hW
  have hmm := @run_makeMap Try.prog
  have he : sel n (fun _ => true) xs = xs := by rw [← hl]; exact sel_all xs
  have HT := hid fun s B M W (hW : Stt W s p A n c xs B M T m k ts fun _ => false) => treeS s p A n c xs B M T m k ts hp hn (Lib.bitLen m) (by omega) (fun _ => true) W 0 (fun _ => false) hW
  rw [he] at HT
  have hE : checkL p xs ts = if m + 1 = 2 ^ Lib.bitLen m ∧ (0 < m → (treeL p ts (Lib.bitLen m) 0 xs fun _ => false).isSome = true) then some (Lib.bitLen m) else none := by
    unfold checkL
    rw [hl3]
    by_cases h0 : m = 0
    · have hts : ts = [] := List.eq_nil_of_length_eq_zero (by omega)
      subst hts
      subst h0
      rw [bitLen_zero]
      rw [if_pos ⟨by decide, by simp [fitsL, hne]⟩, if_pos ⟨by decide, fun h => absurd h (by omega)⟩]
    · have e := check_tree (p := p) (xs := xs) (ts := ts) (by omega) (by omega)
      rw [hl3] at e
      rw [e]
      by_cases h1 : m + 1 = 2 ^ Lib.bitLen m ∧ (fitsL p ts (Lib.bitLen m) (rootI (Lib.bitLen m) 0) xs fun _ => false).isSome = true
      · rw [if_pos h1, if_pos ⟨h1.1, fun _ => h1.2⟩]
      · rw [if_neg h1, if_neg fun g => h1 ⟨g.1, g.2 (by omega)⟩]
  have hb0 : Lib.bitLen m = 0 ↔ m = 0 := by
    constructor
    · intro g
      rcases Nat.eq_zero_or_pos m with z | z
      · exact z
      · have := bitLen_pos z (by omega); omega
    · rintro rfl; exact bitLen_zero
  have HS3 := hid h3
  generalize Lib.bitLen m = d at *
  have FD : Fits (d : Int) := ⟨by omega, by omega⟩
  have hpd := p2_nat d
  have hpp := Nat.two_pow_pos d
  have hpl := Nat.pow_le_pow_right (show 0 < 2 by decide) hbl
  have hq1 : 1 ≤ p2 (d : Int) := by omega
  have hq2 : p2 (d : Int) ≤ 1024 := by omega
  have HPD := hid hpd
  clear hpd
  have HSL := hid hs
  by_cases h1 : m + 1 = 2 ^ d
  · have g1 : ((m : Int) != p2 (d : Int) - 1) = false := by rw [bne_eq_false_iff_eq]; have := HPD.out; omega
    by_cases h2 : m = 0
    · subst h2
      have hd0 := hb0.2 rfl
      subst hd0
      rw [if_pos ⟨h1, fun g => absurd g (by omega)⟩] at hE
      rw [hE]
      have g2 : decide ((0 : Int) < ((0 : Nat) : Int)) = false := by decide
      clear hE hs h3 hl hl3 hne he H hpp hpl
      go_enter Try.func27, Try.ntmps27
      go_wp2_with fail
      refine (HR.out).mono ?_; rintro e w1 ⟨s, B, rfl, hsz, hbz, hne, hsch, hm1, hb⟩
      go_wp2_with fail
      refine (HLN.out _).mono ?_; rintro e w2 ⟨rfl, rfl⟩
      go_wp2
      go_ret3
      exact ⟨rfl, hb⟩
    · have g2 : decide ((0 : Int) < (d : Int)) = true := decide_eq_true (by have := mt hb0.1 h2; omega)
      have g2n : decide (0 < d) = true := decide_eq_true (by have := mt hb0.1 h2; omega)
      cases hr : (treeL p ts d 0 xs fun _ => false).isSome with
      | true =>
        rw [if_pos ⟨h1, fun _ => hr⟩] at hE
        rw [hE]
        rw [hr] at HT
        clear hE hs h3 hl hl3 hne he H hr h1 h2 hb0 hpp hpl
        go_enter Try.func27, Try.ntmps27
        go_wp2_with fail
        refine (HR.out).mono ?_; rintro e w1 ⟨s, B, rfl, hsz, hbz, hne, hsch, hm1, hb⟩
        go_wp2_with fail
        refine (HLN.out _).mono ?_; rintro e w2 ⟨rfl, rfl⟩
        have HST := hid (show Stt (w2.alloc (.map #[] 0)) s p A n c xs B w2.heap.size T m k ts (fun _ => false) from
          ⟨hsch.keep ((Below.refl _ _).alloc (Nat.le_refl _) _), (HS3.out.below hb).alloc _, Met.made _, by have := hsch.blk.lt; omega⟩)
        have HB := hid hb
        clear hb hbz hsz hm1
        go_wp2_with fail
        refine (HA.out s B _ hsch).mono ?_; rintro e w3 ⟨rfl, rfl⟩
        go_wp2_with fail
        refine (HT.out s B _ _ HST.out).mono ?_; rintro e w4 ⟨rfl, g4, m4⟩
        clear m4
        go_wp2
        go_ret3
        exact ⟨rfl, (HB.out.alloc HB.out.size _).grown g4 (by have := HB.out.size; simp; omega) fun k hk => by cases hk; exact HB.out.size⟩
      | false =>
        rw [if_neg fun g => by have := g.2 (by omega); rw [hr] at this; cases this] at hE
        rw [hE]
        rw [hr] at HT
        clear hE hs h3 hl hl3 hne he H hr h1 h2 hb0 hpp hpl
        go_enter Try.func27, Try.ntmps27
        go_wp2_with fail
        refine (HR.out).mono ?_; rintro e w1 ⟨s, B, rfl, hsz, hbz, hne, hsch, hm1, hb⟩
        go_wp2_with fail
        refine (HLN.out _).mono ?_; rintro e w2 ⟨rfl, rfl⟩
        have HST := hid (show Stt (w2.alloc (.map #[] 0)) s p A n c xs B w2.heap.size T m k ts (fun _ => false) from
          ⟨hsch.keep ((Below.refl _ _).alloc (Nat.le_refl _) _), (HS3.out.below hb).alloc _, Met.made _, by have := hsch.blk.lt; omega⟩)
        have HB := hid hb
        clear hb hbz hsz hm1
        go_wp2_with fail
        refine (HA.out s B _ hsch).mono ?_; rintro e w3 ⟨rfl, rfl⟩
        go_wp2_with fail
        refine (HT.out s B _ _ HST.out).mono ?_; rintro e w4 ⟨rfl, g4, m4⟩
        clear m4
        go_wp2
        go_ret3
        exact ⟨rfl, (HB.out.alloc HB.out.size _).grown g4 (by have := HB.out.size; simp; omega) fun k hk => by cases hk; exact HB.out.size⟩
  · have g1 : ((m : Int) != p2 (d : Int) - 1) = true := by rw [bne_iff_ne]; have := HPD.out; omega
    rw [if_neg fun g => h1 g.1] at hE
    rw [hE]
    clear hE hs h3 hl hl3 hne he H h1 hb0 hpp hpl
    go_enter Try.func27, Try.ntmps27
    go_wp2_with fail
    refine (HR.out).mono ?_; rintro e w1 ⟨s, B, rfl, hsz, hbz, hne, hsch, hm1, hb⟩
    go_wp2_with fail
    refine (HLN.out _).mono ?_; rintro e w2 ⟨rfl, rfl⟩
    go_wp2
    go_ret3
    exact ⟨rfl, hb⟩

set_option maxRecDepth 100000 in
theorem checkBad (p : Int) (A : Option Addr) (n c : Nat) (xs : List Int) (T : Option Addr) (m k : Nat) (w : World) (hs : Sl w A n c (xs.map (Value.int .i64))) (H : ¬ Cls p xs) :
    Calls Try.prog 27 #[.int .i64 p, .slice A n c, .slice T m k] w fun e w' => e = .returned (.tuple #[.int .i64 0, .bool false, .int .i64 2]) ∧ Below w.heap.size w w' := by
  have HR := hid (readBad p A n c xs w hs H)
  clear hs H
  go_enter Try.func27, Try.ntmps27
  go_wp2_with fail
  refine (HR.out).mono ?_; rintro e w1 ⟨rfl, hb⟩
  go_wp2
  go_ret3
  exact ⟨rfl, hb⟩
end Go.Proofs.Ytpebglilphgamaa
