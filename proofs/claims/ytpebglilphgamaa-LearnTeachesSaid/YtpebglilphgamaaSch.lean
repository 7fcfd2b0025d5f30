/- The school in memory, and the walks of with, said, all. Conditions: at most 16 concepts, points to 60. -/
import Derived.Test.YtpebglilphgamaaProg
import Derived.Test.YtpebglilphgamaaMem2
import Derived.Test.YtpebglilphgamaaMemo
import Derived.Test.YtpebglilphgamaaBits
import Derived.KernelRfl
import Derived.Deep.RegionHeld3
import Derived.BigQuiet
import Derived.Deep.QuietTactic
namespace Go.Proofs.Ytpebglilphgamaa
open Go.RowKit

theorem TI : TS Try.prog 22 3 1 8 (.int .i64 0) := ⟨Try.underlying22, by kernel_rfl, rfl, by decide⟩
def at0 (xs : List Int) (j : Nat) : Int := xs.getD j 0
theorem at0_get {xs : List Int} {j : Nat} {x : Int} (h : xs[j]? = some x) : at0 xs j = x := by simp [at0, h]
theorem at0_mem {xs : List Int} {j : Nat} (h : j < xs.length) : at0 xs j ∈ xs := by
  simp [at0, List.getD, h]
theorem Sl.len_le {w : World} {A : Option Addr} {n c : Nat} {xs : List Value} (h : Sl w A n c xs) : n ≤ 9223372036854775807 := by have := h.cap; have := h.capm; unfold maxLen at this; omega
theorem Sl.num {w : World} {A : Option Addr} {n c : Nat} {xs : List Int} (h : Sl w A n c (xs.map (Value.int .i64))) {k : Nat} (hk : k < n) : ∃ b o, A = some ⟨b, o, none⟩ ∧ b < w.heap.size ∧ k < xs.length ∧ w.cell? ⟨b, o + k, none⟩ = some (.int .i64 (at0 xs k)) := by
  obtain ⟨b, o, u, e, hl, hx, hc⟩ := h.at hk
  rw [List.getElem?_map] at hx
  obtain ⟨x, hy, rfl⟩ := Option.map_eq_some_iff.1 hx
  exact ⟨b, o, e, hl, (List.getElem?_eq_some_iff.1 hy).1, by rw [at0_get hy]; exact hc⟩
theorem Sl.numlen {w : World} {A : Option Addr} {n c : Nat} {xs : List Int} (h : Sl w A n c (xs.map (Value.int .i64))) : xs.length = n := by simpa using h.len
theorem quiet_eq {P : Program} {f : FuncId} {args : Array Value} {w : World} {n : Nat} {v : Value}
    (h : Calls P f args (w.drewN n) fun e w' => e = .returned v ∧ w.drewN n = w') : Calls P f args (w.drewN n) fun e w'' => e = .returned v ∧ ∃ m, w'' = w.drewN m :=
  h.mono fun _ _ ⟨he, hm⟩ => ⟨he, n, hm.symm⟩

/-- A school: points, concepts, and the map's block. -/
structure Sch (w : World) (s : Nat) (p : Int) (A : Option Addr) (n c : Nat) (xs : List Int) (B : Nat) : Prop where
  blk : Blk w s 96 #[.int .i64 p, .slice A n c, .map (some B)]
  sl : Sl w A n c (xs.map (Value.int .i64))
section
variable {w w' : World} {s : Nat} {p : Int} {A : Option Addr} {n c : Nat} {xs : List Int} {B : Nat}
theorem Sch.c0 (h : Sch w s p A n c xs B) : w.cell? ⟨s, 0, none⟩ = some (.int .i64 p) := h.blk.cell 0
theorem Sch.c1 (h : Sch w s p A n c xs B) : w.cell? ⟨s, 1, none⟩ = some (.slice A n c) := h.blk.cell 1
theorem Sch.c2 (h : Sch w s p A n c xs B) : w.cell? ⟨s, 2, none⟩ = some (.map (some B)) := h.blk.cell 2
theorem Sch.keep (h : Sch w s p A n c xs B) (hb : Below w.heap.size w w') : Sch w' s p A n c xs B := ⟨h.blk.keep hb, h.sl.below hb⟩
theorem Sch.drewN (h : Sch w s p A n c xs B) (k : Nat) : Sch (w.drewN k) s p A n c xs B := ⟨h.blk.drewN k, h.sl.drewN k⟩
end

attribute [local go_sem ↓] shr_v and_shr shl_bit

set_option maxRecDepth 100000 in
set_option maxHeartbeats 400000 in
theorem withS (s : Nat) (p : Int) (A : Option Addr) (n c : Nat) (xs : List Int) (B : Nat) (f : Nat → Bool) (x : Int) (hx : Fits x) (hn : n ≤ 16) (w : World) (hs : Sch w s p A n c xs B) :
    Calls Try.prog 79 #[.pointer (some ⟨s, 0, none⟩), .int .i64 (mk n f), .int .i64 x] w fun e w' => e = .returned (.int .i64 (mk n fun i => f i && bitB (at0 xs i) x)) ∧ w = w' := by
  have c1 := hs.c1
  have ha : (⟨s, 0, none⟩ : Addr).add 1 = ⟨s, 1, none⟩ := rfl
  have hsl := hs.sl
  have HN := hid hn
  have HF := hid (mk_and (n := n) (show n ≤ 60 by omega) (fun i => bitB (at0 xs i) x) f)
  have HP := hid fun k (hk : k < n) => mk_push (n := n) hk (by omega) (fun i => bitB (at0 xs i) x) (bitV_if (at0 xs k) x)
  have HC := hid (mk_congr (n := n) (f := fun i => bitB (at0 xs i) x && f i) (g := fun i => f i && bitB (at0 xs i) x) fun i _ => Bool.and_comm _ _)
  clear hn hs
  go_enter Try.func79, Try.ntmps79
  go_wp2
  go_loopg [7, 15] n (fun gk o i wr => ∃ k : Nat, gk + k = n ∧ i = .int .i64 k ∧ o = .int .i64 (mk k fun i => bitB (at0 xs i) x) ∧ w = wr)
  case atStart => exact ⟨0, by omega, rfl, rfl, rfl⟩
  case round =>
    obtain ⟨k, hk, rfl, rfl, rfl⟩ := hrel
    have HK := hid hk; clear hk
    by_cases hlt : k < n
    · obtain ⟨b, o, rfl, lb, hkl, ca⟩ := hsl.num hlt
      have hfk : Fits (k : Int) := ⟨by omega, by have := HN.out; omega⟩
      have hp := HP.out k hlt
      have h16 : k < 16 := by have := HN.out; omega
      clear hkl
      go_wp2
      go_roundg (gk - 1)
      case measure => have := HK.out; omega
      case rel => exact ⟨k + 1, by have := HK.out; omega, by go_num, rfl, rfl⟩
    · obtain rfl : k = n := by have := HK.out; omega
      go_wp2
      go_ret
      exact ⟨ret_i (HF.out.trans HC.out), rfl⟩

set_option maxRecDepth 100000 in
set_option maxHeartbeats 400000 in
theorem saidS (s : Nat) (p : Int) (A : Option Addr) (n c : Nat) (xs : List Int) (B : Nat) (f : Nat → Bool) (x : Int) (y : Bool) (hx : Fits x) (hn : n ≤ 16) (w : World) (hs : Sch w s p A n c xs B) :
    Calls Try.prog 75 #[.pointer (some ⟨s, 0, none⟩), .int .i64 (mk n f), .int .i64 x, .int .i64 (if y then 1 else 0)] w fun e w' => e = .returned (.int .i64 (mk n fun i => f i && (bitB (at0 xs i) x == y))) ∧ w = w' := by
  have HW := hid (withS s p A n c xs B f x hx hn w hs)
  cases y
  · have HA := hid (mk_andNot (n := n) (show n ≤ 60 by omega) f (fun i => f i && bitB (at0 xs i) x))
    have HC := hid (mk_congr (n := n) (f := fun i => f i && !(f i && bitB (at0 xs i) x)) (g := fun i => f i && (bitB (at0 xs i) x == false)) fun i _ => by cases f i <;> simp)
    show Calls Try.prog 75 #[.pointer (some ⟨s, 0, none⟩), .int .i64 (mk n f), .int .i64 x, .int .i64 0] w _
    clear hs hn
    go_enter Try.func75, Try.ntmps75
    go_wp2_with (go_at_call 79; refine (HW.out).mono ?_; rintro e w1 ⟨rfl, rfl⟩)
    go_ret
    exact ⟨ret_i (HA.out.trans HC.out), rfl⟩
  · have HC := hid (mk_congr (n := n) (f := fun i => f i && bitB (at0 xs i) x) (g := fun i => f i && (bitB (at0 xs i) x == true)) fun i _ => by simp)
    show Calls Try.prog 75 #[.pointer (some ⟨s, 0, none⟩), .int .i64 (mk n f), .int .i64 x, .int .i64 1] w _
    clear hs hn
    go_enter Try.func75, Try.ntmps75
    go_wp2_with (go_at_call 79; refine (HW.out).mono ?_; rintro e w1 ⟨rfl, rfl⟩)
    go_ret
    exact ⟨ret_i HC.out, rfl⟩

attribute [local go_sem ↓] shl_p2
set_option maxRecDepth 100000 in
set_option maxHeartbeats 400000 in
theorem allS (s : Nat) (p : Int) (A : Option Addr) (n c : Nat) (xs : List Int) (B : Nat) (hn : n ≤ 16) (w : World) (hs : Sch w s p A n c xs B) :
    Calls Try.prog 57 #[.pointer (some ⟨s, 0, none⟩)] w fun e w' => e = .returned (.int .i64 (mk n fun _ => true)) ∧ w = w' := by
  have c1 := hs.c1
  have hf : Fits (n : Int) := ⟨by omega, by omega⟩
  have hb := p2_bd hf.2
  have hp := p2_pos (n : Int)
  have HA := hid (mk_all n)
  have HN := hid hn
  clear hs hn
  go_enter Try.func57, Try.ntmps57
  go_wp2
  go_ret
  exact ⟨ret_i HA.out.symm, rfl⟩
end Go.Proofs.Ytpebglilphgamaa
