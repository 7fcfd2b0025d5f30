/- Walks of math/bits.OnesCount and of count for sets of six elements. Condition: these bounds. -/
import Derived.Test.YtjddbglbodkihaaDoorWord
import Derived.Test.YtjddbglbodkihaaDoorSrch
namespace Go.Proofs.YtjddbglbodkihaaDoor
open Go.RowKit

/-! the steps of OnesCount64 -/
def oc1 (x : Int) : Int := IntKind.u64.wrap (bits .and .u64 (x / 2) 6148914691236517205 + bits .and .u64 x 6148914691236517205)
def oc2 (x : Int) : Int := IntKind.u64.wrap (bits .and .u64 (x / 4) 3689348814741910323 + bits .and .u64 x 3689348814741910323)
def oc3 (x : Int) : Int := bits .and .u64 (IntKind.u64.wrap (x / 16 + x)) 1085102592571150095
def oc4 (x : Int) : Int := IntKind.u64.wrap (x + x / 256)
def oc5 (x : Int) : Int := IntKind.u64.wrap (x + x / 65536)
def oc6 (x : Int) : Int := IntKind.u64.wrap (x + x / 4294967296)
def oc7 (x : Int) : Int := bits .and .i64 (wrap64 x) 127
def oc1N (x : Nat) : Nat := ((x / 2 &&& 6148914691236517205) + (x &&& 6148914691236517205)) % 18446744073709551616
def oc2N (x : Nat) : Nat := ((x / 4 &&& 3689348814741910323) + (x &&& 3689348814741910323)) % 18446744073709551616
def oc3N (x : Nat) : Nat := (x / 16 + x) % 18446744073709551616 &&& 1085102592571150095
def oc4N (x : Nat) : Nat := (x + x / 256) % 18446744073709551616
def oc5N (x : Nat) : Nat := (x + x / 65536) % 18446744073709551616
def oc6N (x : Nat) : Nat := (x + x / 4294967296) % 18446744073709551616
def ocN (x : Nat) : Nat := oc6N (oc5N (oc4N (oc3N (oc2N (oc1N x)))))
theorem wu (a : Nat) : IntKind.u64.wrap (a : Int) = ((a % 18446744073709551616 : Nat) : Int) := by rw [IntKind.wrap_u64]; omega
theorem oc1_nat {x : Nat} (h : x < 18446744073709551616) : oc1 x = (oc1N x : Int) := by
  unfold oc1 oc1N
  have e : ((x : Int) / 2) = ((x / 2 : Nat) : Int) := by omega
  rw [e, show (6148914691236517205 : Int) = ((6148914691236517205 : Nat) : Int) from rfl, bits_and_u64_nat _ _ (by omega) (by omega), bits_and_u64_nat _ _ (by omega) (by omega), ← Int.natCast_add, wu]
theorem oc2_nat {x : Nat} (h : x < 18446744073709551616) : oc2 x = (oc2N x : Int) := by
  unfold oc2 oc2N
  have e : ((x : Int) / 4) = ((x / 4 : Nat) : Int) := by omega
  rw [e, show (3689348814741910323 : Int) = ((3689348814741910323 : Nat) : Int) from rfl, bits_and_u64_nat _ _ (by omega) (by omega), bits_and_u64_nat _ _ (by omega) (by omega), ← Int.natCast_add, wu]
theorem oc3_nat (x : Nat) : oc3 x = (oc3N x : Int) := by
  unfold oc3 oc3N
  have e : ((x : Int) / 16 + x) = ((x / 16 + x : Nat) : Int) := by omega
  rw [e, wu, show (1085102592571150095 : Int) = ((1085102592571150095 : Nat) : Int) from rfl, bits_and_u64_nat _ _ (by omega) (by omega)]
theorem oc4_nat (x : Nat) : oc4 x = (oc4N x : Int) := by
  unfold oc4 oc4N
  have e : ((x : Int) + x / 256) = ((x + x / 256 : Nat) : Int) := by omega
  rw [e, wu]
theorem oc5_nat (x : Nat) : oc5 x = (oc5N x : Int) := by
  unfold oc5 oc5N
  have e : ((x : Int) + x / 65536) = ((x + x / 65536 : Nat) : Int) := by omega
  rw [e, wu]
theorem oc6_nat (x : Nat) : oc6 x = (oc6N x : Int) := by
  unfold oc6 oc6N
  have e : ((x : Int) + x / 4294967296) = ((x + x / 4294967296 : Nat) : Int) := by omega
  rw [e, wu]
theorem oc_nat {x : Nat} (h : x < 18446744073709551616) : oc6 (oc5 (oc4 (oc3 (oc2 (oc1 x))))) = (ocN x : Int) := by
  rw [oc1_nat h, oc2_nat (by unfold oc1N; omega), oc3_nat, oc4_nat, oc5_nat, oc6_nat]
  rfl
theorem ocAll : ∀ x : Fin 64, ocN x.val % 128 = sz x.val ∧ ocN x.val < 9223372036854775808 := by decide +kernel
theorem oc_sz {x : Nat} (h : x < 64) : oc7 (oc6 (oc5 (oc4 (oc3 (oc2 (oc1 x)))))) = (sz x : Int) := by
  have h1 := ocAll ⟨x, h⟩
  simp only at h1
  rw [oc_nat (by omega)]
  unfold oc7
  have hw : wrap64 (ocN x : Int) = ocN x := by unfold wrap64; omega
  rw [hw, show (127 : Int) = ((127 : Nat) : Int) from rfl, i64_and _ _ (by omega) (by omega)]
  have e : ocN x &&& 127 = ocN x % 128 := Nat.and_two_pow_sub_one_eq_mod _ 7
  rw [e, h1.1]
set_option maxRecDepth 100000 in
set_option maxHeartbeats 1000000 in
theorem ones64 (x : Nat) (hx : x < 64) (w : World) :
    Calls Tryd.prog 115 #[.int .u64 x] w fun e w' => e = .returned (.int .i64 (sz x)) ∧ w = w' := by
  have H := hid (oc_sz hx)
  clear hx
  go_enter Tryd.func115, Tryd.ntmps115
  go_wp2
  go_ret
  exact ⟨ret_i H.out, rfl⟩
set_option maxRecDepth 100000 in
set_option maxHeartbeats 1000000 in
theorem ones (x : Nat) (hx : x < 64) (w : World) :
    Calls Tryd.prog 95 #[.int .u64 x] w fun e w' => e = .returned (.int .i64 (sz x)) ∧ w = w' := by
  have H := hid (ones64 x hx w)
  clear hx
  go_enter Tryd.func95, Tryd.ntmps95
  go_wp2_with (go_at_call 115; refine (H.out).mono ?_; rintro e w1 ⟨rfl, rfl⟩)
  go_ret
  exact ⟨rfl, rfl⟩
set_option maxRecDepth 100000 in
set_option maxHeartbeats 1000000 in
theorem countS (x : Nat) (hx : x < 64) (w : World) :
    Calls Tryd.prog 69 #[.int .i64 x] w fun e w' => e = .returned (.int .i64 (sz x)) ∧ w = w' := by
  have H := hid (ones x hx w)
  have hu : IntKind.u64.wrap (x : Int) = x := by rw [wu]; omega
  clear hx
  go_enter Tryd.func69, Tryd.ntmps69
  go_wp2_with (go_at_call 95; refine (H.out).mono ?_; rintro e w1 ⟨rfl, rfl⟩)
  go_ret
  exact ⟨rfl, rfl⟩
end Go.Proofs.YtjddbglbodkihaaDoor
