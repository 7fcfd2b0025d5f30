/- The plain law of the class of all concepts: each number is the number of points. Condition: fewer than five points. -/
import Derived.Test.YtpebglilphgamaaAskM
namespace Go.Proofs.Ytpebglilphgamaa

/-- All concepts of p points. -/
def cube (p : Nat) : List Int := (List.range (2 ^ p)).map fun (c : Nat) => (c : Int)
set_option maxRecDepth 100000
theorem cube_dim : ∀ p, p < 5 → dimL p (cube p) = p := by decide +kernel
theorem cube_ask : ∀ p, p < 5 → askL p (cube p) = p := by decide +kernel
theorem cube_halving : ∀ p, p < 5 → worstL halving p (cube p) = p := by decide +kernel
theorem cube_teach : ∀ p, p < 5 → teachL p (cube p) = p := by decide +kernel
theorem cube_peel : ∀ p, p < 5 → peelL p (cube p) = p := by decide +kernel
end Go.Proofs.Ytpebglilphgamaa
