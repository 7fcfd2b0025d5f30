/-
  NARROWER THAN 'FOR EVERY INPUT', by the rows' own cells (each row's printed sentence says how): EvadeJoins: laid · EvadeParts: laid · EvadeSums: laid · EvadeDuals: laid · EvadeEarly: laid · EvadeProperties: laid · EvadeProducts: laid · EvadeFolds: laid · EvadeAway: laid · EvadeGraphs: laid · EvadeSettles: laid · EvadeSplits: laid.
  DERIVED. THE GIVEN ROWS OF THIS SEAT. 12 by the template 'for every input the law returns true; each argument reads behind the call as it read before'; 0 by the template 'total and deterministic' (their statements: YtjddbglbodkihaaDoorTotals.lean).
  GIVEN WITH THE SEED: the statements are not yours to turn. If you find one false, say at which input.
  Laid BY PROGRAM, IN A SANDBOX (cutbox-rows.mjs): the forced cells as the released guide's own fill.sh prints them over the translation b5e850f8e5ff28ca… (all of the seat's roots in one cut). By AI agents, Wed Nov 11 2026. No macro, syntax, notation, axiom, sorry.
-/
import Derived.Test.YtjddbglbodkihaaDoorChecked
import GoSem.Claim
import GoSem.ClaimJoined
import GoSem.ClaimMapViews
import Derived.JoinedTies
import Derived.KernelRfl
namespace Go.Proofs.YtjddbglbodkihaaDoor
/- THE CELL 'sum', in the pinned program and in every row, IS THE sha256 OF THE DUMP (.gsa) THAT YtjddbglbodkihaaDoorProg.lean LOADS. Nothing in Lean hashes anything: it is a label: what it is worth is what the hold of that sum in a sandbox is worth. -/
noncomputable def Tryd.pinned : Pinned := { name := "ytjddbglbodkihaadoor", sum := "b5e850f8e5ff28ca223a51a785dd90639fc74f940eb0aebfc36df71003ff301b", checked := Tryd.checked }
namespace Rows
def none {H : Type} : Left H := { results := [], args := [] }

/- WHAT THE LISTED PACKAGE-LEVEL VARIABLES READ AS WHEN THE CALL BEGINS. Each datum BY PROGRAM (the guide's laid-datum.mjs) off the statement by which the dump's own 'gosem.cut.vars' lays the variable. In a bare row this is a premise. The card (YtjddbglbodkihaaDoorCards.lean) ties it to the program's text. -/
def laid_math_bits_deBruijn64tab {H : Type} : DataW H := .agg [.lit (.int .u8 0), .lit (.int .u8 1), .lit (.int .u8 56), .lit (.int .u8 2), .lit (.int .u8 57), .lit (.int .u8 49), .lit (.int .u8 28), .lit (.int .u8 3), .lit (.int .u8 61), .lit (.int .u8 58), .lit (.int .u8 42), .lit (.int .u8 50), .lit (.int .u8 38), .lit (.int .u8 29), .lit (.int .u8 17), .lit (.int .u8 4), .lit (.int .u8 62), .lit (.int .u8 47), .lit (.int .u8 59), .lit (.int .u8 36), .lit (.int .u8 45), .lit (.int .u8 43), .lit (.int .u8 51), .lit (.int .u8 22), .lit (.int .u8 53), .lit (.int .u8 39), .lit (.int .u8 33), .lit (.int .u8 30), .lit (.int .u8 24), .lit (.int .u8 18), .lit (.int .u8 12), .lit (.int .u8 5), .lit (.int .u8 63), .lit (.int .u8 55), .lit (.int .u8 48), .lit (.int .u8 27), .lit (.int .u8 60), .lit (.int .u8 41), .lit (.int .u8 37), .lit (.int .u8 16), .lit (.int .u8 46), .lit (.int .u8 35), .lit (.int .u8 44), .lit (.int .u8 21), .lit (.int .u8 52), .lit (.int .u8 32), .lit (.int .u8 23), .lit (.int .u8 11), .lit (.int .u8 54), .lit (.int .u8 26), .lit (.int .u8 40), .lit (.int .u8 15), .lit (.int .u8 34), .lit (.int .u8 20), .lit (.int .u8 31), .lit (.int .u8 10), .lit (.int .u8 25), .lit (.int .u8 14), .lit (.int .u8 19), .lit (.int .u8 9), .lit (.int .u8 13), .lit (.int .u8 8), .lit (.int .u8 7), .lit (.int .u8 6)]

/-- 'planchetlaw08.EvadeJoins': WHATEVER THE INPUT: true; the input reads as it did. -/
def evadeJoinsSpec : ChangeSpec := { name := "evadeJoins", fn := fun _ => fun
  | [d1, d2, d3, d4] => { results := [.lit (.bool true)], args := [d1, d2, d3, d4] }
  | _ => none }
def evadeJoinsRow : OpenClaim := { program := "ytjddbglbodkihaadoor", sum := "b5e850f8e5ff28ca223a51a785dd90639fc74f940eb0aebfc36df71003ff301b", func := "planchet/planchetlaw08.EvadeJoins", spec := "evadeJoins", unfollowed := true, recurses := true, named := ["math/bits.deBruijn64tab"], plainKeys := false, apart := false, laid := [("math/bits.deBruijn64tab", laid_math_bits_deBruijn64tab)] }
def EvadeJoinsSaid : Prop := evadeJoinsRow.holds Tryd.pinned (OpenSpec.ofChange evadeJoinsSpec)

/-- ITS FALSE NEIGHBOUR: 'it returns false'. Refute it at one input. -/
def evadeJoinsWrong : ChangeSpec := { name := "evadeJoins", fn := fun _ => fun
  | [d1, d2, d3, d4] => { results := [.lit (.bool false)], args := [d1, d2, d3, d4] }
  | _ => none }
def EvadeJoinsWrongFalsely : Prop := evadeJoinsRow.holds Tryd.pinned (OpenSpec.ofChange evadeJoinsWrong)

/-- 'planchetlaw08.EvadeParts': WHATEVER THE INPUT: true; the input reads as it did. -/
def evadePartsSpec : ChangeSpec := { name := "evadeParts", fn := fun _ => fun
  | [d1, d2, d3, d4] => { results := [.lit (.bool true)], args := [d1, d2, d3, d4] }
  | _ => none }
def evadePartsRow : OpenClaim := { program := "ytjddbglbodkihaadoor", sum := "b5e850f8e5ff28ca223a51a785dd90639fc74f940eb0aebfc36df71003ff301b", func := "planchet/planchetlaw08.EvadeParts", spec := "evadeParts", unfollowed := true, recurses := true, named := ["math/bits.deBruijn64tab"], plainKeys := false, apart := false, laid := [("math/bits.deBruijn64tab", laid_math_bits_deBruijn64tab)] }
def EvadePartsSaid : Prop := evadePartsRow.holds Tryd.pinned (OpenSpec.ofChange evadePartsSpec)

/-- ITS FALSE NEIGHBOUR: 'it returns false'. Refute it at one input. -/
def evadePartsWrong : ChangeSpec := { name := "evadeParts", fn := fun _ => fun
  | [d1, d2, d3, d4] => { results := [.lit (.bool false)], args := [d1, d2, d3, d4] }
  | _ => none }
def EvadePartsWrongFalsely : Prop := evadePartsRow.holds Tryd.pinned (OpenSpec.ofChange evadePartsWrong)

/-- 'planchetlaw08.EvadeSums': WHATEVER THE INPUT: true; the input reads as it did. -/
def evadeSumsSpec : ChangeSpec := { name := "evadeSums", fn := fun _ => fun
  | [d1, d2] => { results := [.lit (.bool true)], args := [d1, d2] }
  | _ => none }
def evadeSumsRow : OpenClaim := { program := "ytjddbglbodkihaadoor", sum := "b5e850f8e5ff28ca223a51a785dd90639fc74f940eb0aebfc36df71003ff301b", func := "planchet/planchetlaw08.EvadeSums", spec := "evadeSums", unfollowed := true, recurses := true, named := ["math/bits.deBruijn64tab"], plainKeys := false, apart := false, laid := [("math/bits.deBruijn64tab", laid_math_bits_deBruijn64tab)] }
def EvadeSumsSaid : Prop := evadeSumsRow.holds Tryd.pinned (OpenSpec.ofChange evadeSumsSpec)

/-- ITS FALSE NEIGHBOUR: 'it returns false'. Refute it at one input. -/
def evadeSumsWrong : ChangeSpec := { name := "evadeSums", fn := fun _ => fun
  | [d1, d2] => { results := [.lit (.bool false)], args := [d1, d2] }
  | _ => none }
def EvadeSumsWrongFalsely : Prop := evadeSumsRow.holds Tryd.pinned (OpenSpec.ofChange evadeSumsWrong)

/-- 'planchetlaw08.EvadeDuals': WHATEVER THE INPUT: true; the input reads as it did. -/
def evadeDualsSpec : ChangeSpec := { name := "evadeDuals", fn := fun _ => fun
  | [d1, d2] => { results := [.lit (.bool true)], args := [d1, d2] }
  | _ => none }
def evadeDualsRow : OpenClaim := { program := "ytjddbglbodkihaadoor", sum := "b5e850f8e5ff28ca223a51a785dd90639fc74f940eb0aebfc36df71003ff301b", func := "planchet/planchetlaw08.EvadeDuals", spec := "evadeDuals", unfollowed := true, recurses := true, named := ["math/bits.deBruijn64tab"], plainKeys := false, apart := false, laid := [("math/bits.deBruijn64tab", laid_math_bits_deBruijn64tab)] }
def EvadeDualsSaid : Prop := evadeDualsRow.holds Tryd.pinned (OpenSpec.ofChange evadeDualsSpec)

/-- ITS FALSE NEIGHBOUR: 'it returns false'. Refute it at one input. -/
def evadeDualsWrong : ChangeSpec := { name := "evadeDuals", fn := fun _ => fun
  | [d1, d2] => { results := [.lit (.bool false)], args := [d1, d2] }
  | _ => none }
def EvadeDualsWrongFalsely : Prop := evadeDualsRow.holds Tryd.pinned (OpenSpec.ofChange evadeDualsWrong)

/-- 'planchetlaw08.EvadeEarly': WHATEVER THE INPUT: true; the input reads as it did. -/
def evadeEarlySpec : ChangeSpec := { name := "evadeEarly", fn := fun _ => fun
  | [d1, d2, d3] => { results := [.lit (.bool true)], args := [d1, d2, d3] }
  | _ => none }
def evadeEarlyRow : OpenClaim := { program := "ytjddbglbodkihaadoor", sum := "b5e850f8e5ff28ca223a51a785dd90639fc74f940eb0aebfc36df71003ff301b", func := "planchet/planchetlaw08.EvadeEarly", spec := "evadeEarly", recurses := true, named := ["math/bits.deBruijn64tab"], plainKeys := false, apart := false, laid := [("math/bits.deBruijn64tab", laid_math_bits_deBruijn64tab)] }
def EvadeEarlySaid : Prop := evadeEarlyRow.holds Tryd.pinned (OpenSpec.ofChange evadeEarlySpec)

/-- ITS FALSE NEIGHBOUR: 'it returns false'. Refute it at one input. -/
def evadeEarlyWrong : ChangeSpec := { name := "evadeEarly", fn := fun _ => fun
  | [d1, d2, d3] => { results := [.lit (.bool false)], args := [d1, d2, d3] }
  | _ => none }
def EvadeEarlyWrongFalsely : Prop := evadeEarlyRow.holds Tryd.pinned (OpenSpec.ofChange evadeEarlyWrong)

/-- 'planchetlaw08.EvadeProperties': WHATEVER THE INPUT: true; the input reads as it did. -/
def evadePropertiesSpec : ChangeSpec := { name := "evadeProperties", fn := fun _ => fun
  | [d1, d2, d3] => { results := [.lit (.bool true)], args := [d1, d2, d3] }
  | _ => none }
def evadePropertiesRow : OpenClaim := { program := "ytjddbglbodkihaadoor", sum := "b5e850f8e5ff28ca223a51a785dd90639fc74f940eb0aebfc36df71003ff301b", func := "planchet/planchetlaw08.EvadeProperties", spec := "evadeProperties", unfollowed := true, recurses := true, named := ["math/bits.deBruijn64tab"], plainKeys := false, apart := false, laid := [("math/bits.deBruijn64tab", laid_math_bits_deBruijn64tab)] }
def EvadePropertiesSaid : Prop := evadePropertiesRow.holds Tryd.pinned (OpenSpec.ofChange evadePropertiesSpec)

/-- ITS FALSE NEIGHBOUR: 'it returns false'. Refute it at one input. -/
def evadePropertiesWrong : ChangeSpec := { name := "evadeProperties", fn := fun _ => fun
  | [d1, d2, d3] => { results := [.lit (.bool false)], args := [d1, d2, d3] }
  | _ => none }
def EvadePropertiesWrongFalsely : Prop := evadePropertiesRow.holds Tryd.pinned (OpenSpec.ofChange evadePropertiesWrong)

/-- 'planchetlaw08.EvadeProducts': WHATEVER THE INPUT: true; the input reads as it did. -/
def evadeProductsSpec : ChangeSpec := { name := "evadeProducts", fn := fun _ => fun
  | [d1, d2, d3, d4, d5] => { results := [.lit (.bool true)], args := [d1, d2, d3, d4, d5] }
  | _ => none }
def evadeProductsRow : OpenClaim := { program := "ytjddbglbodkihaadoor", sum := "b5e850f8e5ff28ca223a51a785dd90639fc74f940eb0aebfc36df71003ff301b", func := "planchet/planchetlaw08.EvadeProducts", spec := "evadeProducts", unfollowed := true, recurses := true, named := ["math/bits.deBruijn64tab"], plainKeys := false, apart := false, laid := [("math/bits.deBruijn64tab", laid_math_bits_deBruijn64tab)] }
def EvadeProductsSaid : Prop := evadeProductsRow.holds Tryd.pinned (OpenSpec.ofChange evadeProductsSpec)

/-- ITS FALSE NEIGHBOUR: 'it returns false'. Refute it at one input. -/
def evadeProductsWrong : ChangeSpec := { name := "evadeProducts", fn := fun _ => fun
  | [d1, d2, d3, d4, d5] => { results := [.lit (.bool false)], args := [d1, d2, d3, d4, d5] }
  | _ => none }
def EvadeProductsWrongFalsely : Prop := evadeProductsRow.holds Tryd.pinned (OpenSpec.ofChange evadeProductsWrong)

/-- 'planchetlaw08.EvadeFolds': WHATEVER THE INPUT: true; the input reads as it did. -/
def evadeFoldsSpec : ChangeSpec := { name := "evadeFolds", fn := fun _ => fun
  | [d1, d2, d3] => { results := [.lit (.bool true)], args := [d1, d2, d3] }
  | _ => none }
def evadeFoldsRow : OpenClaim := { program := "ytjddbglbodkihaadoor", sum := "b5e850f8e5ff28ca223a51a785dd90639fc74f940eb0aebfc36df71003ff301b", func := "planchet/planchetlaw08.EvadeFolds", spec := "evadeFolds", recurses := true, named := ["math/bits.deBruijn64tab"], plainKeys := false, apart := false, laid := [("math/bits.deBruijn64tab", laid_math_bits_deBruijn64tab)] }
def EvadeFoldsSaid : Prop := evadeFoldsRow.holds Tryd.pinned (OpenSpec.ofChange evadeFoldsSpec)

/-- ITS FALSE NEIGHBOUR: 'it returns false'. Refute it at one input. -/
def evadeFoldsWrong : ChangeSpec := { name := "evadeFolds", fn := fun _ => fun
  | [d1, d2, d3] => { results := [.lit (.bool false)], args := [d1, d2, d3] }
  | _ => none }
def EvadeFoldsWrongFalsely : Prop := evadeFoldsRow.holds Tryd.pinned (OpenSpec.ofChange evadeFoldsWrong)

/-- 'planchetlaw08.EvadeAway': WHATEVER THE INPUT: true; the input reads as it did. -/
def evadeAwaySpec : ChangeSpec := { name := "evadeAway", fn := fun _ => fun
  | [d1, d2] => { results := [.lit (.bool true)], args := [d1, d2] }
  | _ => none }
def evadeAwayRow : OpenClaim := { program := "ytjddbglbodkihaadoor", sum := "b5e850f8e5ff28ca223a51a785dd90639fc74f940eb0aebfc36df71003ff301b", func := "planchet/planchetlaw08.EvadeAway", spec := "evadeAway", recurses := true, named := ["math/bits.deBruijn64tab"], plainKeys := false, apart := false, laid := [("math/bits.deBruijn64tab", laid_math_bits_deBruijn64tab)] }
def EvadeAwaySaid : Prop := evadeAwayRow.holds Tryd.pinned (OpenSpec.ofChange evadeAwaySpec)

/-- ITS FALSE NEIGHBOUR: 'it returns false'. Refute it at one input. -/
def evadeAwayWrong : ChangeSpec := { name := "evadeAway", fn := fun _ => fun
  | [d1, d2] => { results := [.lit (.bool false)], args := [d1, d2] }
  | _ => none }
def EvadeAwayWrongFalsely : Prop := evadeAwayRow.holds Tryd.pinned (OpenSpec.ofChange evadeAwayWrong)

/-- 'planchetlaw08.EvadeGraphs': WHATEVER THE INPUT: true; the input reads as it did. -/
def evadeGraphsSpec : ChangeSpec := { name := "evadeGraphs", fn := fun _ => fun
  | [d1, d2] => { results := [.lit (.bool true)], args := [d1, d2] }
  | _ => none }
def evadeGraphsRow : OpenClaim := { program := "ytjddbglbodkihaadoor", sum := "b5e850f8e5ff28ca223a51a785dd90639fc74f940eb0aebfc36df71003ff301b", func := "planchet/planchetlaw08.EvadeGraphs", spec := "evadeGraphs", unfollowed := true, recurses := true, named := ["math/bits.deBruijn64tab"], plainKeys := false, apart := false, laid := [("math/bits.deBruijn64tab", laid_math_bits_deBruijn64tab)] }
def EvadeGraphsSaid : Prop := evadeGraphsRow.holds Tryd.pinned (OpenSpec.ofChange evadeGraphsSpec)

/-- ITS FALSE NEIGHBOUR: 'it returns false'. Refute it at one input. -/
def evadeGraphsWrong : ChangeSpec := { name := "evadeGraphs", fn := fun _ => fun
  | [d1, d2] => { results := [.lit (.bool false)], args := [d1, d2] }
  | _ => none }
def EvadeGraphsWrongFalsely : Prop := evadeGraphsRow.holds Tryd.pinned (OpenSpec.ofChange evadeGraphsWrong)

/-- 'planchetlaw08.EvadeSettles': WHATEVER THE INPUT: true; the input reads as it did. -/
def evadeSettlesSpec : ChangeSpec := { name := "evadeSettles", fn := fun _ => fun
  | [d1, d2] => { results := [.lit (.bool true)], args := [d1, d2] }
  | _ => none }
def evadeSettlesRow : OpenClaim := { program := "ytjddbglbodkihaadoor", sum := "b5e850f8e5ff28ca223a51a785dd90639fc74f940eb0aebfc36df71003ff301b", func := "planchet/planchetlaw08.EvadeSettles", spec := "evadeSettles", recurses := true, named := ["math/bits.deBruijn64tab"], plainKeys := false, apart := false, laid := [("math/bits.deBruijn64tab", laid_math_bits_deBruijn64tab)] }
def EvadeSettlesSaid : Prop := evadeSettlesRow.holds Tryd.pinned (OpenSpec.ofChange evadeSettlesSpec)

/-- ITS FALSE NEIGHBOUR: 'it returns false'. Refute it at one input. -/
def evadeSettlesWrong : ChangeSpec := { name := "evadeSettles", fn := fun _ => fun
  | [d1, d2] => { results := [.lit (.bool false)], args := [d1, d2] }
  | _ => none }
def EvadeSettlesWrongFalsely : Prop := evadeSettlesRow.holds Tryd.pinned (OpenSpec.ofChange evadeSettlesWrong)

/-- 'planchetlaw08.EvadeSplits': WHATEVER THE INPUT: true; the input reads as it did. -/
def evadeSplitsSpec : ChangeSpec := { name := "evadeSplits", fn := fun _ => fun
  | [d1, d2, d3] => { results := [.lit (.bool true)], args := [d1, d2, d3] }
  | _ => none }
def evadeSplitsRow : OpenClaim := { program := "ytjddbglbodkihaadoor", sum := "b5e850f8e5ff28ca223a51a785dd90639fc74f940eb0aebfc36df71003ff301b", func := "planchet/planchetlaw08.EvadeSplits", spec := "evadeSplits", unfollowed := true, recurses := true, named := ["math/bits.deBruijn64tab"], plainKeys := false, apart := false, laid := [("math/bits.deBruijn64tab", laid_math_bits_deBruijn64tab)] }
def EvadeSplitsSaid : Prop := evadeSplitsRow.holds Tryd.pinned (OpenSpec.ofChange evadeSplitsSpec)

/-- ITS FALSE NEIGHBOUR: 'it returns false'. Refute it at one input. -/
def evadeSplitsWrong : ChangeSpec := { name := "evadeSplits", fn := fun _ => fun
  | [d1, d2, d3] => { results := [.lit (.bool false)], args := [d1, d2, d3] }
  | _ => none }
def EvadeSplitsWrongFalsely : Prop := evadeSplitsRow.holds Tryd.pinned (OpenSpec.ofChange evadeSplitsWrong)

/- THE SECOND FORM. 'bulk': how many values and letters a reading holds, each counted each time it is reached (what is shared counts as often as it is met; a slice's spare places count too). A statement '..UptoSaid' is the law's where the arguments, and the package variables that the reading takes, are together of bulk at most 1048576: NARROWER than '..Said'. Prove '..Said' where nothing that the law and all that it calls make is longer than what came in: it says more and counts as full. Else prove '..UptoSaid'. A law counts once. -/
mutual
def uptoBulk {H : Type} : DataW H → Nat
  | .lit (.string bytes) => bytes.length + 1
  | .lit _ => 1
  | .nil => 1
  | .ptr d => uptoBulk d + 1
  | .slice elems spare => uptoBulkAll elems + uptoBulkAll spare + 1
  | .agg parts => uptoBulkAll parts + 1
  | .iface _ d => uptoBulk d + 1
  | .map entries => uptoBulkEntries entries + 1
  | .held _ => 1
def uptoBulkAll {H : Type} : List (DataW H) → Nat
  | [] => 0
  | d :: r => uptoBulk d + uptoBulkAll r
def uptoBulkEntries {H : Type} : List (Lit × DataW H) → Nat
  | [] => 0
  | x :: r => uptoBulkEntry x + uptoBulkEntries r
def uptoBulkEntry {H : Type} : Lit × DataW H → Nat
  | (.string bytes, d) => bytes.length + uptoBulk d + 1
  | (_, d) => uptoBulk d + 1
 end
def uptoSmall : (H : Type) → List (DataW H) → Bool := fun _ ds => decide (uptoBulkAll ds ≤ 1048576)
def OpenSpec.upto (s : _root_.Go.ChangeSpec) : _root_.Go.OpenSpec := { _root_.Go.OpenSpec.ofChange s with cond := some uptoSmall }

/-- 'planchetlaw08.EvadeJoins', WHERE WHAT IT READS IS OF BULK AT MOST 1048576: true; the input reads as it did. -/
def evadeJoinsUptoRow : OpenClaim := { program := "ytjddbglbodkihaadoor", sum := "b5e850f8e5ff28ca223a51a785dd90639fc74f940eb0aebfc36df71003ff301b", func := "planchet/planchetlaw08.EvadeJoins", spec := "evadeJoins", unfollowed := true, recurses := true, named := ["math/bits.deBruijn64tab"], plainKeys := false, apart := false, laid := [("math/bits.deBruijn64tab", laid_math_bits_deBruijn64tab)], narrowed := true }
def EvadeJoinsUptoSaid : Prop := evadeJoinsUptoRow.holds Tryd.pinned (OpenSpec.upto evadeJoinsSpec)

/-- 'planchetlaw08.EvadeParts', WHERE WHAT IT READS IS OF BULK AT MOST 1048576: true; the input reads as it did. -/
def evadePartsUptoRow : OpenClaim := { program := "ytjddbglbodkihaadoor", sum := "b5e850f8e5ff28ca223a51a785dd90639fc74f940eb0aebfc36df71003ff301b", func := "planchet/planchetlaw08.EvadeParts", spec := "evadeParts", unfollowed := true, recurses := true, named := ["math/bits.deBruijn64tab"], plainKeys := false, apart := false, laid := [("math/bits.deBruijn64tab", laid_math_bits_deBruijn64tab)], narrowed := true }
def EvadePartsUptoSaid : Prop := evadePartsUptoRow.holds Tryd.pinned (OpenSpec.upto evadePartsSpec)

/-- 'planchetlaw08.EvadeSums', WHERE WHAT IT READS IS OF BULK AT MOST 1048576: true; the input reads as it did. -/
def evadeSumsUptoRow : OpenClaim := { program := "ytjddbglbodkihaadoor", sum := "b5e850f8e5ff28ca223a51a785dd90639fc74f940eb0aebfc36df71003ff301b", func := "planchet/planchetlaw08.EvadeSums", spec := "evadeSums", unfollowed := true, recurses := true, named := ["math/bits.deBruijn64tab"], plainKeys := false, apart := false, laid := [("math/bits.deBruijn64tab", laid_math_bits_deBruijn64tab)], narrowed := true }
def EvadeSumsUptoSaid : Prop := evadeSumsUptoRow.holds Tryd.pinned (OpenSpec.upto evadeSumsSpec)

/-- 'planchetlaw08.EvadeDuals', WHERE WHAT IT READS IS OF BULK AT MOST 1048576: true; the input reads as it did. -/
def evadeDualsUptoRow : OpenClaim := { program := "ytjddbglbodkihaadoor", sum := "b5e850f8e5ff28ca223a51a785dd90639fc74f940eb0aebfc36df71003ff301b", func := "planchet/planchetlaw08.EvadeDuals", spec := "evadeDuals", unfollowed := true, recurses := true, named := ["math/bits.deBruijn64tab"], plainKeys := false, apart := false, laid := [("math/bits.deBruijn64tab", laid_math_bits_deBruijn64tab)], narrowed := true }
def EvadeDualsUptoSaid : Prop := evadeDualsUptoRow.holds Tryd.pinned (OpenSpec.upto evadeDualsSpec)

/-- 'planchetlaw08.EvadeEarly', WHERE WHAT IT READS IS OF BULK AT MOST 1048576: true; the input reads as it did. -/
def evadeEarlyUptoRow : OpenClaim := { program := "ytjddbglbodkihaadoor", sum := "b5e850f8e5ff28ca223a51a785dd90639fc74f940eb0aebfc36df71003ff301b", func := "planchet/planchetlaw08.EvadeEarly", spec := "evadeEarly", recurses := true, named := ["math/bits.deBruijn64tab"], plainKeys := false, apart := false, laid := [("math/bits.deBruijn64tab", laid_math_bits_deBruijn64tab)], narrowed := true }
def EvadeEarlyUptoSaid : Prop := evadeEarlyUptoRow.holds Tryd.pinned (OpenSpec.upto evadeEarlySpec)

/-- 'planchetlaw08.EvadeProperties', WHERE WHAT IT READS IS OF BULK AT MOST 1048576: true; the input reads as it did. -/
def evadePropertiesUptoRow : OpenClaim := { program := "ytjddbglbodkihaadoor", sum := "b5e850f8e5ff28ca223a51a785dd90639fc74f940eb0aebfc36df71003ff301b", func := "planchet/planchetlaw08.EvadeProperties", spec := "evadeProperties", unfollowed := true, recurses := true, named := ["math/bits.deBruijn64tab"], plainKeys := false, apart := false, laid := [("math/bits.deBruijn64tab", laid_math_bits_deBruijn64tab)], narrowed := true }
def EvadePropertiesUptoSaid : Prop := evadePropertiesUptoRow.holds Tryd.pinned (OpenSpec.upto evadePropertiesSpec)

/-- 'planchetlaw08.EvadeProducts', WHERE WHAT IT READS IS OF BULK AT MOST 1048576: true; the input reads as it did. -/
def evadeProductsUptoRow : OpenClaim := { program := "ytjddbglbodkihaadoor", sum := "b5e850f8e5ff28ca223a51a785dd90639fc74f940eb0aebfc36df71003ff301b", func := "planchet/planchetlaw08.EvadeProducts", spec := "evadeProducts", unfollowed := true, recurses := true, named := ["math/bits.deBruijn64tab"], plainKeys := false, apart := false, laid := [("math/bits.deBruijn64tab", laid_math_bits_deBruijn64tab)], narrowed := true }
def EvadeProductsUptoSaid : Prop := evadeProductsUptoRow.holds Tryd.pinned (OpenSpec.upto evadeProductsSpec)

/-- 'planchetlaw08.EvadeFolds', WHERE WHAT IT READS IS OF BULK AT MOST 1048576: true; the input reads as it did. -/
def evadeFoldsUptoRow : OpenClaim := { program := "ytjddbglbodkihaadoor", sum := "b5e850f8e5ff28ca223a51a785dd90639fc74f940eb0aebfc36df71003ff301b", func := "planchet/planchetlaw08.EvadeFolds", spec := "evadeFolds", recurses := true, named := ["math/bits.deBruijn64tab"], plainKeys := false, apart := false, laid := [("math/bits.deBruijn64tab", laid_math_bits_deBruijn64tab)], narrowed := true }
def EvadeFoldsUptoSaid : Prop := evadeFoldsUptoRow.holds Tryd.pinned (OpenSpec.upto evadeFoldsSpec)

/-- 'planchetlaw08.EvadeAway', WHERE WHAT IT READS IS OF BULK AT MOST 1048576: true; the input reads as it did. -/
def evadeAwayUptoRow : OpenClaim := { program := "ytjddbglbodkihaadoor", sum := "b5e850f8e5ff28ca223a51a785dd90639fc74f940eb0aebfc36df71003ff301b", func := "planchet/planchetlaw08.EvadeAway", spec := "evadeAway", recurses := true, named := ["math/bits.deBruijn64tab"], plainKeys := false, apart := false, laid := [("math/bits.deBruijn64tab", laid_math_bits_deBruijn64tab)], narrowed := true }
def EvadeAwayUptoSaid : Prop := evadeAwayUptoRow.holds Tryd.pinned (OpenSpec.upto evadeAwaySpec)

/-- 'planchetlaw08.EvadeGraphs', WHERE WHAT IT READS IS OF BULK AT MOST 1048576: true; the input reads as it did. -/
def evadeGraphsUptoRow : OpenClaim := { program := "ytjddbglbodkihaadoor", sum := "b5e850f8e5ff28ca223a51a785dd90639fc74f940eb0aebfc36df71003ff301b", func := "planchet/planchetlaw08.EvadeGraphs", spec := "evadeGraphs", unfollowed := true, recurses := true, named := ["math/bits.deBruijn64tab"], plainKeys := false, apart := false, laid := [("math/bits.deBruijn64tab", laid_math_bits_deBruijn64tab)], narrowed := true }
def EvadeGraphsUptoSaid : Prop := evadeGraphsUptoRow.holds Tryd.pinned (OpenSpec.upto evadeGraphsSpec)

/-- 'planchetlaw08.EvadeSettles', WHERE WHAT IT READS IS OF BULK AT MOST 1048576: true; the input reads as it did. -/
def evadeSettlesUptoRow : OpenClaim := { program := "ytjddbglbodkihaadoor", sum := "b5e850f8e5ff28ca223a51a785dd90639fc74f940eb0aebfc36df71003ff301b", func := "planchet/planchetlaw08.EvadeSettles", spec := "evadeSettles", recurses := true, named := ["math/bits.deBruijn64tab"], plainKeys := false, apart := false, laid := [("math/bits.deBruijn64tab", laid_math_bits_deBruijn64tab)], narrowed := true }
def EvadeSettlesUptoSaid : Prop := evadeSettlesUptoRow.holds Tryd.pinned (OpenSpec.upto evadeSettlesSpec)

/-- 'planchetlaw08.EvadeSplits', WHERE WHAT IT READS IS OF BULK AT MOST 1048576: true; the input reads as it did. -/
def evadeSplitsUptoRow : OpenClaim := { program := "ytjddbglbodkihaadoor", sum := "b5e850f8e5ff28ca223a51a785dd90639fc74f940eb0aebfc36df71003ff301b", func := "planchet/planchetlaw08.EvadeSplits", spec := "evadeSplits", unfollowed := true, recurses := true, named := ["math/bits.deBruijn64tab"], plainKeys := false, apart := false, laid := [("math/bits.deBruijn64tab", laid_math_bits_deBruijn64tab)], narrowed := true }
def EvadeSplitsUptoSaid : Prop := evadeSplitsUptoRow.holds Tryd.pinned (OpenSpec.upto evadeSplitsSpec)

end Rows
end Go.Proofs.YtjddbglbodkihaaDoor
