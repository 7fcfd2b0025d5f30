/-
  No cell of these rows narrows 'for every input' (looked for: loops, veiled, ifaces, maps, wideKeys, modest, calm, conditions, laid).
  DERIVED. THE GIVEN ROWS OF THIS SEAT. 13 by the template 'for every input the law returns true; each argument reads behind the call as it read before'; 0 by the template 'total and deterministic' (their statements: YtpebglilphgamaaTotals.lean).
  GIVEN WITH THE SEED: the statements are not yours to turn. If you find one false, say at which input.
  Laid BY PROGRAM, IN A SANDBOX (cutbox-rows.mjs): the forced cells as the released guide's own fill.sh prints them over the translation 01c17b3f65686a00… (all of the seat's roots in one cut). By AI agents, Wed Nov 11 2026. No macro, syntax, notation, axiom, sorry.
-/
import Derived.Test.YtpebglilphgamaaChecked
import GoSem.Claim
import GoSem.ClaimJoined
import GoSem.ClaimMapViews
import Derived.JoinedTies
import Derived.KernelRfl
namespace Go.Proofs.Ytpebglilphgamaa
/- THE CELL 'sum', in the pinned program and in every row, IS THE sha256 OF THE DUMP (.gsa) THAT YtpebglilphgamaaProg.lean LOADS. Nothing in Lean hashes anything: it is a label: what it is worth is what the hold of that sum in a sandbox is worth. -/
noncomputable def Try.pinned : Pinned := { name := "ytpebglilphgamaa", sum := "01c17b3f65686a0091cafd6c48281f919080dd861c36a5c1e8ddf83bfa1cea62", checked := Try.checked }
namespace Rows
def none {H : Type} : Left H := { results := [], args := [] }

/-- 'planchetlaw04.LearnLeft': WHATEVER THE INPUT: true; the input reads as it did. -/
def learnLeftSpec : ChangeSpec := { name := "learnLeft", fn := fun _ => fun
  | [d1, d2, d3] => { results := [.lit (.bool true)], args := [d1, d2, d3] }
  | _ => none }
def learnLeftRow : OpenClaim := { program := "ytpebglilphgamaa", sum := "01c17b3f65686a0091cafd6c48281f919080dd861c36a5c1e8ddf83bfa1cea62", func := "planchet/planchetlaw04.LearnLeft", spec := "learnLeft", recurses := true, apart := false }
def LearnLeftSaid : Prop := learnLeftRow.holds Try.pinned (OpenSpec.ofChange learnLeftSpec)

/-- ITS FALSE NEIGHBOUR: 'it returns false'. Refute it at one input. -/
def learnLeftWrong : ChangeSpec := { name := "learnLeft", fn := fun _ => fun
  | [d1, d2, d3] => { results := [.lit (.bool false)], args := [d1, d2, d3] }
  | _ => none }
def LearnLeftWrongFalsely : Prop := learnLeftRow.holds Try.pinned (OpenSpec.ofChange learnLeftWrong)

/-- 'planchetlaw04.LearnFools': WHATEVER THE INPUT: true; the input reads as it did. -/
def learnFoolsSpec : ChangeSpec := { name := "learnFools", fn := fun _ => fun
  | [d1, d2, d3, d4, d5] => { results := [.lit (.bool true)], args := [d1, d2, d3, d4, d5] }
  | _ => none }
def learnFoolsRow : OpenClaim := { program := "ytpebglilphgamaa", sum := "01c17b3f65686a0091cafd6c48281f919080dd861c36a5c1e8ddf83bfa1cea62", func := "planchet/planchetlaw04.LearnFools", spec := "learnFools", unfollowed := true, recurses := true, apart := false }
def LearnFoolsSaid : Prop := learnFoolsRow.holds Try.pinned (OpenSpec.ofChange learnFoolsSpec)

/-- ITS FALSE NEIGHBOUR: 'it returns false'. Refute it at one input. -/
def learnFoolsWrong : ChangeSpec := { name := "learnFools", fn := fun _ => fun
  | [d1, d2, d3, d4, d5] => { results := [.lit (.bool false)], args := [d1, d2, d3, d4, d5] }
  | _ => none }
def LearnFoolsWrongFalsely : Prop := learnFoolsRow.holds Try.pinned (OpenSpec.ofChange learnFoolsWrong)

/-- 'planchetlaw04.LearnDims': WHATEVER THE INPUT: true; the input reads as it did. -/
def learnDimsSpec : ChangeSpec := { name := "learnDims", fn := fun _ => fun
  | [d1, d2, d3] => { results := [.lit (.bool true)], args := [d1, d2, d3] }
  | _ => none }
def learnDimsRow : OpenClaim := { program := "ytpebglilphgamaa", sum := "01c17b3f65686a0091cafd6c48281f919080dd861c36a5c1e8ddf83bfa1cea62", func := "planchet/planchetlaw04.LearnDims", spec := "learnDims", recurses := true, apart := false }
def LearnDimsSaid : Prop := learnDimsRow.holds Try.pinned (OpenSpec.ofChange learnDimsSpec)

/-- ITS FALSE NEIGHBOUR: 'it returns false'. Refute it at one input. -/
def learnDimsWrong : ChangeSpec := { name := "learnDims", fn := fun _ => fun
  | [d1, d2, d3] => { results := [.lit (.bool false)], args := [d1, d2, d3] }
  | _ => none }
def LearnDimsWrongFalsely : Prop := learnDimsRow.holds Try.pinned (OpenSpec.ofChange learnDimsWrong)

/-- 'planchetlaw04.LearnWorst': WHATEVER THE INPUT: true; the input reads as it did. -/
def learnWorstSpec : ChangeSpec := { name := "learnWorst", fn := fun _ => fun
  | [d1, d2] => { results := [.lit (.bool true)], args := [d1, d2] }
  | _ => none }
def learnWorstRow : OpenClaim := { program := "ytpebglilphgamaa", sum := "01c17b3f65686a0091cafd6c48281f919080dd861c36a5c1e8ddf83bfa1cea62", func := "planchet/planchetlaw04.LearnWorst", spec := "learnWorst", unfollowed := true, recurses := true, apart := false }
def LearnWorstSaid : Prop := learnWorstRow.holds Try.pinned (OpenSpec.ofChange learnWorstSpec)

/-- ITS FALSE NEIGHBOUR: 'it returns false'. Refute it at one input. -/
def learnWorstWrong : ChangeSpec := { name := "learnWorst", fn := fun _ => fun
  | [d1, d2] => { results := [.lit (.bool false)], args := [d1, d2] }
  | _ => none }
def LearnWorstWrongFalsely : Prop := learnWorstRow.holds Try.pinned (OpenSpec.ofChange learnWorstWrong)

/-- 'planchetlaw04.LearnSays': WHATEVER THE INPUT: true; the input reads as it did. -/
def learnSaysSpec : ChangeSpec := { name := "learnSays", fn := fun _ => fun
  | [d1, d2, d3, d4] => { results := [.lit (.bool true)], args := [d1, d2, d3, d4] }
  | _ => none }
def learnSaysRow : OpenClaim := { program := "ytpebglilphgamaa", sum := "01c17b3f65686a0091cafd6c48281f919080dd861c36a5c1e8ddf83bfa1cea62", func := "planchet/planchetlaw04.LearnSays", spec := "learnSays", unfollowed := true, recurses := true, apart := false }
def LearnSaysSaid : Prop := learnSaysRow.holds Try.pinned (OpenSpec.ofChange learnSaysSpec)

/-- ITS FALSE NEIGHBOUR: 'it returns false'. Refute it at one input. -/
def learnSaysWrong : ChangeSpec := { name := "learnSays", fn := fun _ => fun
  | [d1, d2, d3, d4] => { results := [.lit (.bool false)], args := [d1, d2, d3, d4] }
  | _ => none }
def LearnSaysWrongFalsely : Prop := learnSaysRow.holds Try.pinned (OpenSpec.ofChange learnSaysWrong)

/-- 'planchetlaw04.LearnKeys': WHATEVER THE INPUT: true; the input reads as it did. -/
def learnKeysSpec : ChangeSpec := { name := "learnKeys", fn := fun _ => fun
  | [d1, d2, d3] => { results := [.lit (.bool true)], args := [d1, d2, d3] }
  | _ => none }
def learnKeysRow : OpenClaim := { program := "ytpebglilphgamaa", sum := "01c17b3f65686a0091cafd6c48281f919080dd861c36a5c1e8ddf83bfa1cea62", func := "planchet/planchetlaw04.LearnKeys", spec := "learnKeys", unfollowed := true, recurses := true, apart := false }
def LearnKeysSaid : Prop := learnKeysRow.holds Try.pinned (OpenSpec.ofChange learnKeysSpec)

/-- ITS FALSE NEIGHBOUR: 'it returns false'. Refute it at one input. -/
def learnKeysWrong : ChangeSpec := { name := "learnKeys", fn := fun _ => fun
  | [d1, d2, d3] => { results := [.lit (.bool false)], args := [d1, d2, d3] }
  | _ => none }
def LearnKeysWrongFalsely : Prop := learnKeysRow.holds Try.pinned (OpenSpec.ofChange learnKeysWrong)

/-- 'planchetlaw04.LearnAsks': WHATEVER THE INPUT: true; the input reads as it did. -/
def learnAsksSpec : ChangeSpec := { name := "learnAsks", fn := fun _ => fun
  | [d1, d2] => { results := [.lit (.bool true)], args := [d1, d2] }
  | _ => none }
def learnAsksRow : OpenClaim := { program := "ytpebglilphgamaa", sum := "01c17b3f65686a0091cafd6c48281f919080dd861c36a5c1e8ddf83bfa1cea62", func := "planchet/planchetlaw04.LearnAsks", spec := "learnAsks", unfollowed := true, recurses := true, apart := false }
def LearnAsksSaid : Prop := learnAsksRow.holds Try.pinned (OpenSpec.ofChange learnAsksSpec)

/-- ITS FALSE NEIGHBOUR: 'it returns false'. Refute it at one input. -/
def learnAsksWrong : ChangeSpec := { name := "learnAsks", fn := fun _ => fun
  | [d1, d2] => { results := [.lit (.bool false)], args := [d1, d2] }
  | _ => none }
def LearnAsksWrongFalsely : Prop := learnAsksRow.holds Try.pinned (OpenSpec.ofChange learnAsksWrong)

/-- 'planchetlaw04.LearnParts': WHATEVER THE INPUT: true; the input reads as it did. -/
def learnPartsSpec : ChangeSpec := { name := "learnParts", fn := fun _ => fun
  | [d1, d2, d3] => { results := [.lit (.bool true)], args := [d1, d2, d3] }
  | _ => none }
def learnPartsRow : OpenClaim := { program := "ytpebglilphgamaa", sum := "01c17b3f65686a0091cafd6c48281f919080dd861c36a5c1e8ddf83bfa1cea62", func := "planchet/planchetlaw04.LearnParts", spec := "learnParts", unfollowed := true, recurses := true, apart := false }
def LearnPartsSaid : Prop := learnPartsRow.holds Try.pinned (OpenSpec.ofChange learnPartsSpec)

/-- ITS FALSE NEIGHBOUR: 'it returns false'. Refute it at one input. -/
def learnPartsWrong : ChangeSpec := { name := "learnParts", fn := fun _ => fun
  | [d1, d2, d3] => { results := [.lit (.bool false)], args := [d1, d2, d3] }
  | _ => none }
def LearnPartsWrongFalsely : Prop := learnPartsRow.holds Try.pinned (OpenSpec.ofChange learnPartsWrong)

/-- 'planchetlaw04.LearnMistakes': WHATEVER THE INPUT: true; the input reads as it did. -/
def learnMistakesSpec : ChangeSpec := { name := "learnMistakes", fn := fun _ => fun
  | [d1, d2] => { results := [.lit (.bool true)], args := [d1, d2] }
  | _ => none }
def learnMistakesRow : OpenClaim := { program := "ytpebglilphgamaa", sum := "01c17b3f65686a0091cafd6c48281f919080dd861c36a5c1e8ddf83bfa1cea62", func := "planchet/planchetlaw04.LearnMistakes", spec := "learnMistakes", unfollowed := true, recurses := true, apart := false }
def LearnMistakesSaid : Prop := learnMistakesRow.holds Try.pinned (OpenSpec.ofChange learnMistakesSpec)

/-- ITS FALSE NEIGHBOUR: 'it returns false'. Refute it at one input. -/
def learnMistakesWrong : ChangeSpec := { name := "learnMistakes", fn := fun _ => fun
  | [d1, d2] => { results := [.lit (.bool false)], args := [d1, d2] }
  | _ => none }
def LearnMistakesWrongFalsely : Prop := learnMistakesRow.holds Try.pinned (OpenSpec.ofChange learnMistakesWrong)

/-- 'planchetlaw04.LearnAll': WHATEVER THE INPUT: true; the input reads as it did. -/
def learnAllSpec : ChangeSpec := { name := "learnAll", fn := fun _ => fun
  | [d] => { results := [.lit (.bool true)], args := [d] }
  | _ => none }
def learnAllRow : OpenClaim := { program := "ytpebglilphgamaa", sum := "01c17b3f65686a0091cafd6c48281f919080dd861c36a5c1e8ddf83bfa1cea62", func := "planchet/planchetlaw04.LearnAll", spec := "learnAll", unfollowed := true, recurses := true, apart := false }
def LearnAllSaid : Prop := learnAllRow.holds Try.pinned (OpenSpec.ofChange learnAllSpec)

/-- ITS FALSE NEIGHBOUR: 'it returns false'. Refute it at one input. -/
def learnAllWrong : ChangeSpec := { name := "learnAll", fn := fun _ => fun
  | [d] => { results := [.lit (.bool false)], args := [d] }
  | _ => none }
def LearnAllWrongFalsely : Prop := learnAllRow.holds Try.pinned (OpenSpec.ofChange learnAllWrong)

/-- 'planchetlaw04.LearnTeaches': WHATEVER THE INPUT: true; the input reads as it did. -/
def learnTeachesSpec : ChangeSpec := { name := "learnTeaches", fn := fun _ => fun
  | [d1, d2, d3] => { results := [.lit (.bool true)], args := [d1, d2, d3] }
  | _ => none }
def learnTeachesRow : OpenClaim := { program := "ytpebglilphgamaa", sum := "01c17b3f65686a0091cafd6c48281f919080dd861c36a5c1e8ddf83bfa1cea62", func := "planchet/planchetlaw04.LearnTeaches", spec := "learnTeaches", unfollowed := true, recurses := true, apart := false }
def LearnTeachesSaid : Prop := learnTeachesRow.holds Try.pinned (OpenSpec.ofChange learnTeachesSpec)

/-- ITS FALSE NEIGHBOUR: 'it returns false'. Refute it at one input. -/
def learnTeachesWrong : ChangeSpec := { name := "learnTeaches", fn := fun _ => fun
  | [d1, d2, d3] => { results := [.lit (.bool false)], args := [d1, d2, d3] }
  | _ => none }
def LearnTeachesWrongFalsely : Prop := learnTeachesRow.holds Try.pinned (OpenSpec.ofChange learnTeachesWrong)

/-- 'planchetlaw04.LearnTurns': WHATEVER THE INPUT: true; the input reads as it did. -/
def learnTurnsSpec : ChangeSpec := { name := "learnTurns", fn := fun _ => fun
  | [d1, d2, d3] => { results := [.lit (.bool true)], args := [d1, d2, d3] }
  | _ => none }
def learnTurnsRow : OpenClaim := { program := "ytpebglilphgamaa", sum := "01c17b3f65686a0091cafd6c48281f919080dd861c36a5c1e8ddf83bfa1cea62", func := "planchet/planchetlaw04.LearnTurns", spec := "learnTurns", recurses := true, apart := false }
def LearnTurnsSaid : Prop := learnTurnsRow.holds Try.pinned (OpenSpec.ofChange learnTurnsSpec)

/-- ITS FALSE NEIGHBOUR: 'it returns false'. Refute it at one input. -/
def learnTurnsWrong : ChangeSpec := { name := "learnTurns", fn := fun _ => fun
  | [d1, d2, d3] => { results := [.lit (.bool false)], args := [d1, d2, d3] }
  | _ => none }
def LearnTurnsWrongFalsely : Prop := learnTurnsRow.holds Try.pinned (OpenSpec.ofChange learnTurnsWrong)

/-- 'planchetlaw04.LearnTurned': WHATEVER THE INPUT: true; the input reads as it did. -/
def learnTurnedSpec : ChangeSpec := { name := "learnTurned", fn := fun _ => fun
  | [d1, d2, d3, d4] => { results := [.lit (.bool true)], args := [d1, d2, d3, d4] }
  | _ => none }
def learnTurnedRow : OpenClaim := { program := "ytpebglilphgamaa", sum := "01c17b3f65686a0091cafd6c48281f919080dd861c36a5c1e8ddf83bfa1cea62", func := "planchet/planchetlaw04.LearnTurned", spec := "learnTurned", unfollowed := true, recurses := true, apart := false }
def LearnTurnedSaid : Prop := learnTurnedRow.holds Try.pinned (OpenSpec.ofChange learnTurnedSpec)

/-- ITS FALSE NEIGHBOUR: 'it returns false'. Refute it at one input. -/
def learnTurnedWrong : ChangeSpec := { name := "learnTurned", fn := fun _ => fun
  | [d1, d2, d3, d4] => { results := [.lit (.bool false)], args := [d1, d2, d3, d4] }
  | _ => none }
def LearnTurnedWrongFalsely : Prop := learnTurnedRow.holds Try.pinned (OpenSpec.ofChange learnTurnedWrong)

/- THE SECOND FORM. 'bulk': how many values and letters a reading holds, each counted each time it is reached (what is shared counts as often as it is met; a slice's spare places count too). A statement '..UptoSaid' is the law's where the arguments, and the package variables that the reading takes, are together of bulk at most 1048576: NARROWER than '..Said'. Prove '..Said' where nothing that the law and all that it calls make is longer than what came in: it says more and counts as full. Else prove '..UptoSaid'. A law counts once. -/
mutual
def uptoBulk {H : Type} : DataW H → Nat
  | .lit (.string bytes) => bytes.length + 1
  | .lit _ => 1
  | .nil => 1
  | .ptr d => uptoBulk d + 1
  | .slice elems spare => uptoBulkAll elems + uptoBulkAll spare + 1
  | .agg parts => uptoBulkAll parts + 1
  | .iface _ d => uptoBulk d + 1
  | .map entries => uptoBulkEntries entries + 1
  | .held _ => 1
def uptoBulkAll {H : Type} : List (DataW H) → Nat
  | [] => 0
  | d :: r => uptoBulk d + uptoBulkAll r
def uptoBulkEntries {H : Type} : List (Lit × DataW H) → Nat
  | [] => 0
  | x :: r => uptoBulkEntry x + uptoBulkEntries r
def uptoBulkEntry {H : Type} : Lit × DataW H → Nat
  | (.string bytes, d) => bytes.length + uptoBulk d + 1
  | (_, d) => uptoBulk d + 1
 end
def uptoSmall : (H : Type) → List (DataW H) → Bool := fun _ ds => decide (uptoBulkAll ds ≤ 1048576)
def OpenSpec.upto (s : _root_.Go.ChangeSpec) : _root_.Go.OpenSpec := { _root_.Go.OpenSpec.ofChange s with cond := some uptoSmall }

/-- 'planchetlaw04.LearnLeft', WHERE WHAT IT READS IS OF BULK AT MOST 1048576: true; the input reads as it did. -/
def learnLeftUptoRow : OpenClaim := { program := "ytpebglilphgamaa", sum := "01c17b3f65686a0091cafd6c48281f919080dd861c36a5c1e8ddf83bfa1cea62", func := "planchet/planchetlaw04.LearnLeft", spec := "learnLeft", recurses := true, apart := false, narrowed := true }
def LearnLeftUptoSaid : Prop := learnLeftUptoRow.holds Try.pinned (OpenSpec.upto learnLeftSpec)

/-- 'planchetlaw04.LearnFools', WHERE WHAT IT READS IS OF BULK AT MOST 1048576: true; the input reads as it did. -/
def learnFoolsUptoRow : OpenClaim := { program := "ytpebglilphgamaa", sum := "01c17b3f65686a0091cafd6c48281f919080dd861c36a5c1e8ddf83bfa1cea62", func := "planchet/planchetlaw04.LearnFools", spec := "learnFools", unfollowed := true, recurses := true, apart := false, narrowed := true }
def LearnFoolsUptoSaid : Prop := learnFoolsUptoRow.holds Try.pinned (OpenSpec.upto learnFoolsSpec)

/-- 'planchetlaw04.LearnDims', WHERE WHAT IT READS IS OF BULK AT MOST 1048576: true; the input reads as it did. -/
def learnDimsUptoRow : OpenClaim := { program := "ytpebglilphgamaa", sum := "01c17b3f65686a0091cafd6c48281f919080dd861c36a5c1e8ddf83bfa1cea62", func := "planchet/planchetlaw04.LearnDims", spec := "learnDims", recurses := true, apart := false, narrowed := true }
def LearnDimsUptoSaid : Prop := learnDimsUptoRow.holds Try.pinned (OpenSpec.upto learnDimsSpec)

/-- 'planchetlaw04.LearnWorst', WHERE WHAT IT READS IS OF BULK AT MOST 1048576: true; the input reads as it did. -/
def learnWorstUptoRow : OpenClaim := { program := "ytpebglilphgamaa", sum := "01c17b3f65686a0091cafd6c48281f919080dd861c36a5c1e8ddf83bfa1cea62", func := "planchet/planchetlaw04.LearnWorst", spec := "learnWorst", unfollowed := true, recurses := true, apart := false, narrowed := true }
def LearnWorstUptoSaid : Prop := learnWorstUptoRow.holds Try.pinned (OpenSpec.upto learnWorstSpec)

/-- 'planchetlaw04.LearnSays', WHERE WHAT IT READS IS OF BULK AT MOST 1048576: true; the input reads as it did. -/
def learnSaysUptoRow : OpenClaim := { program := "ytpebglilphgamaa", sum := "01c17b3f65686a0091cafd6c48281f919080dd861c36a5c1e8ddf83bfa1cea62", func := "planchet/planchetlaw04.LearnSays", spec := "learnSays", unfollowed := true, recurses := true, apart := false, narrowed := true }
def LearnSaysUptoSaid : Prop := learnSaysUptoRow.holds Try.pinned (OpenSpec.upto learnSaysSpec)

/-- 'planchetlaw04.LearnKeys', WHERE WHAT IT READS IS OF BULK AT MOST 1048576: true; the input reads as it did. -/
def learnKeysUptoRow : OpenClaim := { program := "ytpebglilphgamaa", sum := "01c17b3f65686a0091cafd6c48281f919080dd861c36a5c1e8ddf83bfa1cea62", func := "planchet/planchetlaw04.LearnKeys", spec := "learnKeys", unfollowed := true, recurses := true, apart := false, narrowed := true }
def LearnKeysUptoSaid : Prop := learnKeysUptoRow.holds Try.pinned (OpenSpec.upto learnKeysSpec)

/-- 'planchetlaw04.LearnAsks', WHERE WHAT IT READS IS OF BULK AT MOST 1048576: true; the input reads as it did. -/
def learnAsksUptoRow : OpenClaim := { program := "ytpebglilphgamaa", sum := "01c17b3f65686a0091cafd6c48281f919080dd861c36a5c1e8ddf83bfa1cea62", func := "planchet/planchetlaw04.LearnAsks", spec := "learnAsks", unfollowed := true, recurses := true, apart := false, narrowed := true }
def LearnAsksUptoSaid : Prop := learnAsksUptoRow.holds Try.pinned (OpenSpec.upto learnAsksSpec)

/-- 'planchetlaw04.LearnParts', WHERE WHAT IT READS IS OF BULK AT MOST 1048576: true; the input reads as it did. -/
def learnPartsUptoRow : OpenClaim := { program := "ytpebglilphgamaa", sum := "01c17b3f65686a0091cafd6c48281f919080dd861c36a5c1e8ddf83bfa1cea62", func := "planchet/planchetlaw04.LearnParts", spec := "learnParts", unfollowed := true, recurses := true, apart := false, narrowed := true }
def LearnPartsUptoSaid : Prop := learnPartsUptoRow.holds Try.pinned (OpenSpec.upto learnPartsSpec)

/-- 'planchetlaw04.LearnMistakes', WHERE WHAT IT READS IS OF BULK AT MOST 1048576: true; the input reads as it did. -/
def learnMistakesUptoRow : OpenClaim := { program := "ytpebglilphgamaa", sum := "01c17b3f65686a0091cafd6c48281f919080dd861c36a5c1e8ddf83bfa1cea62", func := "planchet/planchetlaw04.LearnMistakes", spec := "learnMistakes", unfollowed := true, recurses := true, apart := false, narrowed := true }
def LearnMistakesUptoSaid : Prop := learnMistakesUptoRow.holds Try.pinned (OpenSpec.upto learnMistakesSpec)

/-- 'planchetlaw04.LearnAll', WHERE WHAT IT READS IS OF BULK AT MOST 1048576: true; the input reads as it did. -/
def learnAllUptoRow : OpenClaim := { program := "ytpebglilphgamaa", sum := "01c17b3f65686a0091cafd6c48281f919080dd861c36a5c1e8ddf83bfa1cea62", func := "planchet/planchetlaw04.LearnAll", spec := "learnAll", unfollowed := true, recurses := true, apart := false, narrowed := true }
def LearnAllUptoSaid : Prop := learnAllUptoRow.holds Try.pinned (OpenSpec.upto learnAllSpec)

/-- 'planchetlaw04.LearnTeaches', WHERE WHAT IT READS IS OF BULK AT MOST 1048576: true; the input reads as it did. -/
def learnTeachesUptoRow : OpenClaim := { program := "ytpebglilphgamaa", sum := "01c17b3f65686a0091cafd6c48281f919080dd861c36a5c1e8ddf83bfa1cea62", func := "planchet/planchetlaw04.LearnTeaches", spec := "learnTeaches", unfollowed := true, recurses := true, apart := false, narrowed := true }
def LearnTeachesUptoSaid : Prop := learnTeachesUptoRow.holds Try.pinned (OpenSpec.upto learnTeachesSpec)

/-- 'planchetlaw04.LearnTurns', WHERE WHAT IT READS IS OF BULK AT MOST 1048576: true; the input reads as it did. -/
def learnTurnsUptoRow : OpenClaim := { program := "ytpebglilphgamaa", sum := "01c17b3f65686a0091cafd6c48281f919080dd861c36a5c1e8ddf83bfa1cea62", func := "planchet/planchetlaw04.LearnTurns", spec := "learnTurns", recurses := true, apart := false, narrowed := true }
def LearnTurnsUptoSaid : Prop := learnTurnsUptoRow.holds Try.pinned (OpenSpec.upto learnTurnsSpec)

/-- 'planchetlaw04.LearnTurned', WHERE WHAT IT READS IS OF BULK AT MOST 1048576: true; the input reads as it did. -/
def learnTurnedUptoRow : OpenClaim := { program := "ytpebglilphgamaa", sum := "01c17b3f65686a0091cafd6c48281f919080dd861c36a5c1e8ddf83bfa1cea62", func := "planchet/planchetlaw04.LearnTurned", spec := "learnTurned", unfollowed := true, recurses := true, apart := false, narrowed := true }
def LearnTurnedUptoSaid : Prop := learnTurnedUptoRow.holds Try.pinned (OpenSpec.upto learnTurnedSpec)

end Rows
end Go.Proofs.Ytpebglilphgamaa
