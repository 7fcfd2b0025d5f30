/-
  No cell of these rows narrows 'for every input' (looked for: loops, veiled, ifaces, maps, wideKeys, modest, calm, conditions, laid).
  DERIVED. THE GIVEN ROWS OF THIS SEAT. 15 by the template 'for every input the law returns true; each argument reads behind the call as it read before'; 0 by the template 'total and deterministic' (their statements: YtdclmhmdkhpekaaTotals.lean).
  GIVEN WITH THE SEED: the statements are not yours to turn. If you find one false, say at which input.
  Laid BY PROGRAM, IN A SANDBOX (cutbox-rows.mjs): the forced cells as the released guide's own fill.sh prints them over the translation 969777494e3397b4… (all of the seat's roots in one cut). By AI agents, Wed Nov 11 2026. No macro, syntax, notation, axiom, sorry.
-/
import Derived.Test.YtdclmhmdkhpekaaChecked
import GoSem.Claim
import GoSem.ClaimJoined
import GoSem.ClaimMapViews
import Derived.JoinedTies
import Derived.KernelRfl
namespace Go.Proofs.Ytdclmhmdkhpekaa
/- THE CELL 'sum', in the pinned program and in every row, IS THE sha256 OF THE DUMP (.gsa) THAT YtdclmhmdkhpekaaProg.lean LOADS. Nothing in Lean hashes anything: it is a label: what it is worth is what the hold of that sum in a sandbox is worth. -/
noncomputable def Try.pinned : Pinned := { name := "ytdclmhmdkhpekaa", sum := "969777494e3397b4883e142f583db0cb182aaaaec66a132ea671c52c38059a3d", checked := Try.checked }
namespace Rows
def none {H : Type} : Left H := { results := [], args := [] }

/-- 'planchetlaw06.GuessMarks': WHATEVER THE INPUT: true; the input reads as it did. -/
def guessMarksSpec : ChangeSpec := { name := "guessMarks", fn := fun _ => fun
  | [d1, d2, d3, d4] => { results := [.lit (.bool true)], args := [d1, d2, d3, d4] }
  | _ => none }
def guessMarksRow : OpenClaim := { program := "ytdclmhmdkhpekaa", sum := "969777494e3397b4883e142f583db0cb182aaaaec66a132ea671c52c38059a3d", func := "planchet/planchetlaw06.GuessMarks", spec := "guessMarks", unfollowed := true, recurses := true, plainKeys := false, apart := false }
def GuessMarksSaid : Prop := guessMarksRow.holds Try.pinned (OpenSpec.ofChange guessMarksSpec)

/-- ITS FALSE NEIGHBOUR: 'it returns false'. Refute it at one input. -/
def guessMarksWrong : ChangeSpec := { name := "guessMarks", fn := fun _ => fun
  | [d1, d2, d3, d4] => { results := [.lit (.bool false)], args := [d1, d2, d3, d4] }
  | _ => none }
def GuessMarksWrongFalsely : Prop := guessMarksRow.holds Try.pinned (OpenSpec.ofChange guessMarksWrong)

/-- 'planchetlaw06.GuessSame': WHATEVER THE INPUT: true; the input reads as it did. -/
def guessSameSpec : ChangeSpec := { name := "guessSame", fn := fun _ => fun
  | [d1, d2, d3, d4] => { results := [.lit (.bool true)], args := [d1, d2, d3, d4] }
  | _ => none }
def guessSameRow : OpenClaim := { program := "ytdclmhmdkhpekaa", sum := "969777494e3397b4883e142f583db0cb182aaaaec66a132ea671c52c38059a3d", func := "planchet/planchetlaw06.GuessSame", spec := "guessSame", unfollowed := true, recurses := true, plainKeys := false, apart := false }
def GuessSameSaid : Prop := guessSameRow.holds Try.pinned (OpenSpec.ofChange guessSameSpec)

/-- ITS FALSE NEIGHBOUR: 'it returns false'. Refute it at one input. -/
def guessSameWrong : ChangeSpec := { name := "guessSame", fn := fun _ => fun
  | [d1, d2, d3, d4] => { results := [.lit (.bool false)], args := [d1, d2, d3, d4] }
  | _ => none }
def GuessSameWrongFalsely : Prop := guessSameRow.holds Try.pinned (OpenSpec.ofChange guessSameWrong)

/-- 'planchetlaw06.GuessNeed': WHATEVER THE INPUT: true; the input reads as it did. -/
def guessNeedSpec : ChangeSpec := { name := "guessNeed", fn := fun _ => fun
  | [d1, d2] => { results := [.lit (.bool true)], args := [d1, d2] }
  | _ => none }
def guessNeedRow : OpenClaim := { program := "ytdclmhmdkhpekaa", sum := "969777494e3397b4883e142f583db0cb182aaaaec66a132ea671c52c38059a3d", func := "planchet/planchetlaw06.GuessNeed", spec := "guessNeed", unfollowed := true, recurses := true, plainKeys := false, apart := false }
def GuessNeedSaid : Prop := guessNeedRow.holds Try.pinned (OpenSpec.ofChange guessNeedSpec)

/-- ITS FALSE NEIGHBOUR: 'it returns false'. Refute it at one input. -/
def guessNeedWrong : ChangeSpec := { name := "guessNeed", fn := fun _ => fun
  | [d1, d2] => { results := [.lit (.bool false)], args := [d1, d2] }
  | _ => none }
def GuessNeedWrongFalsely : Prop := guessNeedRow.holds Try.pinned (OpenSpec.ofChange guessNeedWrong)

/-- 'planchetlaw06.GuessColours': WHATEVER THE INPUT: true; the input reads as it did. -/
def guessColoursSpec : ChangeSpec := { name := "guessColours", fn := fun _ => fun
  | [d1, d2] => { results := [.lit (.bool true)], args := [d1, d2] }
  | _ => none }
def guessColoursRow : OpenClaim := { program := "ytdclmhmdkhpekaa", sum := "969777494e3397b4883e142f583db0cb182aaaaec66a132ea671c52c38059a3d", func := "planchet/planchetlaw06.GuessColours", spec := "guessColours", unfollowed := true, recurses := true, plainKeys := false, apart := false }
def GuessColoursSaid : Prop := guessColoursRow.holds Try.pinned (OpenSpec.ofChange guessColoursSpec)

/-- ITS FALSE NEIGHBOUR: 'it returns false'. Refute it at one input. -/
def guessColoursWrong : ChangeSpec := { name := "guessColours", fn := fun _ => fun
  | [d1, d2] => { results := [.lit (.bool false)], args := [d1, d2] }
  | _ => none }
def GuessColoursWrongFalsely : Prop := guessColoursRow.holds Try.pinned (OpenSpec.ofChange guessColoursWrong)

/-- 'planchetlaw06.GuessLeast': WHATEVER THE INPUT: true; the input reads as it did. -/
def guessLeastSpec : ChangeSpec := { name := "guessLeast", fn := fun _ => fun
  | [d1, d2] => { results := [.lit (.bool true)], args := [d1, d2] }
  | _ => none }
def guessLeastRow : OpenClaim := { program := "ytdclmhmdkhpekaa", sum := "969777494e3397b4883e142f583db0cb182aaaaec66a132ea671c52c38059a3d", func := "planchet/planchetlaw06.GuessLeast", spec := "guessLeast", unfollowed := true, recurses := true, plainKeys := false, apart := false }
def GuessLeastSaid : Prop := guessLeastRow.holds Try.pinned (OpenSpec.ofChange guessLeastSpec)

/-- ITS FALSE NEIGHBOUR: 'it returns false'. Refute it at one input. -/
def guessLeastWrong : ChangeSpec := { name := "guessLeast", fn := fun _ => fun
  | [d1, d2] => { results := [.lit (.bool false)], args := [d1, d2] }
  | _ => none }
def GuessLeastWrongFalsely : Prop := guessLeastRow.holds Try.pinned (OpenSpec.ofChange guessLeastWrong)

/-- 'planchetlaw06.GuessLies': WHATEVER THE INPUT: true; the input reads as it did. -/
def guessLiesSpec : ChangeSpec := { name := "guessLies", fn := fun _ => fun
  | [d1, d2, d3] => { results := [.lit (.bool true)], args := [d1, d2, d3] }
  | _ => none }
def guessLiesRow : OpenClaim := { program := "ytdclmhmdkhpekaa", sum := "969777494e3397b4883e142f583db0cb182aaaaec66a132ea671c52c38059a3d", func := "planchet/planchetlaw06.GuessLies", spec := "guessLies", unfollowed := true, recurses := true, plainKeys := false, apart := false }
def GuessLiesSaid : Prop := guessLiesRow.holds Try.pinned (OpenSpec.ofChange guessLiesSpec)

/-- ITS FALSE NEIGHBOUR: 'it returns false'. Refute it at one input. -/
def guessLiesWrong : ChangeSpec := { name := "guessLies", fn := fun _ => fun
  | [d1, d2, d3] => { results := [.lit (.bool false)], args := [d1, d2, d3] }
  | _ => none }
def GuessLiesWrongFalsely : Prop := guessLiesRow.holds Try.pinned (OpenSpec.ofChange guessLiesWrong)

/-- 'planchetlaw06.GuessSums': WHATEVER THE INPUT: true; the input reads as it did. -/
def guessSumsSpec : ChangeSpec := { name := "guessSums", fn := fun _ => fun
  | [d1, d2, d3] => { results := [.lit (.bool true)], args := [d1, d2, d3] }
  | _ => none }
def guessSumsRow : OpenClaim := { program := "ytdclmhmdkhpekaa", sum := "969777494e3397b4883e142f583db0cb182aaaaec66a132ea671c52c38059a3d", func := "planchet/planchetlaw06.GuessSums", spec := "guessSums", unfollowed := true, recurses := true, plainKeys := false, apart := false }
def GuessSumsSaid : Prop := guessSumsRow.holds Try.pinned (OpenSpec.ofChange guessSumsSpec)

/-- ITS FALSE NEIGHBOUR: 'it returns false'. Refute it at one input. -/
def guessSumsWrong : ChangeSpec := { name := "guessSums", fn := fun _ => fun
  | [d1, d2, d3] => { results := [.lit (.bool false)], args := [d1, d2, d3] }
  | _ => none }
def GuessSumsWrongFalsely : Prop := guessSumsRow.holds Try.pinned (OpenSpec.ofChange guessSumsWrong)

/-- 'planchetlaw06.GuessAfter': WHATEVER THE INPUT: true; the input reads as it did. -/
def guessAfterSpec : ChangeSpec := { name := "guessAfter", fn := fun _ => fun
  | [d1, d2, d3, d4] => { results := [.lit (.bool true)], args := [d1, d2, d3, d4] }
  | _ => none }
def guessAfterRow : OpenClaim := { program := "ytdclmhmdkhpekaa", sum := "969777494e3397b4883e142f583db0cb182aaaaec66a132ea671c52c38059a3d", func := "planchet/planchetlaw06.GuessAfter", spec := "guessAfter", unfollowed := true, recurses := true, plainKeys := false, apart := false }
def GuessAfterSaid : Prop := guessAfterRow.holds Try.pinned (OpenSpec.ofChange guessAfterSpec)

/-- ITS FALSE NEIGHBOUR: 'it returns false'. Refute it at one input. -/
def guessAfterWrong : ChangeSpec := { name := "guessAfter", fn := fun _ => fun
  | [d1, d2, d3, d4] => { results := [.lit (.bool false)], args := [d1, d2, d3, d4] }
  | _ => none }
def GuessAfterWrongFalsely : Prop := guessAfterRow.holds Try.pinned (OpenSpec.ofChange guessAfterWrong)

/-- 'planchetlaw06.GuessMore': WHATEVER THE INPUT: true; the input reads as it did. -/
def guessMoreSpec : ChangeSpec := { name := "guessMore", fn := fun _ => fun
  | [d1, d2, d3] => { results := [.lit (.bool true)], args := [d1, d2, d3] }
  | _ => none }
def guessMoreRow : OpenClaim := { program := "ytdclmhmdkhpekaa", sum := "969777494e3397b4883e142f583db0cb182aaaaec66a132ea671c52c38059a3d", func := "planchet/planchetlaw06.GuessMore", spec := "guessMore", unfollowed := true, recurses := true, plainKeys := false, apart := false }
def GuessMoreSaid : Prop := guessMoreRow.holds Try.pinned (OpenSpec.ofChange guessMoreSpec)

/-- ITS FALSE NEIGHBOUR: 'it returns false'. Refute it at one input. -/
def guessMoreWrong : ChangeSpec := { name := "guessMore", fn := fun _ => fun
  | [d1, d2, d3] => { results := [.lit (.bool false)], args := [d1, d2, d3] }
  | _ => none }
def GuessMoreWrongFalsely : Prop := guessMoreRow.holds Try.pinned (OpenSpec.ofChange guessMoreWrong)

/-- 'planchetlaw06.GuessWeighs': WHATEVER THE INPUT: true; the input reads as it did. -/
def guessWeighsSpec : ChangeSpec := { name := "guessWeighs", fn := fun _ => fun
  | [d1, d2] => { results := [.lit (.bool true)], args := [d1, d2] }
  | _ => none }
def guessWeighsRow : OpenClaim := { program := "ytdclmhmdkhpekaa", sum := "969777494e3397b4883e142f583db0cb182aaaaec66a132ea671c52c38059a3d", func := "planchet/planchetlaw06.GuessWeighs", spec := "guessWeighs", unfollowed := true, recurses := true, plainKeys := false, apart := false }
def GuessWeighsSaid : Prop := guessWeighsRow.holds Try.pinned (OpenSpec.ofChange guessWeighsSpec)

/-- ITS FALSE NEIGHBOUR: 'it returns false'. Refute it at one input. -/
def guessWeighsWrong : ChangeSpec := { name := "guessWeighs", fn := fun _ => fun
  | [d1, d2] => { results := [.lit (.bool false)], args := [d1, d2] }
  | _ => none }
def GuessWeighsWrongFalsely : Prop := guessWeighsRow.holds Try.pinned (OpenSpec.ofChange guessWeighsWrong)

/-- 'planchetlaw06.GuessPlain': WHATEVER THE INPUT: true; the input reads as it did. -/
def guessPlainSpec : ChangeSpec := { name := "guessPlain", fn := fun _ => fun
  | [d1, d2] => { results := [.lit (.bool true)], args := [d1, d2] }
  | _ => none }
def guessPlainRow : OpenClaim := { program := "ytdclmhmdkhpekaa", sum := "969777494e3397b4883e142f583db0cb182aaaaec66a132ea671c52c38059a3d", func := "planchet/planchetlaw06.GuessPlain", spec := "guessPlain", unfollowed := true, recurses := true, plainKeys := false, apart := false }
def GuessPlainSaid : Prop := guessPlainRow.holds Try.pinned (OpenSpec.ofChange guessPlainSpec)

/-- ITS FALSE NEIGHBOUR: 'it returns false'. Refute it at one input. -/
def guessPlainWrong : ChangeSpec := { name := "guessPlain", fn := fun _ => fun
  | [d1, d2] => { results := [.lit (.bool false)], args := [d1, d2] }
  | _ => none }
def GuessPlainWrongFalsely : Prop := guessPlainRow.holds Try.pinned (OpenSpec.ofChange guessPlainWrong)

/-- 'planchetlaw06.GuessLeft': WHATEVER THE INPUT: true; the input reads as it did. -/
def guessLeftSpec : ChangeSpec := { name := "guessLeft", fn := fun _ => fun
  | [d1, d2, d3, d4] => { results := [.lit (.bool true)], args := [d1, d2, d3, d4] }
  | _ => none }
def guessLeftRow : OpenClaim := { program := "ytdclmhmdkhpekaa", sum := "969777494e3397b4883e142f583db0cb182aaaaec66a132ea671c52c38059a3d", func := "planchet/planchetlaw06.GuessLeft", spec := "guessLeft", unfollowed := true, recurses := true, plainKeys := false, apart := false }
def GuessLeftSaid : Prop := guessLeftRow.holds Try.pinned (OpenSpec.ofChange guessLeftSpec)

/-- ITS FALSE NEIGHBOUR: 'it returns false'. Refute it at one input. -/
def guessLeftWrong : ChangeSpec := { name := "guessLeft", fn := fun _ => fun
  | [d1, d2, d3, d4] => { results := [.lit (.bool false)], args := [d1, d2, d3, d4] }
  | _ => none }
def GuessLeftWrongFalsely : Prop := guessLeftRow.holds Try.pinned (OpenSpec.ofChange guessLeftWrong)

/-- 'planchetlaw06.GuessWins': WHATEVER THE INPUT: true; the input reads as it did. -/
def guessWinsSpec : ChangeSpec := { name := "guessWins", fn := fun _ => fun
  | [d1, d2] => { results := [.lit (.bool true)], args := [d1, d2] }
  | _ => none }
def guessWinsRow : OpenClaim := { program := "ytdclmhmdkhpekaa", sum := "969777494e3397b4883e142f583db0cb182aaaaec66a132ea671c52c38059a3d", func := "planchet/planchetlaw06.GuessWins", spec := "guessWins", unfollowed := true, recurses := true, plainKeys := false, apart := false }
def GuessWinsSaid : Prop := guessWinsRow.holds Try.pinned (OpenSpec.ofChange guessWinsSpec)

/-- ITS FALSE NEIGHBOUR: 'it returns false'. Refute it at one input. -/
def guessWinsWrong : ChangeSpec := { name := "guessWins", fn := fun _ => fun
  | [d1, d2] => { results := [.lit (.bool false)], args := [d1, d2] }
  | _ => none }
def GuessWinsWrongFalsely : Prop := guessWinsRow.holds Try.pinned (OpenSpec.ofChange guessWinsWrong)

/-- 'planchetlaw06.GuessAsked': WHATEVER THE INPUT: true; the input reads as it did. -/
def guessAskedSpec : ChangeSpec := { name := "guessAsked", fn := fun _ => fun
  | [d1, d2, d3] => { results := [.lit (.bool true)], args := [d1, d2, d3] }
  | _ => none }
def guessAskedRow : OpenClaim := { program := "ytdclmhmdkhpekaa", sum := "969777494e3397b4883e142f583db0cb182aaaaec66a132ea671c52c38059a3d", func := "planchet/planchetlaw06.GuessAsked", spec := "guessAsked", unfollowed := true, recurses := true, plainKeys := false, apart := false }
def GuessAskedSaid : Prop := guessAskedRow.holds Try.pinned (OpenSpec.ofChange guessAskedSpec)

/-- ITS FALSE NEIGHBOUR: 'it returns false'. Refute it at one input. -/
def guessAskedWrong : ChangeSpec := { name := "guessAsked", fn := fun _ => fun
  | [d1, d2, d3] => { results := [.lit (.bool false)], args := [d1, d2, d3] }
  | _ => none }
def GuessAskedWrongFalsely : Prop := guessAskedRow.holds Try.pinned (OpenSpec.ofChange guessAskedWrong)

/-- 'planchetlaw06.GuessParts': WHATEVER THE INPUT: true; the input reads as it did. -/
def guessPartsSpec : ChangeSpec := { name := "guessParts", fn := fun _ => fun
  | [d1, d2, d3, d4] => { results := [.lit (.bool true)], args := [d1, d2, d3, d4] }
  | _ => none }
def guessPartsRow : OpenClaim := { program := "ytdclmhmdkhpekaa", sum := "969777494e3397b4883e142f583db0cb182aaaaec66a132ea671c52c38059a3d", func := "planchet/planchetlaw06.GuessParts", spec := "guessParts", unfollowed := true, recurses := true, plainKeys := false, apart := false }
def GuessPartsSaid : Prop := guessPartsRow.holds Try.pinned (OpenSpec.ofChange guessPartsSpec)

/-- ITS FALSE NEIGHBOUR: 'it returns false'. Refute it at one input. -/
def guessPartsWrong : ChangeSpec := { name := "guessParts", fn := fun _ => fun
  | [d1, d2, d3, d4] => { results := [.lit (.bool false)], args := [d1, d2, d3, d4] }
  | _ => none }
def GuessPartsWrongFalsely : Prop := guessPartsRow.holds Try.pinned (OpenSpec.ofChange guessPartsWrong)

/- THE SECOND FORM. 'bulk': how many values and letters a reading holds, each counted each time it is reached (what is shared counts as often as it is met; a slice's spare places count too). A statement '..UptoSaid' is the law's where the arguments, and the package variables that the reading takes, are together of bulk at most 1048576: NARROWER than '..Said'. Prove '..Said' where nothing that the law and all that it calls make is longer than what came in: it says more and counts as full. Else prove '..UptoSaid'. A law counts once. -/
mutual
def uptoBulk {H : Type} : DataW H → Nat
  | .lit (.string bytes) => bytes.length + 1
  | .lit _ => 1
  | .nil => 1
  | .ptr d => uptoBulk d + 1
  | .slice elems spare => uptoBulkAll elems + uptoBulkAll spare + 1
  | .agg parts => uptoBulkAll parts + 1
  | .iface _ d => uptoBulk d + 1
  | .map entries => uptoBulkEntries entries + 1
  | .held _ => 1
def uptoBulkAll {H : Type} : List (DataW H) → Nat
  | [] => 0
  | d :: r => uptoBulk d + uptoBulkAll r
def uptoBulkEntries {H : Type} : List (Lit × DataW H) → Nat
  | [] => 0
  | x :: r => uptoBulkEntry x + uptoBulkEntries r
def uptoBulkEntry {H : Type} : Lit × DataW H → Nat
  | (.string bytes, d) => bytes.length + uptoBulk d + 1
  | (_, d) => uptoBulk d + 1
 end
def uptoSmall : (H : Type) → List (DataW H) → Bool := fun _ ds => decide (uptoBulkAll ds ≤ 1048576)
def OpenSpec.upto (s : _root_.Go.ChangeSpec) : _root_.Go.OpenSpec := { _root_.Go.OpenSpec.ofChange s with cond := some uptoSmall }

/-- 'planchetlaw06.GuessMarks', WHERE WHAT IT READS IS OF BULK AT MOST 1048576: true; the input reads as it did. -/
def guessMarksUptoRow : OpenClaim := { program := "ytdclmhmdkhpekaa", sum := "969777494e3397b4883e142f583db0cb182aaaaec66a132ea671c52c38059a3d", func := "planchet/planchetlaw06.GuessMarks", spec := "guessMarks", unfollowed := true, recurses := true, plainKeys := false, apart := false, narrowed := true }
def GuessMarksUptoSaid : Prop := guessMarksUptoRow.holds Try.pinned (OpenSpec.upto guessMarksSpec)

/-- 'planchetlaw06.GuessSame', WHERE WHAT IT READS IS OF BULK AT MOST 1048576: true; the input reads as it did. -/
def guessSameUptoRow : OpenClaim := { program := "ytdclmhmdkhpekaa", sum := "969777494e3397b4883e142f583db0cb182aaaaec66a132ea671c52c38059a3d", func := "planchet/planchetlaw06.GuessSame", spec := "guessSame", unfollowed := true, recurses := true, plainKeys := false, apart := false, narrowed := true }
def GuessSameUptoSaid : Prop := guessSameUptoRow.holds Try.pinned (OpenSpec.upto guessSameSpec)

/-- 'planchetlaw06.GuessNeed', WHERE WHAT IT READS IS OF BULK AT MOST 1048576: true; the input reads as it did. -/
def guessNeedUptoRow : OpenClaim := { program := "ytdclmhmdkhpekaa", sum := "969777494e3397b4883e142f583db0cb182aaaaec66a132ea671c52c38059a3d", func := "planchet/planchetlaw06.GuessNeed", spec := "guessNeed", unfollowed := true, recurses := true, plainKeys := false, apart := false, narrowed := true }
def GuessNeedUptoSaid : Prop := guessNeedUptoRow.holds Try.pinned (OpenSpec.upto guessNeedSpec)

/-- 'planchetlaw06.GuessColours', WHERE WHAT IT READS IS OF BULK AT MOST 1048576: true; the input reads as it did. -/
def guessColoursUptoRow : OpenClaim := { program := "ytdclmhmdkhpekaa", sum := "969777494e3397b4883e142f583db0cb182aaaaec66a132ea671c52c38059a3d", func := "planchet/planchetlaw06.GuessColours", spec := "guessColours", unfollowed := true, recurses := true, plainKeys := false, apart := false, narrowed := true }
def GuessColoursUptoSaid : Prop := guessColoursUptoRow.holds Try.pinned (OpenSpec.upto guessColoursSpec)

/-- 'planchetlaw06.GuessLeast', WHERE WHAT IT READS IS OF BULK AT MOST 1048576: true; the input reads as it did. -/
def guessLeastUptoRow : OpenClaim := { program := "ytdclmhmdkhpekaa", sum := "969777494e3397b4883e142f583db0cb182aaaaec66a132ea671c52c38059a3d", func := "planchet/planchetlaw06.GuessLeast", spec := "guessLeast", unfollowed := true, recurses := true, plainKeys := false, apart := false, narrowed := true }
def GuessLeastUptoSaid : Prop := guessLeastUptoRow.holds Try.pinned (OpenSpec.upto guessLeastSpec)

/-- 'planchetlaw06.GuessLies', WHERE WHAT IT READS IS OF BULK AT MOST 1048576: true; the input reads as it did. -/
def guessLiesUptoRow : OpenClaim := { program := "ytdclmhmdkhpekaa", sum := "969777494e3397b4883e142f583db0cb182aaaaec66a132ea671c52c38059a3d", func := "planchet/planchetlaw06.GuessLies", spec := "guessLies", unfollowed := true, recurses := true, plainKeys := false, apart := false, narrowed := true }
def GuessLiesUptoSaid : Prop := guessLiesUptoRow.holds Try.pinned (OpenSpec.upto guessLiesSpec)

/-- 'planchetlaw06.GuessSums', WHERE WHAT IT READS IS OF BULK AT MOST 1048576: true; the input reads as it did. -/
def guessSumsUptoRow : OpenClaim := { program := "ytdclmhmdkhpekaa", sum := "969777494e3397b4883e142f583db0cb182aaaaec66a132ea671c52c38059a3d", func := "planchet/planchetlaw06.GuessSums", spec := "guessSums", unfollowed := true, recurses := true, plainKeys := false, apart := false, narrowed := true }
def GuessSumsUptoSaid : Prop := guessSumsUptoRow.holds Try.pinned (OpenSpec.upto guessSumsSpec)

/-- 'planchetlaw06.GuessAfter', WHERE WHAT IT READS IS OF BULK AT MOST 1048576: true; the input reads as it did. -/
def guessAfterUptoRow : OpenClaim := { program := "ytdclmhmdkhpekaa", sum := "969777494e3397b4883e142f583db0cb182aaaaec66a132ea671c52c38059a3d", func := "planchet/planchetlaw06.GuessAfter", spec := "guessAfter", unfollowed := true, recurses := true, plainKeys := false, apart := false, narrowed := true }
def GuessAfterUptoSaid : Prop := guessAfterUptoRow.holds Try.pinned (OpenSpec.upto guessAfterSpec)

/-- 'planchetlaw06.GuessMore', WHERE WHAT IT READS IS OF BULK AT MOST 1048576: true; the input reads as it did. -/
def guessMoreUptoRow : OpenClaim := { program := "ytdclmhmdkhpekaa", sum := "969777494e3397b4883e142f583db0cb182aaaaec66a132ea671c52c38059a3d", func := "planchet/planchetlaw06.GuessMore", spec := "guessMore", unfollowed := true, recurses := true, plainKeys := false, apart := false, narrowed := true }
def GuessMoreUptoSaid : Prop := guessMoreUptoRow.holds Try.pinned (OpenSpec.upto guessMoreSpec)

/-- 'planchetlaw06.GuessWeighs', WHERE WHAT IT READS IS OF BULK AT MOST 1048576: true; the input reads as it did. -/
def guessWeighsUptoRow : OpenClaim := { program := "ytdclmhmdkhpekaa", sum := "969777494e3397b4883e142f583db0cb182aaaaec66a132ea671c52c38059a3d", func := "planchet/planchetlaw06.GuessWeighs", spec := "guessWeighs", unfollowed := true, recurses := true, plainKeys := false, apart := false, narrowed := true }
def GuessWeighsUptoSaid : Prop := guessWeighsUptoRow.holds Try.pinned (OpenSpec.upto guessWeighsSpec)

/-- 'planchetlaw06.GuessPlain', WHERE WHAT IT READS IS OF BULK AT MOST 1048576: true; the input reads as it did. -/
def guessPlainUptoRow : OpenClaim := { program := "ytdclmhmdkhpekaa", sum := "969777494e3397b4883e142f583db0cb182aaaaec66a132ea671c52c38059a3d", func := "planchet/planchetlaw06.GuessPlain", spec := "guessPlain", unfollowed := true, recurses := true, plainKeys := false, apart := false, narrowed := true }
def GuessPlainUptoSaid : Prop := guessPlainUptoRow.holds Try.pinned (OpenSpec.upto guessPlainSpec)

/-- 'planchetlaw06.GuessLeft', WHERE WHAT IT READS IS OF BULK AT MOST 1048576: true; the input reads as it did. -/
def guessLeftUptoRow : OpenClaim := { program := "ytdclmhmdkhpekaa", sum := "969777494e3397b4883e142f583db0cb182aaaaec66a132ea671c52c38059a3d", func := "planchet/planchetlaw06.GuessLeft", spec := "guessLeft", unfollowed := true, recurses := true, plainKeys := false, apart := false, narrowed := true }
def GuessLeftUptoSaid : Prop := guessLeftUptoRow.holds Try.pinned (OpenSpec.upto guessLeftSpec)

/-- 'planchetlaw06.GuessWins', WHERE WHAT IT READS IS OF BULK AT MOST 1048576: true; the input reads as it did. -/
def guessWinsUptoRow : OpenClaim := { program := "ytdclmhmdkhpekaa", sum := "969777494e3397b4883e142f583db0cb182aaaaec66a132ea671c52c38059a3d", func := "planchet/planchetlaw06.GuessWins", spec := "guessWins", unfollowed := true, recurses := true, plainKeys := false, apart := false, narrowed := true }
def GuessWinsUptoSaid : Prop := guessWinsUptoRow.holds Try.pinned (OpenSpec.upto guessWinsSpec)

/-- 'planchetlaw06.GuessAsked', WHERE WHAT IT READS IS OF BULK AT MOST 1048576: true; the input reads as it did. -/
def guessAskedUptoRow : OpenClaim := { program := "ytdclmhmdkhpekaa", sum := "969777494e3397b4883e142f583db0cb182aaaaec66a132ea671c52c38059a3d", func := "planchet/planchetlaw06.GuessAsked", spec := "guessAsked", unfollowed := true, recurses := true, plainKeys := false, apart := false, narrowed := true }
def GuessAskedUptoSaid : Prop := guessAskedUptoRow.holds Try.pinned (OpenSpec.upto guessAskedSpec)

/-- 'planchetlaw06.GuessParts', WHERE WHAT IT READS IS OF BULK AT MOST 1048576: true; the input reads as it did. -/
def guessPartsUptoRow : OpenClaim := { program := "ytdclmhmdkhpekaa", sum := "969777494e3397b4883e142f583db0cb182aaaaec66a132ea671c52c38059a3d", func := "planchet/planchetlaw06.GuessParts", spec := "guessParts", unfollowed := true, recurses := true, plainKeys := false, apart := false, narrowed := true }
def GuessPartsUptoSaid : Prop := guessPartsUptoRow.holds Try.pinned (OpenSpec.upto guessPartsSpec)

end Rows
end Go.Proofs.Ytdclmhmdkhpekaa
