/-
  DERIVED. GIVEN WITH THE SEED: THE CARDS: each row of YtkjinamjdjijcaaGreatDoorRows.lean that lists a variable, with what it lists TIED to the program's text (the seventh form; the later family's looks); each row that meets fmt, with fmt's text TOLD by the authors' own Lean function (tested against real Go, not proved from fmt's source: count such statements apart). THE CARD IS WHAT COUNTS. Prove the row's statement (the work); the ties are given (YtkjinamjdjijcaaGreatDoorTie.lean); close each card by the builder's one call (the guide's Derived/Test/ToyasCard.lean, 'card_holds'). Laid BY PROGRAM, IN A SANDBOX (cutbox-door.mjs). By AI agents, Wed Nov 11 2026. No macro, syntax, notation, axiom, sorry.
-/
import Derived.Test.YtkjinamjdjijcaaGreatDoorRows
import GoSem.ClaimSeven
namespace Go.Proofs.YtkjinamjdjijcaaGreatDoor
namespace Rows

/-- THE TIED CARD OF 'planchetlaw10.MintCopies'. -/
def mintCopiesCard : Claim7 := { stood := { row := mintCopiesRow, standIns := [], harness := (true, "40c7725d67031456c25f775dccd4d7db93e56a4d92b6fab99727a69879d12347"), looks := true }, kinds := [], alts := [], laidByText := true, laidKinds := [.data, .data, .data, .data, .sentinel, .sentinel, .pinned], laidTests := true, laidLooks := .later }
def MintCopiesCardSaid : Prop := Claim7.holds Tryz.pinned (.plain (OpenSpec.ofChange mintCopiesSpec)) mintCopiesCard

/-- THE TIED CARD OF 'planchetlaw10.MintNobody'. -/
def mintNobodyCard : Claim7 := { stood := { row := mintNobodyRow, standIns := [], harness := (true, "40c7725d67031456c25f775dccd4d7db93e56a4d92b6fab99727a69879d12347"), looks := true }, kinds := [], alts := [], laidByText := true, laidKinds := [.data, .data, .data, .data, .sentinel, .sentinel, .pinned], laidTests := true, laidLooks := .later }
def MintNobodyCardSaid : Prop := Claim7.holds Tryz.pinned (.plain (OpenSpec.ofChange mintNobodySpec)) mintNobodyCard

/-- THE SECOND FORM's CARD OF 'planchetlaw10.MintCopies'. -/
def mintCopiesUptoCard : Claim7 := { stood := { row := mintCopiesUptoRow, standIns := [], harness := (true, "40c7725d67031456c25f775dccd4d7db93e56a4d92b6fab99727a69879d12347"), looks := true }, kinds := [], alts := [], laidByText := true, laidKinds := [.data, .data, .data, .data, .sentinel, .sentinel, .pinned], laidTests := true, laidLooks := .later }
def MintCopiesUptoCardSaid : Prop := Claim7.holds Tryz.pinned (.plain (OpenSpec.upto mintCopiesSpec)) mintCopiesUptoCard

/-- THE SECOND FORM's CARD OF 'planchetlaw10.MintNobody'. -/
def mintNobodyUptoCard : Claim7 := { stood := { row := mintNobodyUptoRow, standIns := [], harness := (true, "40c7725d67031456c25f775dccd4d7db93e56a4d92b6fab99727a69879d12347"), looks := true }, kinds := [], alts := [], laidByText := true, laidKinds := [.data, .data, .data, .data, .sentinel, .sentinel, .pinned], laidTests := true, laidLooks := .later }
def MintNobodyUptoCardSaid : Prop := Claim7.holds Tryz.pinned (.plain (OpenSpec.upto mintNobodySpec)) mintNobodyUptoCard
end Rows
end Go.Proofs.YtkjinamjdjijcaaGreatDoor
