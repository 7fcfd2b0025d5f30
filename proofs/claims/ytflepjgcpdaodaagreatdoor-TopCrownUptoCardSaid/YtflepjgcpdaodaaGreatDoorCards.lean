/-
  DERIVED. GIVEN WITH THE SEED: THE CARDS: each row of YtflepjgcpdaodaaGreatDoorRows.lean that lists a variable, with what it lists TIED to the program's text (the seventh form; the later family's looks); each row that meets fmt, with fmt's text TOLD by the authors' own Lean function (tested against real Go, not proved from fmt's source: count such statements apart). THE CARD IS WHAT COUNTS. Prove the row's statement (the work); the ties are given (YtflepjgcpdaodaaGreatDoorTie.lean); close each card by the builder's one call (the guide's Derived/Test/ToyasCard.lean, 'card_holds'). Laid BY PROGRAM, IN A SANDBOX (cutbox-door.mjs). By AI agents, Wed Nov 11 2026. No macro, syntax, notation, axiom, sorry.
-/
import Derived.Test.YtflepjgcpdaodaaGreatDoorRows
import GoSem.ClaimSeven
namespace Go.Proofs.YtflepjgcpdaodaaGreatDoor
namespace Rows

/-- THE TIED CARD OF 'planchettop.TopCrown'. -/
def topCrownCard : Claim7 := { stood := { row := topCrownRow, standIns := [], harness := (true, "a5aab0ea16d67a59e1f7f5bad50c6b62a5f3e6f0688316d306f5bd397f5e2ab7"), looks := true }, kinds := [], alts := [], laidByText := true, laidKinds := [.data, .data, .data, .data, .sentinel, .sentinel, .pinned], laidTests := true, laidLooks := .later }
def TopCrownCardSaid : Prop := Claim7.holds Tryz.pinned (.plain (OpenSpec.ofChange topCrownSpec)) topCrownCard

/-- THE TIED CARD OF 'planchetlaw10.MintOrder'. -/
def mintOrderCard : Claim7 := { stood := { row := mintOrderRow, standIns := [], harness := (true, "a5aab0ea16d67a59e1f7f5bad50c6b62a5f3e6f0688316d306f5bd397f5e2ab7"), looks := true }, kinds := [], alts := [], laidByText := true, laidKinds := [.data, .data, .data, .data, .sentinel, .sentinel, .pinned], laidTests := true, laidLooks := .later }
def MintOrderCardSaid : Prop := Claim7.holds Tryz.pinned (.plain (OpenSpec.ofChange mintOrderSpec)) mintOrderCard

/-- THE SECOND FORM's CARD OF 'planchettop.TopCrown'. -/
def topCrownUptoCard : Claim7 := { stood := { row := topCrownUptoRow, standIns := [], harness := (true, "a5aab0ea16d67a59e1f7f5bad50c6b62a5f3e6f0688316d306f5bd397f5e2ab7"), looks := true }, kinds := [], alts := [], laidByText := true, laidKinds := [.data, .data, .data, .data, .sentinel, .sentinel, .pinned], laidTests := true, laidLooks := .later }
def TopCrownUptoCardSaid : Prop := Claim7.holds Tryz.pinned (.plain (OpenSpec.upto topCrownSpec)) topCrownUptoCard

/-- THE SECOND FORM's CARD OF 'planchetlaw10.MintOrder'. -/
def mintOrderUptoCard : Claim7 := { stood := { row := mintOrderUptoRow, standIns := [], harness := (true, "a5aab0ea16d67a59e1f7f5bad50c6b62a5f3e6f0688316d306f5bd397f5e2ab7"), looks := true }, kinds := [], alts := [], laidByText := true, laidKinds := [.data, .data, .data, .data, .sentinel, .sentinel, .pinned], laidTests := true, laidLooks := .later }
def MintOrderUptoCardSaid : Prop := Claim7.holds Tryz.pinned (.plain (OpenSpec.upto mintOrderSpec)) mintOrderUptoCard
end Rows
end Go.Proofs.YtflepjgcpdaodaaGreatDoor
