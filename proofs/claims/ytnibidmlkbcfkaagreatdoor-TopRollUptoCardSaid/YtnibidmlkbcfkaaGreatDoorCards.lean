/-
  DERIVED. GIVEN WITH THE SEED: THE CARDS: each row of YtnibidmlkbcfkaaGreatDoorRows.lean that lists a variable, with what it lists TIED to the program's text (the seventh form; the later family's looks); each row that meets fmt, with fmt's text TOLD by the authors' own Lean function (tested against real Go, not proved from fmt's source: count such statements apart). THE CARD IS WHAT COUNTS. Prove the row's statement (the work); the ties are given (YtnibidmlkbcfkaaGreatDoorTie.lean); close each card by the builder's one call (the guide's Derived/Test/ToyasCard.lean, 'card_holds'). Laid BY PROGRAM, IN A SANDBOX (cutbox-door.mjs). By AI agents, Wed Nov 11 2026. No macro, syntax, notation, axiom, sorry.
-/
import Derived.Test.YtnibidmlkbcfkaaGreatDoorRows
import GoSem.ClaimSeven
namespace Go.Proofs.YtnibidmlkbcfkaaGreatDoor
namespace Rows

/-- THE TIED CARD OF 'planchettop.TopRoll'. -/
def topRollCard : Claim7 := { stood := { row := topRollRow, standIns := [], harness := (true, "c0e2ed281ac99fc173d733c4e789f5d8bfbc7298b280720d9c49711820369a39"), looks := true }, kinds := [], alts := [], laidByText := true, laidKinds := [.data, .data, .data, .data, .sentinel, .sentinel, .pinned], laidTests := true, laidLooks := .later }
def TopRollCardSaid : Prop := Claim7.holds Tryz.pinned (.plain (OpenSpec.ofChange topRollSpec)) topRollCard

/-- THE TIED CARD OF 'planchetlaw10.MintRoll'. -/
def mintRollCard : Claim7 := { stood := { row := mintRollRow, standIns := [], harness := (true, "c0e2ed281ac99fc173d733c4e789f5d8bfbc7298b280720d9c49711820369a39"), looks := true }, kinds := [], alts := [], laidByText := true, laidKinds := [.data, .data, .data, .data, .sentinel, .sentinel, .pinned], laidTests := true, laidLooks := .later }
def MintRollCardSaid : Prop := Claim7.holds Tryz.pinned (.plain (OpenSpec.ofChange mintRollSpec)) mintRollCard

/-- THE TIED CARD OF 'planchetlaw10.MintPans'. -/
def mintPansCard : Claim7 := { stood := { row := mintPansRow, standIns := [], harness := (true, "c0e2ed281ac99fc173d733c4e789f5d8bfbc7298b280720d9c49711820369a39"), looks := true }, kinds := [], alts := [], laidByText := true, laidKinds := [.data, .data, .data, .data, .sentinel, .sentinel, .pinned], laidTests := true, laidLooks := .later }
def MintPansCardSaid : Prop := Claim7.holds Tryz.pinned (.plain (OpenSpec.ofChange mintPansSpec)) mintPansCard

/-- THE TIED CARD OF 'planchetlaw10.MintReplays'. -/
def mintReplaysCard : Claim7 := { stood := { row := mintReplaysRow, standIns := [], harness := (true, "c0e2ed281ac99fc173d733c4e789f5d8bfbc7298b280720d9c49711820369a39"), looks := true }, kinds := [], alts := [], laidByText := true, laidKinds := [.data, .data, .data, .data, .sentinel, .sentinel, .pinned], laidTests := true, laidLooks := .later }
def MintReplaysCardSaid : Prop := Claim7.holds Tryz.pinned (.plain (OpenSpec.ofChange mintReplaysSpec)) mintReplaysCard

/-- THE SECOND FORM's CARD OF 'planchettop.TopRoll'. -/
def topRollUptoCard : Claim7 := { stood := { row := topRollUptoRow, standIns := [], harness := (true, "c0e2ed281ac99fc173d733c4e789f5d8bfbc7298b280720d9c49711820369a39"), looks := true }, kinds := [], alts := [], laidByText := true, laidKinds := [.data, .data, .data, .data, .sentinel, .sentinel, .pinned], laidTests := true, laidLooks := .later }
def TopRollUptoCardSaid : Prop := Claim7.holds Tryz.pinned (.plain (OpenSpec.upto topRollSpec)) topRollUptoCard

/-- THE SECOND FORM's CARD OF 'planchetlaw10.MintRoll'. -/
def mintRollUptoCard : Claim7 := { stood := { row := mintRollUptoRow, standIns := [], harness := (true, "c0e2ed281ac99fc173d733c4e789f5d8bfbc7298b280720d9c49711820369a39"), looks := true }, kinds := [], alts := [], laidByText := true, laidKinds := [.data, .data, .data, .data, .sentinel, .sentinel, .pinned], laidTests := true, laidLooks := .later }
def MintRollUptoCardSaid : Prop := Claim7.holds Tryz.pinned (.plain (OpenSpec.upto mintRollSpec)) mintRollUptoCard

/-- THE SECOND FORM's CARD OF 'planchetlaw10.MintPans'. -/
def mintPansUptoCard : Claim7 := { stood := { row := mintPansUptoRow, standIns := [], harness := (true, "c0e2ed281ac99fc173d733c4e789f5d8bfbc7298b280720d9c49711820369a39"), looks := true }, kinds := [], alts := [], laidByText := true, laidKinds := [.data, .data, .data, .data, .sentinel, .sentinel, .pinned], laidTests := true, laidLooks := .later }
def MintPansUptoCardSaid : Prop := Claim7.holds Tryz.pinned (.plain (OpenSpec.upto mintPansSpec)) mintPansUptoCard

/-- THE SECOND FORM's CARD OF 'planchetlaw10.MintReplays'. -/
def mintReplaysUptoCard : Claim7 := { stood := { row := mintReplaysUptoRow, standIns := [], harness := (true, "c0e2ed281ac99fc173d733c4e789f5d8bfbc7298b280720d9c49711820369a39"), looks := true }, kinds := [], alts := [], laidByText := true, laidKinds := [.data, .data, .data, .data, .sentinel, .sentinel, .pinned], laidTests := true, laidLooks := .later }
def MintReplaysUptoCardSaid : Prop := Claim7.holds Tryz.pinned (.plain (OpenSpec.upto mintReplaysSpec)) mintReplaysUptoCard
end Rows
end Go.Proofs.YtnibidmlkbcfkaaGreatDoor
