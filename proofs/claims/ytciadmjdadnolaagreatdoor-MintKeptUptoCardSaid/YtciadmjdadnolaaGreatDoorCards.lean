/-
  DERIVED. GIVEN WITH THE SEED: THE CARDS: each row of YtciadmjdadnolaaGreatDoorRows.lean that lists a variable, with what it lists TIED to the program's text (the seventh form; the later family's looks); each row that meets fmt, with fmt's text TOLD by the authors' own Lean function (tested against real Go, not proved from fmt's source: count such statements apart). THE CARD IS WHAT COUNTS. Prove the row's statement (the work); the ties are given (YtciadmjdadnolaaGreatDoorTie.lean); close each card by the builder's one call (the guide's Derived/Test/ToyasCard.lean, 'card_holds'). Laid BY PROGRAM, IN A SANDBOX (cutbox-door.mjs). By AI agents, Wed Nov 11 2026. No macro, syntax, notation, axiom, sorry.
-/
import Derived.Test.YtciadmjdadnolaaGreatDoorRows
import GoSem.ClaimSeven
namespace Go.Proofs.YtciadmjdadnolaaGreatDoor
namespace Rows

/-- THE TIED CARD OF 'planchetlaw10.MintKept'. -/
def mintKeptCard : Claim7 := { stood := { row := mintKeptRow, standIns := [], harness := (true, "31569f8189163e3047ca6f6dc63a65354fc311c0a1b041685fcee26a89be1f34"), looks := true }, kinds := [], alts := [], laidByText := true, laidKinds := [.data, .data, .data, .data, .sentinel, .sentinel, .pinned], laidTests := true, laidLooks := .later }
def MintKeptCardSaid : Prop := Claim7.holds Tryz.pinned (.plain (OpenSpec.ofChange mintKeptSpec)) mintKeptCard

/-- THE TIED CARD OF 'planchetlaw10.MintEntries'. -/
def mintEntriesCard : Claim7 := { stood := { row := mintEntriesRow, standIns := [], harness := (true, "31569f8189163e3047ca6f6dc63a65354fc311c0a1b041685fcee26a89be1f34"), looks := true }, kinds := [], alts := [], laidByText := true, laidKinds := [.data, .data, .data, .data, .sentinel, .sentinel, .pinned], laidTests := true, laidLooks := .later }
def MintEntriesCardSaid : Prop := Claim7.holds Tryz.pinned (.plain (OpenSpec.ofChange mintEntriesSpec)) mintEntriesCard

/-- THE SECOND FORM's CARD OF 'planchetlaw10.MintKept'. -/
def mintKeptUptoCard : Claim7 := { stood := { row := mintKeptUptoRow, standIns := [], harness := (true, "31569f8189163e3047ca6f6dc63a65354fc311c0a1b041685fcee26a89be1f34"), looks := true }, kinds := [], alts := [], laidByText := true, laidKinds := [.data, .data, .data, .data, .sentinel, .sentinel, .pinned], laidTests := true, laidLooks := .later }
def MintKeptUptoCardSaid : Prop := Claim7.holds Tryz.pinned (.plain (OpenSpec.upto mintKeptSpec)) mintKeptUptoCard

/-- THE SECOND FORM's CARD OF 'planchetlaw10.MintEntries'. -/
def mintEntriesUptoCard : Claim7 := { stood := { row := mintEntriesUptoRow, standIns := [], harness := (true, "31569f8189163e3047ca6f6dc63a65354fc311c0a1b041685fcee26a89be1f34"), looks := true }, kinds := [], alts := [], laidByText := true, laidKinds := [.data, .data, .data, .data, .sentinel, .sentinel, .pinned], laidTests := true, laidLooks := .later }
def MintEntriesUptoCardSaid : Prop := Claim7.holds Tryz.pinned (.plain (OpenSpec.upto mintEntriesSpec)) mintEntriesUptoCard
end Rows
end Go.Proofs.YtciadmjdadnolaaGreatDoor
