/-
  DERIVED. GIVEN WITH THE SEED: THE CARDS: each row of YtjddbglbodkihaaDoorRows.lean that lists a variable, with what it lists TIED to the program's text (the seventh form; the later family's looks); each row that meets fmt, with fmt's text TOLD by the authors' own Lean function (tested against real Go, not proved from fmt's source: count such statements apart). THE CARD IS WHAT COUNTS. Prove the row's statement (the work); the ties are given (YtjddbglbodkihaaDoorTie.lean); close each card by the builder's one call (the guide's Derived/Test/ToyasCard.lean, 'card_holds'). Laid BY PROGRAM, IN A SANDBOX (cutbox-door.mjs). By AI agents, Wed Nov 11 2026. No macro, syntax, notation, axiom, sorry.
-/
import Derived.Test.YtjddbglbodkihaaDoorRows
import GoSem.ClaimSeven
namespace Go.Proofs.YtjddbglbodkihaaDoor
namespace Rows

/-- THE TIED CARD OF 'planchetlaw08.EvadeJoins'. -/
def evadeJoinsCard : Claim7 := { stood := { row := evadeJoinsRow, standIns := [], harness := (true, "7424a74b94e040356124e65ed939b8600d305932213d7c6f740c3070ffadfcd0"), looks := false }, kinds := [], alts := [], laidByText := true, laidKinds := [.data], laidTests := true, laidLooks := .later }
def EvadeJoinsCardSaid : Prop := Claim7.holds Tryd.pinned (.plain (OpenSpec.ofChange evadeJoinsSpec)) evadeJoinsCard

/-- THE TIED CARD OF 'planchetlaw08.EvadeParts'. -/
def evadePartsCard : Claim7 := { stood := { row := evadePartsRow, standIns := [], harness := (true, "7424a74b94e040356124e65ed939b8600d305932213d7c6f740c3070ffadfcd0"), looks := false }, kinds := [], alts := [], laidByText := true, laidKinds := [.data], laidTests := true, laidLooks := .later }
def EvadePartsCardSaid : Prop := Claim7.holds Tryd.pinned (.plain (OpenSpec.ofChange evadePartsSpec)) evadePartsCard

/-- THE TIED CARD OF 'planchetlaw08.EvadeSums'. -/
def evadeSumsCard : Claim7 := { stood := { row := evadeSumsRow, standIns := [], harness := (true, "7424a74b94e040356124e65ed939b8600d305932213d7c6f740c3070ffadfcd0"), looks := false }, kinds := [], alts := [], laidByText := true, laidKinds := [.data], laidTests := true, laidLooks := .later }
def EvadeSumsCardSaid : Prop := Claim7.holds Tryd.pinned (.plain (OpenSpec.ofChange evadeSumsSpec)) evadeSumsCard

/-- THE TIED CARD OF 'planchetlaw08.EvadeDuals'. -/
def evadeDualsCard : Claim7 := { stood := { row := evadeDualsRow, standIns := [], harness := (true, "7424a74b94e040356124e65ed939b8600d305932213d7c6f740c3070ffadfcd0"), looks := false }, kinds := [], alts := [], laidByText := true, laidKinds := [.data], laidTests := true, laidLooks := .later }
def EvadeDualsCardSaid : Prop := Claim7.holds Tryd.pinned (.plain (OpenSpec.ofChange evadeDualsSpec)) evadeDualsCard

/-- THE TIED CARD OF 'planchetlaw08.EvadeEarly'. -/
def evadeEarlyCard : Claim7 := { stood := { row := evadeEarlyRow, standIns := [], harness := (true, "7424a74b94e040356124e65ed939b8600d305932213d7c6f740c3070ffadfcd0"), looks := false }, kinds := [], alts := [], laidByText := true, laidKinds := [.data], laidTests := true, laidLooks := .later }
def EvadeEarlyCardSaid : Prop := Claim7.holds Tryd.pinned (.plain (OpenSpec.ofChange evadeEarlySpec)) evadeEarlyCard

/-- THE TIED CARD OF 'planchetlaw08.EvadeProperties'. -/
def evadePropertiesCard : Claim7 := { stood := { row := evadePropertiesRow, standIns := [], harness := (true, "7424a74b94e040356124e65ed939b8600d305932213d7c6f740c3070ffadfcd0"), looks := false }, kinds := [], alts := [], laidByText := true, laidKinds := [.data], laidTests := true, laidLooks := .later }
def EvadePropertiesCardSaid : Prop := Claim7.holds Tryd.pinned (.plain (OpenSpec.ofChange evadePropertiesSpec)) evadePropertiesCard

/-- THE TIED CARD OF 'planchetlaw08.EvadeProducts'. -/
def evadeProductsCard : Claim7 := { stood := { row := evadeProductsRow, standIns := [], harness := (true, "7424a74b94e040356124e65ed939b8600d305932213d7c6f740c3070ffadfcd0"), looks := false }, kinds := [], alts := [], laidByText := true, laidKinds := [.data], laidTests := true, laidLooks := .later }
def EvadeProductsCardSaid : Prop := Claim7.holds Tryd.pinned (.plain (OpenSpec.ofChange evadeProductsSpec)) evadeProductsCard

/-- THE TIED CARD OF 'planchetlaw08.EvadeFolds'. -/
def evadeFoldsCard : Claim7 := { stood := { row := evadeFoldsRow, standIns := [], harness := (true, "7424a74b94e040356124e65ed939b8600d305932213d7c6f740c3070ffadfcd0"), looks := false }, kinds := [], alts := [], laidByText := true, laidKinds := [.data], laidTests := true, laidLooks := .later }
def EvadeFoldsCardSaid : Prop := Claim7.holds Tryd.pinned (.plain (OpenSpec.ofChange evadeFoldsSpec)) evadeFoldsCard

/-- THE TIED CARD OF 'planchetlaw08.EvadeAway'. -/
def evadeAwayCard : Claim7 := { stood := { row := evadeAwayRow, standIns := [], harness := (true, "7424a74b94e040356124e65ed939b8600d305932213d7c6f740c3070ffadfcd0"), looks := false }, kinds := [], alts := [], laidByText := true, laidKinds := [.data], laidTests := true, laidLooks := .later }
def EvadeAwayCardSaid : Prop := Claim7.holds Tryd.pinned (.plain (OpenSpec.ofChange evadeAwaySpec)) evadeAwayCard

/-- THE TIED CARD OF 'planchetlaw08.EvadeGraphs'. -/
def evadeGraphsCard : Claim7 := { stood := { row := evadeGraphsRow, standIns := [], harness := (true, "7424a74b94e040356124e65ed939b8600d305932213d7c6f740c3070ffadfcd0"), looks := false }, kinds := [], alts := [], laidByText := true, laidKinds := [.data], laidTests := true, laidLooks := .later }
def EvadeGraphsCardSaid : Prop := Claim7.holds Tryd.pinned (.plain (OpenSpec.ofChange evadeGraphsSpec)) evadeGraphsCard

/-- THE TIED CARD OF 'planchetlaw08.EvadeSettles'. -/
def evadeSettlesCard : Claim7 := { stood := { row := evadeSettlesRow, standIns := [], harness := (true, "7424a74b94e040356124e65ed939b8600d305932213d7c6f740c3070ffadfcd0"), looks := false }, kinds := [], alts := [], laidByText := true, laidKinds := [.data], laidTests := true, laidLooks := .later }
def EvadeSettlesCardSaid : Prop := Claim7.holds Tryd.pinned (.plain (OpenSpec.ofChange evadeSettlesSpec)) evadeSettlesCard

/-- THE TIED CARD OF 'planchetlaw08.EvadeSplits'. -/
def evadeSplitsCard : Claim7 := { stood := { row := evadeSplitsRow, standIns := [], harness := (true, "7424a74b94e040356124e65ed939b8600d305932213d7c6f740c3070ffadfcd0"), looks := false }, kinds := [], alts := [], laidByText := true, laidKinds := [.data], laidTests := true, laidLooks := .later }
def EvadeSplitsCardSaid : Prop := Claim7.holds Tryd.pinned (.plain (OpenSpec.ofChange evadeSplitsSpec)) evadeSplitsCard

/-- THE SECOND FORM's CARD OF 'planchetlaw08.EvadeJoins'. -/
def evadeJoinsUptoCard : Claim7 := { stood := { row := evadeJoinsUptoRow, standIns := [], harness := (true, "7424a74b94e040356124e65ed939b8600d305932213d7c6f740c3070ffadfcd0"), looks := false }, kinds := [], alts := [], laidByText := true, laidKinds := [.data], laidTests := true, laidLooks := .later }
def EvadeJoinsUptoCardSaid : Prop := Claim7.holds Tryd.pinned (.plain (OpenSpec.upto evadeJoinsSpec)) evadeJoinsUptoCard

/-- THE SECOND FORM's CARD OF 'planchetlaw08.EvadeParts'. -/
def evadePartsUptoCard : Claim7 := { stood := { row := evadePartsUptoRow, standIns := [], harness := (true, "7424a74b94e040356124e65ed939b8600d305932213d7c6f740c3070ffadfcd0"), looks := false }, kinds := [], alts := [], laidByText := true, laidKinds := [.data], laidTests := true, laidLooks := .later }
def EvadePartsUptoCardSaid : Prop := Claim7.holds Tryd.pinned (.plain (OpenSpec.upto evadePartsSpec)) evadePartsUptoCard

/-- THE SECOND FORM's CARD OF 'planchetlaw08.EvadeSums'. -/
def evadeSumsUptoCard : Claim7 := { stood := { row := evadeSumsUptoRow, standIns := [], harness := (true, "7424a74b94e040356124e65ed939b8600d305932213d7c6f740c3070ffadfcd0"), looks := false }, kinds := [], alts := [], laidByText := true, laidKinds := [.data], laidTests := true, laidLooks := .later }
def EvadeSumsUptoCardSaid : Prop := Claim7.holds Tryd.pinned (.plain (OpenSpec.upto evadeSumsSpec)) evadeSumsUptoCard

/-- THE SECOND FORM's CARD OF 'planchetlaw08.EvadeDuals'. -/
def evadeDualsUptoCard : Claim7 := { stood := { row := evadeDualsUptoRow, standIns := [], harness := (true, "7424a74b94e040356124e65ed939b8600d305932213d7c6f740c3070ffadfcd0"), looks := false }, kinds := [], alts := [], laidByText := true, laidKinds := [.data], laidTests := true, laidLooks := .later }
def EvadeDualsUptoCardSaid : Prop := Claim7.holds Tryd.pinned (.plain (OpenSpec.upto evadeDualsSpec)) evadeDualsUptoCard

/-- THE SECOND FORM's CARD OF 'planchetlaw08.EvadeEarly'. -/
def evadeEarlyUptoCard : Claim7 := { stood := { row := evadeEarlyUptoRow, standIns := [], harness := (true, "7424a74b94e040356124e65ed939b8600d305932213d7c6f740c3070ffadfcd0"), looks := false }, kinds := [], alts := [], laidByText := true, laidKinds := [.data], laidTests := true, laidLooks := .later }
def EvadeEarlyUptoCardSaid : Prop := Claim7.holds Tryd.pinned (.plain (OpenSpec.upto evadeEarlySpec)) evadeEarlyUptoCard

/-- THE SECOND FORM's CARD OF 'planchetlaw08.EvadeProperties'. -/
def evadePropertiesUptoCard : Claim7 := { stood := { row := evadePropertiesUptoRow, standIns := [], harness := (true, "7424a74b94e040356124e65ed939b8600d305932213d7c6f740c3070ffadfcd0"), looks := false }, kinds := [], alts := [], laidByText := true, laidKinds := [.data], laidTests := true, laidLooks := .later }
def EvadePropertiesUptoCardSaid : Prop := Claim7.holds Tryd.pinned (.plain (OpenSpec.upto evadePropertiesSpec)) evadePropertiesUptoCard

/-- THE SECOND FORM's CARD OF 'planchetlaw08.EvadeProducts'. -/
def evadeProductsUptoCard : Claim7 := { stood := { row := evadeProductsUptoRow, standIns := [], harness := (true, "7424a74b94e040356124e65ed939b8600d305932213d7c6f740c3070ffadfcd0"), looks := false }, kinds := [], alts := [], laidByText := true, laidKinds := [.data], laidTests := true, laidLooks := .later }
def EvadeProductsUptoCardSaid : Prop := Claim7.holds Tryd.pinned (.plain (OpenSpec.upto evadeProductsSpec)) evadeProductsUptoCard

/-- THE SECOND FORM's CARD OF 'planchetlaw08.EvadeFolds'. -/
def evadeFoldsUptoCard : Claim7 := { stood := { row := evadeFoldsUptoRow, standIns := [], harness := (true, "7424a74b94e040356124e65ed939b8600d305932213d7c6f740c3070ffadfcd0"), looks := false }, kinds := [], alts := [], laidByText := true, laidKinds := [.data], laidTests := true, laidLooks := .later }
def EvadeFoldsUptoCardSaid : Prop := Claim7.holds Tryd.pinned (.plain (OpenSpec.upto evadeFoldsSpec)) evadeFoldsUptoCard

/-- THE SECOND FORM's CARD OF 'planchetlaw08.EvadeAway'. -/
def evadeAwayUptoCard : Claim7 := { stood := { row := evadeAwayUptoRow, standIns := [], harness := (true, "7424a74b94e040356124e65ed939b8600d305932213d7c6f740c3070ffadfcd0"), looks := false }, kinds := [], alts := [], laidByText := true, laidKinds := [.data], laidTests := true, laidLooks := .later }
def EvadeAwayUptoCardSaid : Prop := Claim7.holds Tryd.pinned (.plain (OpenSpec.upto evadeAwaySpec)) evadeAwayUptoCard

/-- THE SECOND FORM's CARD OF 'planchetlaw08.EvadeGraphs'. -/
def evadeGraphsUptoCard : Claim7 := { stood := { row := evadeGraphsUptoRow, standIns := [], harness := (true, "7424a74b94e040356124e65ed939b8600d305932213d7c6f740c3070ffadfcd0"), looks := false }, kinds := [], alts := [], laidByText := true, laidKinds := [.data], laidTests := true, laidLooks := .later }
def EvadeGraphsUptoCardSaid : Prop := Claim7.holds Tryd.pinned (.plain (OpenSpec.upto evadeGraphsSpec)) evadeGraphsUptoCard

/-- THE SECOND FORM's CARD OF 'planchetlaw08.EvadeSettles'. -/
def evadeSettlesUptoCard : Claim7 := { stood := { row := evadeSettlesUptoRow, standIns := [], harness := (true, "7424a74b94e040356124e65ed939b8600d305932213d7c6f740c3070ffadfcd0"), looks := false }, kinds := [], alts := [], laidByText := true, laidKinds := [.data], laidTests := true, laidLooks := .later }
def EvadeSettlesUptoCardSaid : Prop := Claim7.holds Tryd.pinned (.plain (OpenSpec.upto evadeSettlesSpec)) evadeSettlesUptoCard

/-- THE SECOND FORM's CARD OF 'planchetlaw08.EvadeSplits'. -/
def evadeSplitsUptoCard : Claim7 := { stood := { row := evadeSplitsUptoRow, standIns := [], harness := (true, "7424a74b94e040356124e65ed939b8600d305932213d7c6f740c3070ffadfcd0"), looks := false }, kinds := [], alts := [], laidByText := true, laidKinds := [.data], laidTests := true, laidLooks := .later }
def EvadeSplitsUptoCardSaid : Prop := Claim7.holds Tryd.pinned (.plain (OpenSpec.upto evadeSplitsSpec)) evadeSplitsUptoCard
end Rows
end Go.Proofs.YtjddbglbodkihaaDoor
