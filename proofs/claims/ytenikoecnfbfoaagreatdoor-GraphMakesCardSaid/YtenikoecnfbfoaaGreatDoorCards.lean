/-
  DERIVED. GIVEN WITH THE SEED: THE CARDS: each row of YtenikoecnfbfoaaGreatDoorRows.lean that lists a variable, with what it lists TIED to the program's text (the seventh form; the later family's looks); each row that meets fmt, with fmt's text TOLD by the authors' own Lean function (tested against real Go, not proved from fmt's source: count such statements apart). THE CARD IS WHAT COUNTS. Prove the row's statement (the work); the ties are given (YtenikoecnfbfoaaGreatDoorTie.lean); close each card by the builder's one call (the guide's Derived/Test/ToyasCard.lean, 'card_holds'). Laid BY PROGRAM, IN A SANDBOX (cutbox-door.mjs). By AI agents, Wed Nov 11 2026. No macro, syntax, notation, axiom, sorry.
-/
import Derived.Test.YtenikoecnfbfoaaGreatDoorRows
import GoSem.ClaimSeven
namespace Go.Proofs.YtenikoecnfbfoaaGreatDoor
namespace Rows

/-- THE TIED CARD OF 'scriptorlaw08.GraphMakes'. -/
def graphMakesCard : Claim7 := { stood := { row := graphMakesRow, standIns := [], harness := (true, "34b3c2e6953111e7f57ef9790fa9be4c0c56e9226121520f79fd30fc6bf426ee"), looks := false }, kinds := [], alts := [], laidByText := true, laidKinds := [.data, .data, .data], laidTests := true, laidLooks := .later }
def GraphMakesCardSaid : Prop := Claim7.holds Tryz.pinned (.plain (OpenSpec.ofChange graphMakesSpec)) graphMakesCard

/-- THE TIED CARD OF 'scriptorlaw08.GraphSames'. -/
def graphSamesCard : Claim7 := { stood := { row := graphSamesRow, standIns := [], harness := (true, "34b3c2e6953111e7f57ef9790fa9be4c0c56e9226121520f79fd30fc6bf426ee"), looks := false }, kinds := [], alts := [], laidByText := true, laidKinds := [.data, .data, .data], laidTests := true, laidLooks := .later }
def GraphSamesCardSaid : Prop := Claim7.holds Tryz.pinned (.plain (OpenSpec.ofChange graphSamesSpec)) graphSamesCard

/-- THE TIED CARD OF 'scriptorlaw08.GraphDirs'. -/
def graphDirsCard : Claim7 := { stood := { row := graphDirsRow, standIns := [], harness := (true, "34b3c2e6953111e7f57ef9790fa9be4c0c56e9226121520f79fd30fc6bf426ee"), looks := false }, kinds := [], alts := [], laidByText := true, laidKinds := [.data, .data, .data], laidTests := true, laidLooks := .later }
def GraphDirsCardSaid : Prop := Claim7.holds Tryz.pinned (.plain (OpenSpec.ofChange graphDirsSpec)) graphDirsCard

/-- THE SECOND FORM's CARD OF 'scriptorlaw08.GraphMakes'. -/
def graphMakesUptoCard : Claim7 := { stood := { row := graphMakesUptoRow, standIns := [], harness := (true, "34b3c2e6953111e7f57ef9790fa9be4c0c56e9226121520f79fd30fc6bf426ee"), looks := false }, kinds := [], alts := [], laidByText := true, laidKinds := [.data, .data, .data], laidTests := true, laidLooks := .later }
def GraphMakesUptoCardSaid : Prop := Claim7.holds Tryz.pinned (.plain (OpenSpec.upto graphMakesSpec)) graphMakesUptoCard

/-- THE SECOND FORM's CARD OF 'scriptorlaw08.GraphSames'. -/
def graphSamesUptoCard : Claim7 := { stood := { row := graphSamesUptoRow, standIns := [], harness := (true, "34b3c2e6953111e7f57ef9790fa9be4c0c56e9226121520f79fd30fc6bf426ee"), looks := false }, kinds := [], alts := [], laidByText := true, laidKinds := [.data, .data, .data], laidTests := true, laidLooks := .later }
def GraphSamesUptoCardSaid : Prop := Claim7.holds Tryz.pinned (.plain (OpenSpec.upto graphSamesSpec)) graphSamesUptoCard

/-- THE SECOND FORM's CARD OF 'scriptorlaw08.GraphDirs'. -/
def graphDirsUptoCard : Claim7 := { stood := { row := graphDirsUptoRow, standIns := [], harness := (true, "34b3c2e6953111e7f57ef9790fa9be4c0c56e9226121520f79fd30fc6bf426ee"), looks := false }, kinds := [], alts := [], laidByText := true, laidKinds := [.data, .data, .data], laidTests := true, laidLooks := .later }
def GraphDirsUptoCardSaid : Prop := Claim7.holds Tryz.pinned (.plain (OpenSpec.upto graphDirsSpec)) graphDirsUptoCard
end Rows
end Go.Proofs.YtenikoecnfbfoaaGreatDoor
