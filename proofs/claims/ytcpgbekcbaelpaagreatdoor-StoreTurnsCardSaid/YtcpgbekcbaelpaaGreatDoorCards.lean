/-
  DERIVED. GIVEN WITH THE SEED: THE CARDS: each row of YtcpgbekcbaelpaaGreatDoorRows.lean that lists a variable, with what it lists TIED to the program's text (the seventh form; the later family's looks); each row that meets fmt, with fmt's text TOLD by the authors' own Lean function (tested against real Go, not proved from fmt's source: count such statements apart). THE CARD IS WHAT COUNTS. Prove the row's statement (the work); the ties are given (YtcpgbekcbaelpaaGreatDoorTie.lean); close each card by the builder's one call (the guide's Derived/Test/ToyasCard.lean, 'card_holds'). Laid BY PROGRAM, IN A SANDBOX (cutbox-door.mjs). By AI agents, Wed Nov 11 2026. No macro, syntax, notation, axiom, sorry.
-/
import Derived.Test.YtcpgbekcbaelpaaGreatDoorRows
import GoSem.ClaimSeven
namespace Go.Proofs.YtcpgbekcbaelpaaGreatDoor
namespace Rows

/-- THE TIED CARD OF 'scriptorlaw07.StoreNexts'. -/
def storeNextsCard : Claim7 := { stood := { row := storeNextsRow, standIns := [], harness := (true, "567a7312393d5425a798cd3a7b726905a8cce5609b51db1a2795a2a30ecbdb00"), looks := true }, kinds := [], alts := [], laidByText := true, laidKinds := [.data], laidTests := true, laidLooks := .later }
def StoreNextsCardSaid : Prop := Claim7.holds Tryz.pinned (.plain (OpenSpec.ofChange storeNextsSpec)) storeNextsCard

/-- THE TIED CARD OF 'scriptorlaw07.StoreFills'. -/
def storeFillsCard : Claim7 := { stood := { row := storeFillsRow, standIns := [], harness := (true, "567a7312393d5425a798cd3a7b726905a8cce5609b51db1a2795a2a30ecbdb00"), looks := true }, kinds := [], alts := [], laidByText := true, laidKinds := [.data], laidTests := true, laidLooks := .later }
def StoreFillsCardSaid : Prop := Claim7.holds Tryz.pinned (.plain (OpenSpec.ofChange storeFillsSpec)) storeFillsCard

/-- THE TIED CARD OF 'scriptorlaw07.StorePlaces'. -/
def storePlacesCard : Claim7 := { stood := { row := storePlacesRow, standIns := [], harness := (true, "567a7312393d5425a798cd3a7b726905a8cce5609b51db1a2795a2a30ecbdb00"), looks := true }, kinds := [], alts := [], laidByText := true, laidKinds := [.data], laidTests := true, laidLooks := .later }
def StorePlacesCardSaid : Prop := Claim7.holds Tryz.pinned (.plain (OpenSpec.ofChange storePlacesSpec)) storePlacesCard

/-- THE TIED CARD OF 'scriptorlaw07.StoreTurns'. -/
def storeTurnsCard : Claim7 := { stood := { row := storeTurnsRow, standIns := [], harness := (true, "567a7312393d5425a798cd3a7b726905a8cce5609b51db1a2795a2a30ecbdb00"), looks := true }, kinds := [], alts := [], laidByText := true, laidKinds := [.data], laidTests := true, laidLooks := .later }
def StoreTurnsCardSaid : Prop := Claim7.holds Tryz.pinned (.plain (OpenSpec.ofChange storeTurnsSpec)) storeTurnsCard

/-- THE TIED CARD OF 'scriptorlaw08.GraphStores'. -/
def graphStoresCard : Claim7 := { stood := { row := graphStoresRow, standIns := [], harness := (true, "567a7312393d5425a798cd3a7b726905a8cce5609b51db1a2795a2a30ecbdb00"), looks := true }, kinds := [], alts := [], laidByText := true, laidKinds := [.data, .data, .data, .data], laidTests := true, laidLooks := .later }
def GraphStoresCardSaid : Prop := Claim7.holds Tryz.pinned (.plain (OpenSpec.ofChange graphStoresSpec)) graphStoresCard

/-- THE TIED CARD OF 'scriptortop.ScriptorBatches'. -/
def scriptorBatchesCard : Claim7 := { stood := { row := scriptorBatchesRow, standIns := [], harness := (true, "567a7312393d5425a798cd3a7b726905a8cce5609b51db1a2795a2a30ecbdb00"), looks := true }, kinds := [], alts := [], laidByText := true, laidKinds := [.data], laidTests := true, laidLooks := .later }
def ScriptorBatchesCardSaid : Prop := Claim7.holds Tryz.pinned (.plain (OpenSpec.ofChange scriptorBatchesSpec)) scriptorBatchesCard

/-- THE SECOND FORM's CARD OF 'scriptorlaw07.StoreNexts'. -/
def storeNextsUptoCard : Claim7 := { stood := { row := storeNextsUptoRow, standIns := [], harness := (true, "567a7312393d5425a798cd3a7b726905a8cce5609b51db1a2795a2a30ecbdb00"), looks := true }, kinds := [], alts := [], laidByText := true, laidKinds := [.data], laidTests := true, laidLooks := .later }
def StoreNextsUptoCardSaid : Prop := Claim7.holds Tryz.pinned (.plain (OpenSpec.upto storeNextsSpec)) storeNextsUptoCard

/-- THE SECOND FORM's CARD OF 'scriptorlaw07.StoreFills'. -/
def storeFillsUptoCard : Claim7 := { stood := { row := storeFillsUptoRow, standIns := [], harness := (true, "567a7312393d5425a798cd3a7b726905a8cce5609b51db1a2795a2a30ecbdb00"), looks := true }, kinds := [], alts := [], laidByText := true, laidKinds := [.data], laidTests := true, laidLooks := .later }
def StoreFillsUptoCardSaid : Prop := Claim7.holds Tryz.pinned (.plain (OpenSpec.upto storeFillsSpec)) storeFillsUptoCard

/-- THE SECOND FORM's CARD OF 'scriptorlaw07.StorePlaces'. -/
def storePlacesUptoCard : Claim7 := { stood := { row := storePlacesUptoRow, standIns := [], harness := (true, "567a7312393d5425a798cd3a7b726905a8cce5609b51db1a2795a2a30ecbdb00"), looks := true }, kinds := [], alts := [], laidByText := true, laidKinds := [.data], laidTests := true, laidLooks := .later }
def StorePlacesUptoCardSaid : Prop := Claim7.holds Tryz.pinned (.plain (OpenSpec.upto storePlacesSpec)) storePlacesUptoCard

/-- THE SECOND FORM's CARD OF 'scriptorlaw07.StoreTurns'. -/
def storeTurnsUptoCard : Claim7 := { stood := { row := storeTurnsUptoRow, standIns := [], harness := (true, "567a7312393d5425a798cd3a7b726905a8cce5609b51db1a2795a2a30ecbdb00"), looks := true }, kinds := [], alts := [], laidByText := true, laidKinds := [.data], laidTests := true, laidLooks := .later }
def StoreTurnsUptoCardSaid : Prop := Claim7.holds Tryz.pinned (.plain (OpenSpec.upto storeTurnsSpec)) storeTurnsUptoCard

/-- THE SECOND FORM's CARD OF 'scriptorlaw08.GraphStores'. -/
def graphStoresUptoCard : Claim7 := { stood := { row := graphStoresUptoRow, standIns := [], harness := (true, "567a7312393d5425a798cd3a7b726905a8cce5609b51db1a2795a2a30ecbdb00"), looks := true }, kinds := [], alts := [], laidByText := true, laidKinds := [.data, .data, .data, .data], laidTests := true, laidLooks := .later }
def GraphStoresUptoCardSaid : Prop := Claim7.holds Tryz.pinned (.plain (OpenSpec.upto graphStoresSpec)) graphStoresUptoCard

/-- THE SECOND FORM's CARD OF 'scriptortop.ScriptorBatches'. -/
def scriptorBatchesUptoCard : Claim7 := { stood := { row := scriptorBatchesUptoRow, standIns := [], harness := (true, "567a7312393d5425a798cd3a7b726905a8cce5609b51db1a2795a2a30ecbdb00"), looks := true }, kinds := [], alts := [], laidByText := true, laidKinds := [.data], laidTests := true, laidLooks := .later }
def ScriptorBatchesUptoCardSaid : Prop := Claim7.holds Tryz.pinned (.plain (OpenSpec.upto scriptorBatchesSpec)) scriptorBatchesUptoCard
end Rows
end Go.Proofs.YtcpgbekcbaelpaaGreatDoor
