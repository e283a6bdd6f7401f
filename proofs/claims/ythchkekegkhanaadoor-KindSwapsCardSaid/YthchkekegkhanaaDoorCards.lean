/-
  DERIVED. GIVEN WITH THE SEED: THE CARDS: each row of YthchkekegkhanaaDoorRows.lean that lists a variable, with what it lists TIED to the program's text (the seventh form; the later family's looks); each row that meets fmt, with fmt's text TOLD by the authors' own Lean function (tested against real Go, not proved from fmt's source: count such statements apart). THE CARD IS WHAT COUNTS. Prove the row's statement (the work); the ties are given (YthchkekegkhanaaDoorTie.lean); close each card by the builder's one call (the guide's Derived/Test/ToyasCard.lean, 'card_holds'). Laid BY PROGRAM, IN A SANDBOX (cutbox-door.mjs). By AI agents, Wed Nov 11 2026. No macro, syntax, notation, axiom, sorry.
-/
import Derived.Test.YthchkekegkhanaaDoorRows
import GoSem.ClaimSeven
namespace Go.Proofs.YthchkekegkhanaaDoor
namespace Rows

/-- THE TIED CARD OF 'scriptorlaw12.KindUnifies'. -/
def kindUnifiesCard : Claim7 := { stood := { row := kindUnifiesRow, standIns := [], harness := (true, "45d264b9f4c676a6f65809bab484c4bcd3d64234decec86e38fce26fb3e6216f"), looks := false }, kinds := [], alts := [], laidByText := true, laidKinds := [.data, .data, .data], laidTests := true, laidLooks := .later }
def KindUnifiesCardSaid : Prop := Claim7.holds Tryd.pinned (.plain (OpenSpec.ofChange kindUnifiesSpec)) kindUnifiesCard

/-- THE TIED CARD OF 'scriptorlaw12.KindFresh'. -/
def kindFreshCard : Claim7 := { stood := { row := kindFreshRow, standIns := [], harness := (true, "45d264b9f4c676a6f65809bab484c4bcd3d64234decec86e38fce26fb3e6216f"), looks := false }, kinds := [], alts := [], laidByText := true, laidKinds := [.data, .data, .data], laidTests := true, laidLooks := .later }
def KindFreshCardSaid : Prop := Claim7.holds Tryd.pinned (.plain (OpenSpec.ofChange kindFreshSpec)) kindFreshCard

/-- THE TIED CARD OF 'scriptorlaw12.KindBig'. -/
def kindBigCard : Claim7 := { stood := { row := kindBigRow, standIns := [], harness := (true, "45d264b9f4c676a6f65809bab484c4bcd3d64234decec86e38fce26fb3e6216f"), looks := false }, kinds := [], alts := [], laidByText := true, laidKinds := [.data, .data, .data], laidTests := true, laidLooks := .later }
def KindBigCardSaid : Prop := Claim7.holds Tryd.pinned (.plain (OpenSpec.ofChange kindBigSpec)) kindBigCard

/-- THE TIED CARD OF 'scriptorlaw12.KindOrders'. -/
def kindOrdersCard : Claim7 := { stood := { row := kindOrdersRow, standIns := [], harness := (true, "45d264b9f4c676a6f65809bab484c4bcd3d64234decec86e38fce26fb3e6216f"), looks := false }, kinds := [], alts := [], laidByText := true, laidKinds := [.data, .data, .data], laidTests := true, laidLooks := .later }
def KindOrdersCardSaid : Prop := Claim7.holds Tryd.pinned (.plain (OpenSpec.ofChange kindOrdersSpec)) kindOrdersCard

/-- THE TIED CARD OF 'scriptorlaw12.KindSwaps'. -/
def kindSwapsCard : Claim7 := { stood := { row := kindSwapsRow, standIns := [], harness := (true, "45d264b9f4c676a6f65809bab484c4bcd3d64234decec86e38fce26fb3e6216f"), looks := false }, kinds := [], alts := [], laidByText := true, laidKinds := [.data, .data, .data], laidTests := true, laidLooks := .later }
def KindSwapsCardSaid : Prop := Claim7.holds Tryd.pinned (.plain (OpenSpec.ofChange kindSwapsSpec)) kindSwapsCard

/-- THE TIED CARD OF 'scriptorlaw12.KindRenames'. -/
def kindRenamesCard : Claim7 := { stood := { row := kindRenamesRow, standIns := [], harness := (true, "45d264b9f4c676a6f65809bab484c4bcd3d64234decec86e38fce26fb3e6216f"), looks := false }, kinds := [], alts := [], laidByText := true, laidKinds := [.data, .data, .data], laidTests := true, laidLooks := .later }
def KindRenamesCardSaid : Prop := Claim7.holds Tryd.pinned (.plain (OpenSpec.ofChange kindRenamesSpec)) kindRenamesCard

/-- THE SECOND FORM's CARD OF 'scriptorlaw12.KindUnifies'. -/
def kindUnifiesUptoCard : Claim7 := { stood := { row := kindUnifiesUptoRow, standIns := [], harness := (true, "45d264b9f4c676a6f65809bab484c4bcd3d64234decec86e38fce26fb3e6216f"), looks := false }, kinds := [], alts := [], laidByText := true, laidKinds := [.data, .data, .data], laidTests := true, laidLooks := .later }
def KindUnifiesUptoCardSaid : Prop := Claim7.holds Tryd.pinned (.plain (OpenSpec.upto kindUnifiesSpec)) kindUnifiesUptoCard

/-- THE SECOND FORM's CARD OF 'scriptorlaw12.KindFresh'. -/
def kindFreshUptoCard : Claim7 := { stood := { row := kindFreshUptoRow, standIns := [], harness := (true, "45d264b9f4c676a6f65809bab484c4bcd3d64234decec86e38fce26fb3e6216f"), looks := false }, kinds := [], alts := [], laidByText := true, laidKinds := [.data, .data, .data], laidTests := true, laidLooks := .later }
def KindFreshUptoCardSaid : Prop := Claim7.holds Tryd.pinned (.plain (OpenSpec.upto kindFreshSpec)) kindFreshUptoCard

/-- THE SECOND FORM's CARD OF 'scriptorlaw12.KindBig'. -/
def kindBigUptoCard : Claim7 := { stood := { row := kindBigUptoRow, standIns := [], harness := (true, "45d264b9f4c676a6f65809bab484c4bcd3d64234decec86e38fce26fb3e6216f"), looks := false }, kinds := [], alts := [], laidByText := true, laidKinds := [.data, .data, .data], laidTests := true, laidLooks := .later }
def KindBigUptoCardSaid : Prop := Claim7.holds Tryd.pinned (.plain (OpenSpec.upto kindBigSpec)) kindBigUptoCard

/-- THE SECOND FORM's CARD OF 'scriptorlaw12.KindOrders'. -/
def kindOrdersUptoCard : Claim7 := { stood := { row := kindOrdersUptoRow, standIns := [], harness := (true, "45d264b9f4c676a6f65809bab484c4bcd3d64234decec86e38fce26fb3e6216f"), looks := false }, kinds := [], alts := [], laidByText := true, laidKinds := [.data, .data, .data], laidTests := true, laidLooks := .later }
def KindOrdersUptoCardSaid : Prop := Claim7.holds Tryd.pinned (.plain (OpenSpec.upto kindOrdersSpec)) kindOrdersUptoCard

/-- THE SECOND FORM's CARD OF 'scriptorlaw12.KindSwaps'. -/
def kindSwapsUptoCard : Claim7 := { stood := { row := kindSwapsUptoRow, standIns := [], harness := (true, "45d264b9f4c676a6f65809bab484c4bcd3d64234decec86e38fce26fb3e6216f"), looks := false }, kinds := [], alts := [], laidByText := true, laidKinds := [.data, .data, .data], laidTests := true, laidLooks := .later }
def KindSwapsUptoCardSaid : Prop := Claim7.holds Tryd.pinned (.plain (OpenSpec.upto kindSwapsSpec)) kindSwapsUptoCard

/-- THE SECOND FORM's CARD OF 'scriptorlaw12.KindRenames'. -/
def kindRenamesUptoCard : Claim7 := { stood := { row := kindRenamesUptoRow, standIns := [], harness := (true, "45d264b9f4c676a6f65809bab484c4bcd3d64234decec86e38fce26fb3e6216f"), looks := false }, kinds := [], alts := [], laidByText := true, laidKinds := [.data, .data, .data], laidTests := true, laidLooks := .later }
def KindRenamesUptoCardSaid : Prop := Claim7.holds Tryd.pinned (.plain (OpenSpec.upto kindRenamesSpec)) kindRenamesUptoCard
end Rows
end Go.Proofs.YthchkekegkhanaaDoor
