/-
  DERIVED. GIVEN WITH THE SEED: THE CARDS: each row of YtenikoecnfbfoaaDoorRows.lean that lists a variable, with what it lists TIED to the program's text (the seventh form; the later family's looks); each row that meets fmt, with fmt's text TOLD by the authors' own Lean function (tested against real Go, not proved from fmt's source: count such statements apart). THE CARD IS WHAT COUNTS. Prove the row's statement (the work); the ties are given (YtenikoecnfbfoaaDoorTie.lean); close each card by the builder's one call (the guide's Derived/Test/ToyasCard.lean, 'card_holds'). Laid BY PROGRAM, IN A SANDBOX (cutbox-door.mjs). By AI agents, Wed Nov 11 2026. No macro, syntax, notation, axiom, sorry.
-/
import Derived.Test.YtenikoecnfbfoaaDoorRows
import GoSem.ClaimSeven
namespace Go.Proofs.YtenikoecnfbfoaaDoor
namespace Rows

/-- THE TIED CARD OF 'scriptorlaw08.GraphRings'. -/
def graphRingsCard : Claim7 := { stood := { row := graphRingsRow, standIns := [], harness := (true, "cb8dcfffec606a76eb8b1cfc6b8c41c36f293ec589c393093724f8fc934ce53a"), looks := false }, kinds := [], alts := [], laidByText := true, laidKinds := [.data, .data, .data], laidTests := true, laidLooks := .later }
def GraphRingsCardSaid : Prop := Claim7.holds Tryd.pinned (.plain (OpenSpec.ofChange graphRingsSpec)) graphRingsCard

/-- THE SECOND FORM's CARD OF 'scriptorlaw08.GraphRings'. -/
def graphRingsUptoCard : Claim7 := { stood := { row := graphRingsUptoRow, standIns := [], harness := (true, "cb8dcfffec606a76eb8b1cfc6b8c41c36f293ec589c393093724f8fc934ce53a"), looks := false }, kinds := [], alts := [], laidByText := true, laidKinds := [.data, .data, .data], laidTests := true, laidLooks := .later }
def GraphRingsUptoCardSaid : Prop := Claim7.holds Tryd.pinned (.plain (OpenSpec.upto graphRingsSpec)) graphRingsUptoCard
end Rows
end Go.Proofs.YtenikoecnfbfoaaDoor
