/- Texts of the proof, in build order: LaidH. -/
import Derived.Test.YtcpgbekcbaelpaaGreatDoorF21
import Derived.Lay
set_option linter.unusedVariables false
set_option linter.unusedSimpArgs false
set_option linter.unusedSectionVars false
/- What the listed table gives the walks of layer 7; a world that meets the condition. -/
namespace Go.Proofs.YtcpgbekcbaelpaaGreatDoor
open Go.ChangeShapes Go.WideShapes Go.ChangeAt Go.RowKit
set_option linter.unusedVariables false
def laid3 : List (String × DataW Unit) := laid1
theorem door_met (os : Os) (args : Array Value) : laidMetH Tryz.prog laid3 ((World.laidAll Tryz.prog os laid3).forCall (fun _ _ => 0) ⟨#[], args, []⟩).memory := by
  rw [MakeChecks.laidMetH_plain _ _ _ (by kernel_rfl)]
  exact laidMet_laidAll _ (by kernel_rfl) (by kernel_rfl)
theorem of_laid {W : World} (h : laidMetH Tryz.prog laid3 W) : Half W := of_laid_half h
end Go.Proofs.YtcpgbekcbaelpaaGreatDoor
