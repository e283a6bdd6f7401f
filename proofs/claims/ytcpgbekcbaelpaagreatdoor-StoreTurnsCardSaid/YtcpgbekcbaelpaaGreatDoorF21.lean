/- Texts of the proof, in build order: StHalf. -/
import Derived.Test.YtcpgbekcbaelpaaGreatDoorRows
import Derived.Test.YtcpgbekcbaelpaaGreatDoorF14
import Derived.Lib.LaidTab
import Derived.LaidLaws
import Derived.LaidHandle
import Derived.LaidMore
import Derived.MakeChecks
import Derived.Stop.Joined
import Derived.ProofKit
set_option linter.unusedVariables false
set_option linter.unusedSimpArgs false
set_option linter.unusedSectionVars false
/- The listed table of the sums. -/
namespace Go.Proofs.YtcpgbekcbaelpaaGreatDoor
open Go.ChangeShapes Go.WideShapes Go.ChangeAt Go.RowKit
set_option linter.unusedVariables false
def laid1 : List (String × DataW Unit) := [("scriptor/crc.half", Rows.laid_scriptor_crc_half)]
theorem of_laid_half {W : World} (h : laidMetH Tryz.prog laid1 W) : Half W := by
  rw [MakeChecks.laidMetH_plain _ _ _ (by kernel_rfl)] at h
  obtain ⟨ps, ⟨g0, t0, cs0, f0, p0, q0, hg0, ht0, hv0, hd0, _⟩, _⟩ := h
  have hg : Tryz.prog.globalNamed "scriptor/crc.half" = some 0 := by kernel_rfl
  obtain rfl := Option.some.inj (hg.symm.trans hg0)
  have hty : (Tryz.prog.globals[0]?).map (·.type) = some 247 := by kernel_rfl
  obtain rfl := Option.some.inj (hty.symm.trans ht0)
  have hd : Rows.laid_scriptor_crc_half (H := Unit) = Lib.tabData .u32 (St.halfT.map Int.ofNat) := by rfl
  rw [hd] at hd0
  have hc := Lib.cells_of_tab (n := 16) Tryz.underlying247 Tryz.underlying180 (by kernel_rfl) (by kernel_rfl) hd0
  intro i hi
  have := World.var?_cell hg0 hv0 i
  rw [this]
  have e : cs0[i]? = cs0.toList[i]? := by simp
  rw [e, hc]
  have hl : i < St.halfT.length := by show i < 16; exact hi
  rw [List.getElem?_map, List.getElem?_map, List.getElem?_eq_getElem hl]
  simp [List.getD_eq_getElem?_getD, hl]
end Go.Proofs.YtcpgbekcbaelpaaGreatDoor
