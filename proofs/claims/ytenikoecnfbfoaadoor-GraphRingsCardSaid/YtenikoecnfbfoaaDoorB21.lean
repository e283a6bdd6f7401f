/- Texts of the proof, in build order: Laid. -/
import Derived.Test.YtenikoecnfbfoaaDoorRows
import Derived.Test.YtenikoecnfbfoaaDoorB18
import Derived.Lib.LaidTab
import Derived.LaidLaws
import Derived.LaidHandle
import Derived.LaidMore
import Derived.MakeChecks
import Derived.Stop.Joined
import Derived.ProofKit
/- What the listed tables give a walk; a world that meets the condition. -/
namespace Go.Proofs.YtenikoecnfbfoaaDoor
open Go.ChangeShapes Go.WideShapes Go.ChangeAt Go.RowKit
set_option linter.unusedVariables false

def laid3 : List (String × DataW Unit) := [("math/bits.deBruijn32tab", Rows.laid_math_bits_deBruijn32tab), ("math/bits.deBruijn64tab", Rows.laid_math_bits_deBruijn64tab), ("internal/strconv.uint64pow10", Rows.laid_internal_strconv_uint64pow10)]
theorem door_met (os : Os) (args : Array Value) : laidMetH Tryd.prog laid3 ((World.doorLaid Tryd.prog 400 os).forCall (fun _ _ => 0) ⟨#[], args, []⟩).memory :=
  laidMetH_of_parts3 (fuel := 8) (laidMet_of_run' 8 (by kernel_rfl) (by kernel_rfl)) (by kernel_rfl) (by kernel_rfl)
theorem of_laid {W : World} (h : laidMetH Tryd.prog laid3 W) : Tab W := by
  rw [MakeChecks.laidMetH_plain _ _ _ (by kernel_rfl)] at h
  obtain ⟨ps, ⟨g0, t0, cs0, f0, p0, q0, hg0, ht0, hv0, hd0, ⟨g1, t1, cs1, f1, p1, q1, hg1, ht1, hv1, hd1, ⟨g2, t2, cs2, f2, p2, q2, hg2, ht2, hv2, hd2, _⟩, _⟩, _⟩, _⟩ := h
  have hg : Tryd.prog.globalNamed "internal/strconv.uint64pow10" = some 2 := by kernel_rfl
  obtain rfl := Option.some.inj (hg.symm.trans hg2)
  have hty : (Tryd.prog.globals[2]?).map (·.type) = some 155 := by kernel_rfl
  obtain rfl := Option.some.inj (hty.symm.trans ht2)
  have hd : Rows.laid_internal_strconv_uint64pow10 (H := Unit) = Lib.tabData .u64 Lib.pow10Tab := by rfl
  rw [hd] at hd2
  have := Lib.cells_of_tab (n := 20) Tryd.underlying155 Tryd.underlying22 (by kernel_rfl) (by kernel_rfl) hd2
  show W.var? Tryd.prog "internal/strconv.uint64pow10" = _
  rw [hv2]
  congr 1
  apply Array.ext'
  rw [this]
end Go.Proofs.YtenikoecnfbfoaaDoor
