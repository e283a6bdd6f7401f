/- Texts of the proof, in build order: Laid, LaidZ. -/
import Derived.Test.YtenikoecnfbfoaaGreatDoorRows
import Derived.Test.YtenikoecnfbfoaaGreatDoorB20
import Derived.Lib.LaidTab
import Derived.LaidLaws
import Derived.LaidHandle
import Derived.LaidMore
import Derived.MakeChecks
import Derived.Stop.Joined
import Derived.ProofKit
/- What the listed tables give a walk; a world that meets the condition. -/
namespace Go.Proofs.YtenikoecnfbfoaaGreatDoor
open Go.ChangeShapes Go.WideShapes Go.ChangeAt Go.RowKit
set_option linter.unusedVariables false

def laid3 : List (String × DataW Unit) := [("math/bits.deBruijn32tab", Rows.laid_math_bits_deBruijn32tab), ("math/bits.deBruijn64tab", Rows.laid_math_bits_deBruijn64tab), ("internal/strconv.uint64pow10", Rows.laid_internal_strconv_uint64pow10)]
theorem door_met (os : Os) (args : Array Value) : laidMetH Tryz.prog laid3 ((World.doorLaid Tryz.prog 400 os).forCall (fun _ _ => 0) ⟨#[], args, []⟩).memory :=
  laidMetH_of_parts3 (fuel := 8) (laidMet_of_run' 8 (by kernel_rfl) (by kernel_rfl)) (by kernel_rfl) (by kernel_rfl)
theorem of_laid {W : World} (h : laidMetH Tryz.prog laid3 W) : Tab W := by
  rw [MakeChecks.laidMetH_plain _ _ _ (by kernel_rfl)] at h
  obtain ⟨ps, ⟨g0, t0, cs0, f0, p0, q0, hg0, ht0, hv0, hd0, ⟨g1, t1, cs1, f1, p1, q1, hg1, ht1, hv1, hd1, ⟨g2, t2, cs2, f2, p2, q2, hg2, ht2, hv2, hd2, _⟩, _⟩, _⟩, _⟩ := h
  have hg : Tryz.prog.globalNamed "internal/strconv.uint64pow10" = some 1 := by kernel_rfl
  obtain rfl := Option.some.inj (hg.symm.trans hg2)
  have hty : (Tryz.prog.globals[1]?).map (·.type) = some 193 := by kernel_rfl
  obtain rfl := Option.some.inj (hty.symm.trans ht2)
  have hd : Rows.laid_internal_strconv_uint64pow10 (H := Unit) = Lib.tabData .u64 Lib.pow10Tab := by rfl
  rw [hd] at hd2
  have := Lib.cells_of_tab (n := 20) Tryz.underlying193 Tryz.underlying120 (by kernel_rfl) (by kernel_rfl) hd2
  show W.var? Tryz.prog "internal/strconv.uint64pow10" = _
  rw [hv2]
  congr 1
  apply Array.ext'
  rw [this]
end Go.Proofs.YtenikoecnfbfoaaGreatDoor
/- One more cell of the listed tables. -/
namespace Go.Proofs.YtenikoecnfbfoaaGreatDoor
open Go.ChangeShapes Go.WideShapes Go.ChangeAt Go.RowKit
theorem of_laid_tz {W : World} (h : laidMetH Tryz.prog laid3 W) : Tz W := by
  rw [MakeChecks.laidMetH_plain _ _ _ (by kernel_rfl)] at h
  obtain ⟨ps, ⟨g0, t0, cs0, f0, p0, q0, hg0, ht0, hv0, hd0, ⟨g1, t1, cs1, f1, p1, q1, hg1, ht1, hv1, hd1, _⟩, _⟩, _⟩ := h
  have hg : Tryz.prog.globalNamed "math/bits.deBruijn64tab" = some 4 := by kernel_rfl
  obtain rfl := Option.some.inj (hg.symm.trans hg1)
  have hty : (Tryz.prog.globals[4]?).map (·.type) = some 197 := by kernel_rfl
  obtain rfl := Option.some.inj (hty.symm.trans ht1)
  have hd : Rows.laid_math_bits_deBruijn64tab (H := Unit) = Lib.tabData .u8 [0, 1, 56, 2, 57, 49, 28, 3, 61, 58, 42, 50, 38, 29, 17, 4, 62, 47, 59, 36, 45, 43, 51, 22, 53, 39, 33, 30, 24, 18, 12, 5, 63, 55, 48, 27, 60, 41, 37, 16, 46, 35, 44, 21, 52, 32, 23, 11, 54, 26, 40, 15, 34, 20, 31, 10, 25, 14, 19, 9, 13, 8, 7, 6] := by rfl
  rw [hd] at hd1
  have hc := Lib.cells_of_tab (n := 64) Tryz.underlying197 Tryz.underlying5 (by kernel_rfl) (by kernel_rfl) hd1
  have := World.var?_cell hg1 hv1 15
  unfold Tz
  rw [this]
  have e : cs1[15]? = cs1.toList[15]? := by simp
  rw [e, hc]
  rfl
end Go.Proofs.YtenikoecnfbfoaaGreatDoor
