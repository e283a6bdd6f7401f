/- One more cell of the listed tables. -/
import Derived.Test.YtofmbpmmgpbdbaaDoorLaid
import Derived.Test.YtofmbpmmgpbdbaaDoorHex
namespace Go.Proofs.YtofmbpmmgpbdbaaDoor
open Go.ChangeShapes Go.WideShapes Go.ChangeAt Go.RowKit
theorem of_laid_tz {W : World} (h : laidMetH Tryd.prog laid3 W) : Tz W := by
  rw [MakeChecks.laidMetH_plain _ _ _ (by kernel_rfl)] at h
  obtain ⟨ps, ⟨g0, t0, cs0, f0, p0, q0, hg0, ht0, hv0, hd0, ⟨g1, t1, cs1, f1, p1, q1, hg1, ht1, hv1, hd1, _⟩, _⟩, _⟩ := h
  have hg : Tryd.prog.globalNamed "math/bits.deBruijn64tab" = some 4 := by kernel_rfl
  obtain rfl := Option.some.inj (hg.symm.trans hg1)
  have hty : (Tryd.prog.globals[4]?).map (·.type) = some 139 := by kernel_rfl
  obtain rfl := Option.some.inj (hty.symm.trans ht1)
  have hd : Rows.laid_math_bits_deBruijn64tab (H := Unit) = Lib.tabData .u8 [0, 1, 56, 2, 57, 49, 28, 3, 61, 58, 42, 50, 38, 29, 17, 4, 62, 47, 59, 36, 45, 43, 51, 22, 53, 39, 33, 30, 24, 18, 12, 5, 63, 55, 48, 27, 60, 41, 37, 16, 46, 35, 44, 21, 52, 32, 23, 11, 54, 26, 40, 15, 34, 20, 31, 10, 25, 14, 19, 9, 13, 8, 7, 6] := by rfl
  rw [hd] at hd1
  have hc := Lib.cells_of_tab (n := 64) Tryd.underlying139 Tryd.underlying5 (by kernel_rfl) (by kernel_rfl) hd1
  have := World.var?_cell hg1 hv1 15
  unfold Tz
  rw [this]
  have e : cs1[15]? = cs1.toList[15]? := by simp
  rw [e, hc]
  rfl
end Go.Proofs.YtofmbpmmgpbdbaaDoor
