/- What the listed tables and variables give a walk; a world that meets the condition. -/
import Derived.Test.YtpdebbjbhciceaaDoorRows
import Derived.Test.YtpdebbjbhciceaaDoorNumText
import Derived.Lib.LaidTab
import Derived.LaidLaws
import Derived.LaidHandle
import Derived.LaidMore
import Derived.MakeChecks
import Derived.Stop.Joined
import Derived.ProofKit
import Derived.Lay
namespace Go.Proofs.YtpdebbjbhciceaaDoor
open Go.ChangeShapes Go.WideShapes Go.ChangeAt Go.RowKit
set_option linter.unusedVariables false

def laid3 : List (String × DataW Unit) := [("math/bits.deBruijn32tab", Rows.laid_math_bits_deBruijn32tab), ("math/bits.deBruijn64tab", Rows.laid_math_bits_deBruijn64tab), ("internal/strconv.uint64pow10", Rows.laid_internal_strconv_uint64pow10), ("unicode/utf8.acceptRanges", Rows.laid_unicode_utf8_acceptRanges), ("strconv.ErrRange", Rows.laid_strconv_ErrRange), ("strconv.ErrSyntax", Rows.laid_strconv_ErrSyntax), ("unicode/utf8.first", Rows.laid_unicode_utf8_first)]
theorem door_met (os : Os) (args : Array Value) : laidMetH Tryd.prog laid3 ((World.laidAll Tryd.prog os laid3).forCall (fun _ _ => 0) ⟨#[], args, []⟩).memory := by
  rw [MakeChecks.laidMetH_plain _ _ _ (by kernel_rfl)]
  exact laidMet_laidAll _ (by kernel_rfl) (by kernel_rfl)
theorem iface_cells {H : Type} {enc : TypeId × Value → H} {P : Program} {w : World} {base : Nat} {spare : Nat → Bool} {held : Bool} {fuel : Nat} {t : TypeId} {ms : Array (String × TypeId)} {cs : List Value} {name : String} {x : DataW H} {p : List MemPlace}
    (ht : P.underlying t = some (.interface ms)) (h : DataW.trod enc P w base spare held fuel t cs = some (.iface name x, p)) : ∃ u v, cs = [.iface u v] := by
  cases fuel with
  | zero => unfold DataW.trod at h; cases h
  | succ fuel =>
    unfold DataW.trod at h
    rw [ht] at h
    rcases cs with _ | ⟨c, _ | ⟨c', r⟩⟩
    · simp at h
    · cases c <;> first | exact ⟨_, _, rfl⟩ | simp at h
    · simp at h
structure Laid (W : World) : Prop where
  tab : Tab W
  err : ErrVar W
theorem of_laid {W : World} (h : laidMetH Tryd.prog laid3 W) : Laid W := by
  rw [MakeChecks.laidMetH_plain _ _ _ (by kernel_rfl)] at h
  obtain ⟨ps, ⟨g0, t0, cs0, f0, p0, q0, hg0, ht0, hv0, hd0, ⟨g1, t1, cs1, f1, p1, q1, hg1, ht1, hv1, hd1, ⟨g2, t2, cs2, f2, p2, q2, hg2, ht2, hv2, hd2, ⟨g3, t3, cs3, f3, p3, q3, hg3, ht3, hv3, hd3, ⟨g4, t4, cs4, f4, p4, q4, hg4, ht4, hv4, hd4, _⟩, _⟩, _⟩, _⟩, _⟩, _⟩ := h
  constructor
  · have hg : Tryd.prog.globalNamed "internal/strconv.uint64pow10" = some 2 := by kernel_rfl
    obtain rfl := Option.some.inj (hg.symm.trans hg2)
    have hty : (Tryd.prog.globals[2]?).map (·.type) = some 76 := by kernel_rfl
    obtain rfl := Option.some.inj (hty.symm.trans ht2)
    have hd : Rows.laid_internal_strconv_uint64pow10 (H := Unit) = Lib.tabData .u64 Lib.pow10Tab := by rfl
    rw [hd] at hd2
    have := Lib.cells_of_tab (n := 20) Tryd.underlying76 Tryd.underlying37 (by kernel_rfl) (by kernel_rfl) hd2
    show W.var? Tryd.prog "internal/strconv.uint64pow10" = _
    rw [hv2]
    congr 1
    apply Array.ext'
    rw [this]
  · have hg : Tryd.prog.globalNamed "strconv.ErrRange" = some 1 := by kernel_rfl
    obtain rfl := Option.some.inj (hg.symm.trans hg4)
    have hty : (Tryd.prog.globals[1]?).map (·.type) = some 34 := by kernel_rfl
    obtain rfl := Option.some.inj (hty.symm.trans ht4)
    obtain ⟨u, v, hcs⟩ := iface_cells Tryd.underlying34 hd4
    refine ⟨.iface u v, ?_, .inr ⟨u, v, rfl⟩⟩
    have hc := World.var?_cell hg hv4 0
    rw [hc]
    rw [← Array.getElem?_toList, hcs]
    rfl
end Go.Proofs.YtpdebbjbhciceaaDoor
