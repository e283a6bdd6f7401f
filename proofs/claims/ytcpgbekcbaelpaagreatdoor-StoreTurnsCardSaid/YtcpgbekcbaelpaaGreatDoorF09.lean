/- Texts of the proof, in build order: StIt. -/
import Derived.Test.YtcpgbekcbaelpaaGreatDoorF08
import Derived.Test.YtcpgbekcbaelpaaGreatDoorChecked
import Derived.Below
set_option linter.unusedVariables false
set_option linter.unusedSimpArgs false
set_option linter.unusedSectionVars false
/- Rows of integers that came in. -/
namespace Go.Proofs.YtcpgbekcbaelpaaGreatDoor
open Go.RowKit Go.ChangeShapes Go.WideShapes
set_option linter.unusedVariables false
def IntsAt (w : World) (v : Value) (h : List Int) : Prop := ∃ ao cap, v = .slice ao h.length cap ∧ h.length ≤ cap ∧ cap ≤ maxLen ∧ ∀ (i : Nat) (x : Int), h[i]? = some x → ∃ g o, ao = some ⟨g, o, none⟩ ∧ g < w.heap.size ∧ w.cell? ⟨g, o + i, none⟩ = some (.int .i64 x)
theorem IntsAt.form {w : World} {v : Value} {h : List Int} (hi : IntsAt w v h) : ∃ ao cap, v = .slice ao h.length cap ∧ h.length ≤ cap ∧ cap ≤ maxLen := by
  obtain ⟨ao, cap, a, b, c, _⟩ := hi
  exact ⟨ao, cap, a, b, c⟩
theorem IntsAt.at {w : World} {ao : Option Addr} {n c : Nat} {h : List Int} (hi : IntsAt w (.slice ao n c) h) {i : Nat} {x : Int} (hx : h[i]? = some x) : ∃ g o, ao = some ⟨g, o, none⟩ ∧ g < w.heap.size ∧ w.cell? ⟨g, o + i, none⟩ = some (.int .i64 x) := by
  obtain ⟨_, _, e, _, _, k⟩ := hi
  cases e
  exact k i x hx
theorem IntsAt.below {w w' : World} {v : Value} {h : List Int} (hi : IntsAt w v h) (hb : Below w.heap.size w w') : IntsAt w' v h := by
  obtain ⟨ao, cap, e, h1, h2, k⟩ := hi
  refine ⟨ao, cap, e, h1, h2, fun i x hx => ?_⟩
  obtain ⟨g, o, e2, hg, hc⟩ := k i x hx
  exact ⟨g, o, e2, Nat.lt_of_lt_of_le hg hb.size, (hb.cell (p := ⟨g, o + i, none⟩) hg).trans hc⟩
theorem ints_wide : Tryz.prog.cellsOf 3 = 1 := by kernel_rfl
set_option maxRecDepth 100000 in
theorem law_intsAt {H : Type} {enc : TypeId × Value → H} {W : World} {v : Value} {base : Nat} {d : DataW H} {ps : List MemPlace} (hok : Value.okWide Tryz.prog W .any base 22 v) (h : DataW.Trod enc Tryz.prog W 0 (fun _ => true) true 22 v d ps) :
    ∃ l : List Int, IntsAt W v l := by
  obtain ⟨zs, ao, cap, rfl, hc, h1, h2⟩ := law_ints Tryz.underlying22 Tryz.underlying3 ints_wide hok h
  refine ⟨zs, ao, cap, rfl, h1, h2, fun i x hx => ?_⟩
  obtain ⟨b, o, e, hb, hv⟩ := hc i (List.getElem?_eq_some_iff.1 hx).1
  refine ⟨b, o, e, hb, hv.trans ?_⟩
  rw [List.getD_eq_getElem?_getD, hx]
  rfl
end Go.Proofs.YtcpgbekcbaelpaaGreatDoor
