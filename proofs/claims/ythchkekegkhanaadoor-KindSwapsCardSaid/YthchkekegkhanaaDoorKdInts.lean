/- Rows of integers that came in. -/
import Derived.Test.YthchkekegkhanaaDoorKdOpen
import Derived.Test.YthchkekegkhanaaDoorKdRSwap2
namespace Go.Proofs.YthchkekegkhanaaDoor
open Go.RowKit
set_option linter.unusedVariables false

set_option maxRecDepth 100000 in
theorem law_intsAt {H : Type} {enc : TypeId × Value → H} {W : World} {v : Value} {base : Nat} {d : DataW H} {ps : List MemPlace} (hok : Value.okWide Tryd.prog W .any base 56 v) (h : DataW.Trod enc Tryd.prog W 0 (fun _ => true) true 56 v d ps) :
    ∃ l : List Int, IntsAt W v l := by
  obtain ⟨zs, ao, cap, rfl, hc, h1, h2⟩ := law_ints Tryd.underlying56 Tryd.underlying3 cells_3 hok h
  refine ⟨zs, ao, cap, rfl, h1, h2, fun i x hx => ?_⟩
  obtain ⟨b, o, e, hb, hv⟩ := hc i (List.getElem?_eq_some_iff.1 hx).1
  refine ⟨b, o, e, hb, hv.trans ?_⟩
  rw [List.getD_eq_getElem?_getD, hx]
  rfl
end Go.Proofs.YthchkekegkhanaaDoor
