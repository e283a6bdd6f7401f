/- Texts of the proof, in build order: StRo. -/
import Derived.Test.YtcpgbekcbaelpaaGreatDoorE20
import Derived.Test.YtcpgbekcbaelpaaGreatDoorE09
import Derived.ChangeSlices
set_option linter.unusedVariables false
set_option linter.unusedSimpArgs false
set_option linter.unusedSectionVars false
/- The input of the law of batches. -/
namespace Go.Proofs.YtcpgbekcbaelpaaGreatDoor
open Go.RowKit Go.ChangeShapes Go.WideShapes
set_option linter.unusedVariables false
set_option linter.unusedSimpArgs false
set_option maxRecDepth 100000 in
theorem open_vals {H : Type} {enc : TypeId × Value → H} {W : World} {fuel : Nat} {c : Value} {x : DataW H × List MemPlace} (hf : DataW.trod enc Tryz.prog W 0 (fun _ => true) true fuel 31 [c] = some x) :
    ∃ (l : List VT) (ao : Option Addr) (cap : Nat), c = .slice ao l.length cap ∧ l.length ≤ cap ∧ cap ≤ maxLen ∧ (ao = none → cap = 0) ∧ KidsAt W (fun b => b < W.heap.size) l ao 0 := by
  rcases DataW.trod_slice Tryz.underlying31 hf with ⟨e3, _⟩ | ⟨a, len, cap, elems, rest, n', rfl, e3, _, _, hle, hcm, hel, hcel, _⟩
  · simp only [List.cons.injEq, and_true] at e3
    subst e3
    exact ⟨[], none, 0, rfl, Nat.le_refl _, by unfold maxLen; omega, fun _ => rfl, by unfold KidsAt; trivial⟩
  · simp only [List.cons.injEq, and_true] at e3
    subst e3
    rw [cells_val] at hcel
    have hsp : 0 < len → a.spot = none := fun hi => by
      have hc := hcel 0 hi
      obtain ⟨el, he⟩ : ∃ el, elems[0]? = some el := ⟨_, List.getElem?_eq_getElem (by omega)⟩
      rw [he, Option.bind_eq_some_iff] at hc
      obtain ⟨cs', hcs, htr⟩ := hc
      obtain ⟨t, ao', cap', rfl, hv⟩ := open_val n' cs' el htr
      unfold World.cells? at hcs
      split at hcs
      · have g0 := mapM_some_get hcs 0 0 (by simp)
        rw [List.getElem?_cons_zero] at g0
        have := World.cell?_spot g0
        simpa [Addr.add] using this
      · cases hcs
    obtain ⟨l, hll, hq⟩ := list_of (Q := fun i t => ∃ b off x0 x1 x2 x3, (some a : Option Addr) = some ⟨b, off, none⟩ ∧ b < W.heap.size ∧ W.cell? ⟨b, off + (0 + i) * 4, none⟩ = some x0 ∧ W.cell? ⟨b, off + (0 + i) * 4 + 1, none⟩ = some x1 ∧ W.cell? ⟨b, off + (0 + i) * 4 + 2, none⟩ = some x2 ∧ W.cell? ⟨b, off + (0 + i) * 4 + 3, none⟩ = some x3 ∧ ValIs W (fun b => b < W.heap.size) t (.agg #[x0, x1, x2, x3])) len (fun i hi => by
      have hc := hcel i hi
      obtain ⟨el, he⟩ : ∃ el, elems[i]? = some el := ⟨_, List.getElem?_eq_getElem (by omega)⟩
      rw [he, Option.bind_eq_some_iff] at hc
      obtain ⟨cs', hcs, htr⟩ := hc
      obtain ⟨t, ao', cap', rfl, hv⟩ := open_val n' cs' el htr
      unfold World.cells? at hcs
      split at hcs
      · have g := fun (j : Nat) (hj : j < 4) => mapM_some_get hcs j j (by simp [hj])
        have g0 := g 0 (by omega)
        have g1 := g 1 (by omega)
        have g2 := g 2 (by omega)
        have g3 := g 3 (by omega)
        simp only [List.getElem?_cons_zero, List.getElem?_cons_succ] at g0 g1 g2 g3
        have hspot := hsp (by omega)
        obtain ⟨b, off, spot⟩ := a
        simp only at hspot
        subst hspot
        rw [Go.WideShapes.add_plain, Go.WideShapes.add_plain] at g0 g1 g2 g3
        refine ⟨t, b, off, _, _, _, _, rfl, ?_, by rw [Nat.zero_add]; exact g0, by rw [Nat.zero_add]; exact g1, by rw [Nat.zero_add]; exact g2, by rw [Nat.zero_add]; exact g3, hv⟩
        rcases Nat.lt_or_ge b W.heap.size with hlt | hge
        · exact hlt
        · unfold World.cell? at g0; rw [Array.getElem?_eq_none hge] at g0; cases g0
      · cases hcs)
    subst hll
    exact ⟨l, some a, cap, rfl, hle, hcm, (fun e => by cases e), kids_of l 0 hq⟩
theorem cells_rows : Tryz.prog.cellsOf 91 = 3 := by kernel_rfl
theorem cells_ints : Tryz.prog.cellsOf 22 = 1 := by kernel_rfl
set_option maxRecDepth 100000 in
theorem law_rows {H : Type} {enc : TypeId × Value → H} {W : World} {v : Value} {base : Nat} {d : DataW H} {ps : List MemPlace} (hok : Value.okWide Tryz.prog W .any base 91 v) (h : DataW.Trod enc Tryz.prog W 0 (fun _ => true) true 91 v d ps) :
    ∃ (us : List VT) (ao : Option Addr) (cap : Nat) (bt : Int) (vt : Value) (ts : List Int), v = .agg #[.slice ao us.length cap, .int .i64 bt, vt] ∧ (us.length ≤ cap ∧ cap ≤ maxLen) ∧ KidsAt W (fun b => b < W.heap.size) us ao 0 ∧ IntsAt W vt ts := by
  obtain ⟨cs, rfl, hs⟩ := okWide_struct Tryz.underlying91 hok
  obtain ⟨fuel, hf⟩ := h
  obtain ⟨xs, n, _, _, hl, hlen, hf⟩ := DataW.trod_struct Tryz.underlying91 hf
  rw [cells_rows] at hl
  have hl2 : cs.toList.length = 3 := by simpa [Value.cells] using hl
  obtain ⟨c0, c1, c2, hc⟩ : ∃ a b c, cs.toList = [a, b, c] := by
    match cs.toList, hl2 with
    | [a, b, c], _ => exact ⟨a, b, c, rfl⟩
  obtain ⟨y0, y1, y2, rfl⟩ : ∃ a b c, xs = [a, b, c] := by
    match xs, hlen with
    | [a, b, c], _ => exact ⟨a, b, c, rfl⟩
  have hcv : (Value.agg cs).cells.toList = [c0, c1, c2] := by simpa [Value.cells] using hc
  have h0 : DataW.trod enc Tryz.prog W 0 (fun _ => true) true n 31 (List.take (Tryz.prog.cellsOf 31) (List.drop 0 (Value.agg cs).cells.toList)) = some y0 := hf 0 _ rfl
  have h1 : DataW.trod enc Tryz.prog W 0 (fun _ => true) true n 3 (List.take (Tryz.prog.cellsOf 3) (List.drop 1 (Value.agg cs).cells.toList)) = some y1 := hf 1 _ rfl
  have h2 : DataW.trod enc Tryz.prog W 0 (fun _ => true) true n 22 (List.take (Tryz.prog.cellsOf 22) (List.drop 2 (Value.agg cs).cells.toList)) = some y2 := hf 2 _ rfl
  rw [hcv, cells_k] at h0
  rw [hcv, cells_3] at h1
  rw [hcv, cells_ints] at h2
  simp only [List.drop_succ_cons, List.drop_zero, List.take_succ_cons, List.take_zero] at h0 h1 h2
  obtain ⟨us, ao, cap, rfl, k1, k2, _, k3⟩ := open_vals h0
  obtain ⟨k, e1, _, w1⟩ := DataW.trod_int Tryz.underlying3 h1
  simp only [List.cons.injEq, and_true] at e1
  subst e1
  have hv : Value.agg cs = .agg #[.slice ao us.length cap, .int .i64 k, c2] := by rw [show cs = #[.slice ao us.length cap, .int .i64 k, c2] from Array.ext' hc]
  rcases open_ints Tryz.underlying22 Tryz.underlying3 cells_3 h2 with ⟨hcs, _⟩ | ⟨a, len', cap', zs, hcs, _, hle, hmax, hall, hx, hcell, _⟩
  · simp only [List.cons.injEq, and_true] at hcs
    subst hcs
    exact ⟨us, ao, cap, k, _, [], hv, ⟨k1, k2⟩, k3, none, 0, rfl, Nat.le_refl _, by unfold maxLen; omega, fun i x hx => by cases hx⟩
  · simp only [List.cons.injEq, and_true] at hcs
    subst hcs
    simp only [if_true] at hall
    have hlen : (zs.take len').length = len' := by rw [List.length_take]; omega
    refine ⟨us, ao, cap, k, _, zs.take len', hv, ⟨k1, k2⟩, k3, some a, cap', by rw [hlen], by omega, hmax, fun i u hxi => ?_⟩
    have hi := (List.getElem?_eq_some_iff.1 hxi).1
    rw [hlen] at hi
    obtain ⟨b, off, rfl, hb⟩ := ints_at hcell (by omega)
    have h3 := hb i (by omega)
    refine ⟨b, off, rfl, ?_, ?_⟩
    · by_cases hlt : b < W.heap.size
      · exact hlt
      · have : W.heap[b]? = none := by simp; omega
        simp [World.cell?, this] at h3
    · rw [h3]
      have e : zs.getD i 0 = u := by
        rw [List.getElem?_take_of_lt hi] at hxi
        rw [List.getD_eq_getElem?_getD, hxi]
        rfl
      rw [e]
end Go.Proofs.YtcpgbekcbaelpaaGreatDoor
