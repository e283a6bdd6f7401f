/- Rows of calls that came in. -/
import Derived.Test.YtlbiapgikkjooaaMovesB
import Derived.Test.YtlbiapgikkjooaaLaw
import Derived.ChangeArms
import Derived.OpenShut
import Derived.ProofKit
namespace Go.Proofs.Ytlbiapgikkjooaa
open Go.RowKit Go.ChangeShapes Go.WideShapes
set_option linter.unusedSimpArgs false
set_option linter.unusedSectionVars false
set_option linter.unusedVariables false

structure Mv where
  what : Int
  kind : Int
  n : Int
  k : Int
  m : Int
  text : ByteArray
/-- The rows of calls, as they came in. -/
def MvAt (W : World) (l : List Mv) (ao : Option Addr) : Prop :=
  ∀ (j : Nat) x, l[j]? = some x → ∃ b off, ao = some ⟨b, off, none⟩ ∧ b < W.heap.size ∧ W.cell? ⟨b, off + j * 6, none⟩ = some (.int .i64 x.what) ∧ W.cell? ⟨b, off + j * 6 + 1, none⟩ = some (.int .i64 x.kind) ∧ W.cell? ⟨b, off + j * 6 + 2, none⟩ = some (.int .i64 x.n) ∧
    W.cell? ⟨b, off + j * 6 + 3, none⟩ = some (.int .i64 x.k) ∧ W.cell? ⟨b, off + j * 6 + 4, none⟩ = some (.int .i64 x.m) ∧ W.cell? ⟨b, off + j * 6 + 5, none⟩ = some (.string x.text) ∧ (Lit.int .i64 x.k).wf = true ∧ x.text.size ≤ maxLen
theorem cells_mv : Try.prog.cellsOf 62 = 6 := by kernel_rfl
theorem cells_3 : Try.prog.cellsOf 3 = 1 := by kernel_rfl
theorem cells_s : Try.prog.cellsOf 9 = 1 := by kernel_rfl
theorem mvs_of {Q : Nat → Mv → Prop} : ∀ (n : Nat), (∀ i, i < n → ∃ t, Q i t) → ∃ l : List Mv, l.length = n ∧ ∀ i t, l[i]? = some t → Q i t
  | 0, _ => ⟨[], rfl, fun i t h => by cases h⟩
  | n + 1, h => by
    obtain ⟨l, hl, hq⟩ := mvs_of n (fun i hi => h i (by omega))
    obtain ⟨t, ht⟩ := h n (by omega)
    refine ⟨l ++ [t], by simp [hl], fun i u hu => ?_⟩
    by_cases hi : i < l.length
    · rw [List.getElem?_append_left hi] at hu; exact hq i u hu
    · rw [List.getElem?_append_right (by omega)] at hu
      have : i - l.length = 0 := by
        rcases Nat.eq_zero_or_pos (i - l.length) with h | h
        · exact h
        · rw [List.getElem?_eq_none (by simp; omega)] at hu; cases hu
      rw [this] at hu; cases hu
      have e : i = n := by omega
      rw [e]; exact ht
set_option maxRecDepth 100000 in
theorem open_mv {H : Type} {enc : TypeId × Value → H} {w : World} {spare : Nat → Bool} {held : Bool} {fuel : Nat} {cs : List Value} {x : DataW H × List MemPlace} (h : DataW.trod enc Try.prog w 0 spare held fuel 62 cs = some x) :
    ∃ t : Mv, cs = [.int .i64 t.what, .int .i64 t.kind, .int .i64 t.n, .int .i64 t.k, .int .i64 t.m, .string t.text] ∧ (Lit.int .i64 t.k).wf = true ∧ t.text.size ≤ maxLen := by
  obtain ⟨xs, n, rfl, _, hl, hlen, hf⟩ := DataW.trod_struct Try.underlying62 h
  rw [cells_mv] at hl
  obtain ⟨c0, c1, c2, c3, c4, c5, rfl⟩ : ∃ a b c d e f, cs = [a, b, c, d, e, f] := by
    match cs, hl with
    | [a, b, c, d, e, f], _ => exact ⟨a, b, c, d, e, f, rfl⟩
  obtain ⟨y0, y1, y2, y3, y4, y5, rfl⟩ : ∃ a b c d e f, xs = [a, b, c, d, e, f] := by
    match xs, hlen with
    | [a, b, c, d, e, f], _ => exact ⟨a, b, c, d, e, f, rfl⟩
  have h0 : DataW.trod enc Try.prog w 0 spare held n 3 (List.take (Try.prog.cellsOf 3) (List.drop 0 [c0, c1, c2, c3, c4, c5])) = some y0 := hf 0 _ rfl
  have h1 : DataW.trod enc Try.prog w 0 spare held n 3 (List.take (Try.prog.cellsOf 3) (List.drop 1 [c0, c1, c2, c3, c4, c5])) = some y1 := hf 1 _ rfl
  have h2 : DataW.trod enc Try.prog w 0 spare held n 3 (List.take (Try.prog.cellsOf 3) (List.drop 2 [c0, c1, c2, c3, c4, c5])) = some y2 := hf 2 _ rfl
  have h3 : DataW.trod enc Try.prog w 0 spare held n 3 (List.take (Try.prog.cellsOf 3) (List.drop 3 [c0, c1, c2, c3, c4, c5])) = some y3 := hf 3 _ rfl
  have h4 : DataW.trod enc Try.prog w 0 spare held n 3 (List.take (Try.prog.cellsOf 3) (List.drop 4 [c0, c1, c2, c3, c4, c5])) = some y4 := hf 4 _ rfl
  have h5 : DataW.trod enc Try.prog w 0 spare held n 9 (List.take (Try.prog.cellsOf 9) (List.drop 5 [c0, c1, c2, c3, c4, c5])) = some y5 := hf 5 _ rfl
  simp only [cells_3, cells_s, List.drop_succ_cons, List.drop_zero, List.take_succ_cons, List.take_zero] at h0 h1 h2 h3 h4 h5
  obtain ⟨k0, e0, _, w0⟩ := DataW.trod_int Try.underlying3 h0
  obtain ⟨k1, e1, _, w1⟩ := DataW.trod_int Try.underlying3 h1
  obtain ⟨k2, e2, _, w2⟩ := DataW.trod_int Try.underlying3 h2
  obtain ⟨k3, e3, _, w3⟩ := DataW.trod_int Try.underlying3 h3
  obtain ⟨k4, e4, _, w4⟩ := DataW.trod_int Try.underlying3 h4
  obtain ⟨k5, e5, _, w5⟩ := DataW.trod_string Try.underlying9 h5
  simp only [List.cons.injEq, and_true] at e0 e1 e2 e3 e4 e5
  subst e0 e1 e2 e3 e4 e5
  exact ⟨⟨k0, k1, k2, k3, k4, k5⟩, rfl, w3, w5⟩
set_option maxRecDepth 100000 in
/-- A slice of such calls. -/
theorem law_moves {H : Type} {enc : TypeId × Value → H} {W : World} {v : Value} {base : Nat} {d : DataW H} {ps : List MemPlace} (hok : Value.okWide Try.prog W .any base 53 v) (h : DataW.Trod enc Try.prog W 0 (fun _ => true) true 53 v d ps) :
    ∃ (l : List Mv) (ao : Option Addr) (cap : Nat), v = .slice ao l.length cap ∧ l.length ≤ cap ∧ cap ≤ maxLen ∧ MvAt W l ao := by
  obtain ⟨a0, n0, c0, rfl⟩ := okWide_slice Try.underlying53 hok
  obtain ⟨fuel, hf⟩ := h
  rcases DataW.trod_slice Try.underlying53 hf with ⟨e3, _⟩ | ⟨a, len, cap, elems, rest, n', rfl, e3, _, _, hle, hcm, hel, hcel, _⟩
  · simp [Value.cells] at e3
    obtain ⟨rfl, rfl, rfl⟩ := e3
    exact ⟨[], none, 0, rfl, Nat.le_refl _, by unfold maxLen; omega, fun j x hx => by cases hx⟩
  · simp [Value.cells] at e3
    obtain ⟨rfl, rfl, rfl⟩ := e3
    rw [cells_mv] at hcel
    have hsp : 0 < n0 → a.spot = none := fun hi => by
      have hc := hcel 0 hi
      obtain ⟨el, he⟩ : ∃ el, elems[0]? = some el := ⟨_, List.getElem?_eq_getElem (by omega)⟩
      rw [he, Option.bind_eq_some_iff] at hc
      obtain ⟨cs', hcs, htr⟩ := hc
      obtain ⟨t, rfl, _, _⟩ := open_mv htr
      unfold World.cells? at hcs
      split at hcs
      · have g0 := mapM_some_get hcs 0 0 (by simp)
        rw [List.getElem?_cons_zero] at g0
        have := World.cell?_spot g0
        simpa [Addr.add] using this
      · cases hcs
    obtain ⟨l, hll, hq⟩ := mvs_of (Q := fun i x => ∃ b off, (some a : Option Addr) = some ⟨b, off, none⟩ ∧ b < W.heap.size ∧ W.cell? ⟨b, off + i * 6, none⟩ = some (.int .i64 x.what) ∧ W.cell? ⟨b, off + i * 6 + 1, none⟩ = some (.int .i64 x.kind) ∧ W.cell? ⟨b, off + i * 6 + 2, none⟩ = some (.int .i64 x.n) ∧
    W.cell? ⟨b, off + i * 6 + 3, none⟩ = some (.int .i64 x.k) ∧ W.cell? ⟨b, off + i * 6 + 4, none⟩ = some (.int .i64 x.m) ∧ W.cell? ⟨b, off + i * 6 + 5, none⟩ = some (.string x.text) ∧ (Lit.int .i64 x.k).wf = true ∧ x.text.size ≤ maxLen) n0 (fun i hi => by
      have hc := hcel i hi
      obtain ⟨el, he⟩ : ∃ el, elems[i]? = some el := ⟨_, List.getElem?_eq_getElem (by omega)⟩
      rw [he, Option.bind_eq_some_iff] at hc
      obtain ⟨cs', hcs, htr⟩ := hc
      obtain ⟨t, rfl, hwk, hts⟩ := open_mv htr
      unfold World.cells? at hcs
      split at hcs
      · have g := fun (j : Nat) (hj : j < 6) => mapM_some_get hcs j j (by simp [hj])
        have g0 := g 0 (by omega)
        have g1 := g 1 (by omega)
        have g2 := g 2 (by omega)
        have g3 := g 3 (by omega)
        have g4 := g 4 (by omega)
        have g5 := g 5 (by omega)
        simp only [List.getElem?_cons_zero, List.getElem?_cons_succ] at g0 g1 g2 g3 g4 g5
        have hspot := hsp (by omega)
        obtain ⟨b, off, spot⟩ := a
        simp only at hspot
        subst hspot
        rw [Go.WideShapes.add_plain, Go.WideShapes.add_plain] at g0 g1 g2 g3 g4 g5
        refine ⟨t, b, off, rfl, ?_, g0, g1, g2, g3, g4, g5, hwk, hts⟩
        rcases Nat.lt_or_ge b W.heap.size with hlt | hge
        · exact hlt
        · unfold World.cell? at g0; rw [Array.getElem?_eq_none hge] at g0; cases g0
      · cases hcs)
    subst hll
    exact ⟨l, some a, c0, rfl, hle, hcm, hq⟩
end Go.Proofs.Ytlbiapgikkjooaa
