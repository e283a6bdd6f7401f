/- Texts of the proof, in build order: Open. -/
import Derived.Test.YtcpgbekcbaelpaaGreatDoorF12
import Derived.ChangeArms
import Derived.OpenShut
import Derived.ProofKit
set_option linter.unusedVariables false
set_option linter.unusedSimpArgs false
set_option linter.unusedSectionVars false
/- A value that came in, as a tree. -/
namespace Go.Proofs.YtcpgbekcbaelpaaGreatDoor
open Go.RowKit Go.ChangeShapes Go.WideShapes
set_option linter.unusedVariables false

theorem cells_val : Tryz.prog.cellsOf 33 = 4 := by kernel_rfl
theorem cells_3 : Tryz.prog.cellsOf 3 = 1 := by kernel_rfl
theorem cells_s : Tryz.prog.cellsOf 9 = 1 := by kernel_rfl
theorem cells_k : Tryz.prog.cellsOf 31 = 1 := by kernel_rfl

theorem list_of {Q : Nat → VT → Prop} : ∀ (n : Nat), (∀ i, i < n → ∃ t, Q i t) → ∃ l : List VT, l.length = n ∧ ∀ i t, l[i]? = some t → Q i t
  | 0, _ => ⟨[], rfl, fun i t h => by cases h⟩
  | n + 1, h => by
    obtain ⟨l, hl, hq⟩ := list_of n (fun i hi => h i (by omega))
    obtain ⟨t, ht⟩ := h n (by omega)
    refine ⟨l ++ [t], by simp [hl], fun i u hu => ?_⟩
    by_cases hi : i < l.length
    · rw [List.getElem?_append_left hi] at hu; exact hq i u hu
    · rw [List.getElem?_append_right (by omega)] at hu
      have : i - l.length = 0 := by
        rcases Nat.eq_zero_or_pos (i - l.length) with h | h
        · exact h
        · rw [List.getElem?_eq_none (by simp; omega)] at hu; cases hu
      rw [this] at hu; cases hu
      have e : i = n := by omega
      rw [e]; exact ht
theorem kids_of {w : World} {P : Nat → Prop} {ao : Option Addr} : ∀ (l : List VT) (j : Nat),
    (∀ i t, l[i]? = some t → ∃ b off x0 x1 x2 x3, ao = some ⟨b, off, none⟩ ∧ P b ∧ w.cell? ⟨b, off + (j + i) * 4, none⟩ = some x0 ∧ w.cell? ⟨b, off + (j + i) * 4 + 1, none⟩ = some x1 ∧ w.cell? ⟨b, off + (j + i) * 4 + 2, none⟩ = some x2 ∧ w.cell? ⟨b, off + (j + i) * 4 + 3, none⟩ = some x3 ∧ ValIs w P t (.agg #[x0, x1, x2, x3])) → KidsAt w P l ao j
  | [], _, _ => by unfold KidsAt; trivial
  | t :: l, j, h => by
    unfold KidsAt
    refine ⟨h 0 t rfl, kids_of l (j + 1) fun i u hu => ?_⟩
    have := h (i + 1) u (by rw [List.getElem?_cons_succ]; exact hu)
    rw [show j + (i + 1) = j + 1 + i by omega] at this
    exact this

set_option maxRecDepth 100000 in
theorem open_val {H : Type} {enc : TypeId × Value → H} {w : World} {spare : Nat → Bool} {held : Bool} : ∀ (fuel : Nat) (cs : List Value) (x : DataW H × List MemPlace), DataW.trod enc Tryz.prog w 0 spare held fuel 33 cs = some x →
    ∃ (t : VT) (ao : Option Addr) (cap : Nat), cs = [.int .i64 t.kind, .int .i64 t.num, .string t.text, .slice ao t.kids.length cap] ∧ ValIs w (fun b => b < w.heap.size) t (vval t ao cap) := by
  intro fuel
  induction fuel using Nat.strongRecOn with
  | _ fuel ih =>
  intro cs x h
  obtain ⟨xs, n, rfl, _, hl, hlen, hf⟩ := DataW.trod_struct Tryz.underlying33 h
  rw [cells_val] at hl
  obtain ⟨c0, c1, c2, c3, rfl⟩ : ∃ a b c d, cs = [a, b, c, d] := by
    match cs, hl with
    | [a, b, c, d], _ => exact ⟨a, b, c, d, rfl⟩
  obtain ⟨y0, y1, y2, y3, rfl⟩ : ∃ a b c d, xs = [a, b, c, d] := by
    match xs, hlen with
    | [a, b, c, d], _ => exact ⟨a, b, c, d, rfl⟩
  have h0 : DataW.trod enc Tryz.prog w 0 spare held n 3 (List.take (Tryz.prog.cellsOf 3) (List.drop 0 [c0, c1, c2, c3])) = some y0 := hf 0 _ rfl
  have h1 : DataW.trod enc Tryz.prog w 0 spare held n 3 (List.take (Tryz.prog.cellsOf 3) (List.drop 1 [c0, c1, c2, c3])) = some y1 := hf 1 _ rfl
  have h2 : DataW.trod enc Tryz.prog w 0 spare held n 9 (List.take (Tryz.prog.cellsOf 9) (List.drop 2 [c0, c1, c2, c3])) = some y2 := hf 2 _ rfl
  have h3 : DataW.trod enc Tryz.prog w 0 spare held n 31 (List.take (Tryz.prog.cellsOf 31) (List.drop 3 [c0, c1, c2, c3])) = some y3 := hf 3 _ rfl
  simp only [cells_3, cells_s, cells_k, List.drop_succ_cons, List.drop_zero, List.take_succ_cons, List.take_zero] at h0 h1 h2 h3
  obtain ⟨k, e0, _, w0⟩ := DataW.trod_int Tryz.underlying3 h0
  obtain ⟨m, e1, _, w1⟩ := DataW.trod_int Tryz.underlying3 h1
  obtain ⟨s, e2, _, w2⟩ := DataW.trod_string Tryz.underlying9 h2
  simp only [List.cons.injEq, and_true] at e0 e1 e2
  subst e0 e1 e2
  rcases DataW.trod_slice Tryz.underlying31 h3 with ⟨e3, _⟩ | ⟨a, len, cap, elems, rest, n', rfl, e3, _, _, hle, hcm, hel, hcel, _⟩
  · simp only [List.cons.injEq, and_true] at e3
    subst e3
    refine ⟨.node k m s [], none, 0, rfl, ?_⟩
    unfold ValIs
    exact ⟨none, 0, rfl, Nat.le_refl _, by unfold maxLen; omega, w2, w0, w1, fun _ => rfl, by unfold KidsAt; trivial⟩
  · simp only [List.cons.injEq, and_true] at e3
    subst e3
    rw [cells_val] at hcel
    have hsp : 0 < len → a.spot = none := fun hi => by
      have hc := hcel 0 hi
      obtain ⟨el, he⟩ : ∃ el, elems[0]? = some el := ⟨_, List.getElem?_eq_getElem (by omega)⟩
      rw [he, Option.bind_eq_some_iff] at hc
      obtain ⟨cs', hcs, htr⟩ := hc
      obtain ⟨t, ao', cap', rfl, hv⟩ := ih n' (by omega) cs' el htr
      unfold World.cells? at hcs
      split at hcs
      · have g0 := mapM_some_get hcs 0 0 (by simp)
        rw [List.getElem?_cons_zero] at g0
        have := World.cell?_spot g0
        simpa [Addr.add] using this
      · cases hcs
    obtain ⟨l, hll, hq⟩ := list_of (Q := fun i t => ∃ b off x0 x1 x2 x3, (some a : Option Addr) = some ⟨b, off, none⟩ ∧ b < w.heap.size ∧ w.cell? ⟨b, off + (0 + i) * 4, none⟩ = some x0 ∧ w.cell? ⟨b, off + (0 + i) * 4 + 1, none⟩ = some x1 ∧ w.cell? ⟨b, off + (0 + i) * 4 + 2, none⟩ = some x2 ∧ w.cell? ⟨b, off + (0 + i) * 4 + 3, none⟩ = some x3 ∧ ValIs w (fun b => b < w.heap.size) t (.agg #[x0, x1, x2, x3])) len (fun i hi => by
      have hc := hcel i hi
      obtain ⟨el, he⟩ : ∃ el, elems[i]? = some el := ⟨_, List.getElem?_eq_getElem (by omega)⟩
      rw [he, Option.bind_eq_some_iff] at hc
      obtain ⟨cs', hcs, htr⟩ := hc
      obtain ⟨t, ao', cap', rfl, hv⟩ := ih n' (by omega) cs' el htr
      unfold World.cells? at hcs
      split at hcs
      · have g := fun (j : Nat) (hj : j < 4) => mapM_some_get hcs j j (by simp [hj])
        have g0 := g 0 (by omega)
        have g1 := g 1 (by omega)
        have g2 := g 2 (by omega)
        have g3 := g 3 (by omega)
        simp only [List.getElem?_cons_zero, List.getElem?_cons_succ] at g0 g1 g2 g3
        have hspot := hsp (by omega)
        obtain ⟨b, off, spot⟩ := a
        simp only at hspot
        subst hspot
        rw [Go.WideShapes.add_plain, Go.WideShapes.add_plain] at g0 g1 g2 g3
        refine ⟨t, b, off, _, _, _, _, rfl, ?_, by rw [Nat.zero_add]; exact g0, by rw [Nat.zero_add]; exact g1, by rw [Nat.zero_add]; exact g2, by rw [Nat.zero_add]; exact g3, hv⟩
        rcases Nat.lt_or_ge b w.heap.size with hlt | hge
        · exact hlt
        · unfold World.cell? at g0; rw [Array.getElem?_eq_none hge] at g0; cases g0
      · cases hcs)
    subst hll
    refine ⟨.node k m s l, some a, cap, rfl, ?_⟩
    unfold ValIs
    exact ⟨some a, cap, rfl, hle, hcm, w2, w0, w1, (fun e => by cases e), kids_of l 0 hq⟩

end Go.Proofs.YtcpgbekcbaelpaaGreatDoor
