/- Texts of the proof, in build order: GrOpen. -/
import Derived.Test.YtenikoecnfbfoaaGreatDoorB16
import Derived.Test.YtenikoecnfbfoaaGreatDoorB28
/- Layer 8: roots and objects that came in. -/
namespace Go.Proofs.YtenikoecnfbfoaaGreatDoor
open Go.RowKit Go.ChangeShapes Go.WideShapes
set_option linter.unusedVariables false
open Gr (RT)
theorem cells_rr : Tryz.prog.cellsOf 66 = 3 := by kernel_rfl
theorem cells_ro : Tryz.prog.cellsOf 50 = 5 := by kernel_rfl
theorem cells_rl : Tryz.prog.cellsOf 22 = 1 := by kernel_rfl
theorem cells_ol : Tryz.prog.cellsOf 23 = 1 := by kernel_rfl
theorem list_ofT {α : Type} {Q : Nat → α → Prop} : ∀ (n : Nat), (∀ i, i < n → ∃ t, Q i t) → ∃ l : List α, l.length = n ∧ ∀ i t, l[i]? = some t → Q i t
  | 0, _ => ⟨[], rfl, fun i t h => by cases h⟩
  | n + 1, h => by
    obtain ⟨l, hl, hq⟩ := list_ofT n (fun i hi => h i (by omega))
    obtain ⟨t, ht⟩ := h n (by omega)
    refine ⟨l ++ [t], by simp [hl], fun i u hu => ?_⟩
    by_cases hi : i < l.length
    · rw [List.getElem?_append_left hi] at hu; exact hq i u hu
    · rw [List.getElem?_append_right (by omega)] at hu
      have : i - l.length = 0 := by
        rcases Nat.eq_zero_or_pos (i - l.length) with h | h
        · exact h
        · rw [List.getElem?_eq_none (by simp; omega)] at hu; cases hu
      rw [this] at hu; cases hu
      have e : i = n := by omega
      rw [e]; exact ht
set_option maxRecDepth 100000 in
theorem open_root {H : Type} {enc : TypeId × Value → H} {w : World} {spare : Nat → Bool} {held : Bool} {fuel : Nat} {cs : List Value} {x : DataW H × List MemPlace} (h : DataW.trod enc Tryz.prog w 0 spare held fuel 66 cs = some x) :
    ∃ r : RT, cs = rcs r ∧ (bytes r.name).size ≤ maxLen ∧ (bytes r.typ).size ≤ maxLen ∧ (Lit.int .i64 r.id).wf = true := by
  obtain ⟨xs, n, rfl, _, hl, hlen, hf⟩ := DataW.trod_struct Tryz.underlying66 h
  rw [cells_rr] at hl
  obtain ⟨c0, c1, c2, rfl⟩ : ∃ a b c, cs = [a, b, c] := by
    match cs, hl with
    | [a, b, c], _ => exact ⟨a, b, c, rfl⟩
  obtain ⟨y0, y1, y2, rfl⟩ : ∃ a b c, xs = [a, b, c] := by
    match xs, hlen with
    | [a, b, c], _ => exact ⟨a, b, c, rfl⟩
  have h0 : DataW.trod enc Tryz.prog w 0 spare held n 9 (List.take (Tryz.prog.cellsOf 9) (List.drop 0 [c0, c1, c2])) = some y0 := hf 0 _ rfl
  have h1 : DataW.trod enc Tryz.prog w 0 spare held n 9 (List.take (Tryz.prog.cellsOf 9) (List.drop 1 [c0, c1, c2])) = some y1 := hf 1 _ rfl
  have h2 : DataW.trod enc Tryz.prog w 0 spare held n 3 (List.take (Tryz.prog.cellsOf 3) (List.drop 2 [c0, c1, c2])) = some y2 := hf 2 _ rfl
  simp only [cells_3, cells_s, List.drop_succ_cons, List.drop_zero, List.take_succ_cons, List.take_zero] at h0 h1 h2
  obtain ⟨s, e0, _, w0⟩ := DataW.trod_string Tryz.underlying9 h0
  obtain ⟨t, e1, _, w1⟩ := DataW.trod_string Tryz.underlying9 h1
  obtain ⟨m, e2, _, w2⟩ := DataW.trod_int Tryz.underlying3 h2
  simp only [List.cons.injEq, and_true] at e0 e1 e2
  subst e0 e1 e2
  have eb : ∀ s : ByteArray, bytes s.data.toList = s := fun s => by simp [bytes]
  exact ⟨⟨s.data.toList, t.data.toList, m⟩, by simp [rcs, eb], by rw [eb]; exact w0, by rw [eb]; exact w1, w2⟩
set_option maxRecDepth 100000 in
theorem open_obj {H : Type} {enc : TypeId × Value → H} {w : World} {spare : Nat → Bool} {held : Bool} {fuel : Nat} {cs : List Value} {x : DataW H × List MemPlace} (h : DataW.trod enc Tryz.prog w 0 spare held fuel 50 cs = some x) :
    ∃ (r : OB) (t : VT), cs = ocs r ∧ (Lit.int .i64 r.id).wf = true ∧ ValIs w (fun b => b < w.heap.size) t (obV r) := by
  obtain ⟨xs, n, rfl, _, hl, hlen, hf⟩ := DataW.trod_struct Tryz.underlying50 h
  rw [cells_ro] at hl
  obtain ⟨c0, c1, c2, c3, c4, rfl⟩ : ∃ a b c d e, cs = [a, b, c, d, e] := by
    match cs, hl with
    | [a, b, c, d, e], _ => exact ⟨a, b, c, d, e, rfl⟩
  obtain ⟨y0, y1, rfl⟩ : ∃ a b, xs = [a, b] := by
    match xs, hlen with
    | [a, b], _ => exact ⟨a, b, rfl⟩
  have h0 : DataW.trod enc Tryz.prog w 0 spare held n 3 (List.take (Tryz.prog.cellsOf 3) (List.drop 0 [c0, c1, c2, c3, c4])) = some y0 := hf 0 _ rfl
  have h1 : DataW.trod enc Tryz.prog w 0 spare held n 47 (List.take (Tryz.prog.cellsOf 47) (List.drop 1 [c0, c1, c2, c3, c4])) = some y1 := hf 1 _ rfl
  simp only [cells_3, cells_val, List.drop_succ_cons, List.drop_zero, List.take_succ_cons, List.take_zero] at h0 h1
  obtain ⟨m, e0, _, w0⟩ := DataW.trod_int Tryz.underlying3 h0
  simp only [List.cons.injEq, and_true] at e0
  obtain ⟨t, ao, cap, e1, hv⟩ := open_val _ _ _ h1
  simp only [List.cons.injEq, and_true] at e1
  obtain ⟨rfl, rfl, rfl, rfl⟩ := e1
  subst e0
  exact ⟨⟨m, t.kind, t.num, t.text, ao, t.kids.length, cap⟩, t, rfl, w0, hv⟩
theorem cells_get {w : World} {a : Addr} {n : Nat} {cs : List Value} (h : w.cells? 0 a n = some cs) (k : Nat) (hk : k < n) : w.cell? (a.add k) = cs[k]? := by
  unfold World.cells? at h
  split at h
  · exact mapM_some_get h k k (by simp [hk])
  · cases h
theorem cells_lt {w : World} {b off : Nat} {u : Value} (h : w.cell? ⟨b, off, none⟩ = some u) : b < w.heap.size := World.block_lt_of_cell? _ _ h
/-- The elements of a slice that came in: where they lie, and what they are. -/
theorem open_elems {α : Type} {w : World} {a : Addr} {sz len : Nat} {cells : α → List Value} {R : α → Prop} (hsz : 0 < sz) (hl : ∀ x, (cells x).length = sz)
    (h : ∀ i, i < len → ∃ (cs : List Value) (x : α), w.cells? 0 (a.add (i * sz)) sz = some cs ∧ cs = cells x ∧ R x) :
    ∃ l : List α, l.length = len ∧ (0 < len → a.spot = none ∧ a.block < w.heap.size) ∧ ∀ (i : Nat) x, l[i]? = some x → R x ∧ ∀ k u, (cells x)[k]? = some u → w.cell? ⟨a.block, a.off + i * sz + k, none⟩ = some u := by
  have hsp : 0 < len → a.spot = none := fun h0 => by
    obtain ⟨cs, x, hc, rfl, _⟩ := h 0 h0
    have g := cells_get hc 0 hsz
    obtain ⟨u, hu⟩ : ∃ u, (cells x)[0]? = some u := ⟨_, List.getElem?_eq_getElem (by rw [hl]; exact hsz)⟩
    have := World.cell?_spot (g.trans hu)
    simpa [Addr.add] using this
  obtain ⟨l, h1, h2⟩ := list_ofT (Q := fun i x => R x ∧ ∀ k u, (cells x)[k]? = some u → w.cell? ⟨a.block, a.off + i * sz + k, none⟩ = some u) len (fun i hi => by
    obtain ⟨cs, x, hc, rfl, hr⟩ := h i hi
    refine ⟨x, hr, fun k u hu => ?_⟩
    have hk : k < sz := by have := (List.getElem?_eq_some_iff.1 hu).1; rwa [hl] at this
    have g := (cells_get hc k hk).trans hu
    have hs := hsp (by omega)
    obtain ⟨b, off, spot⟩ := a
    simp only at hs
    subst hs
    rw [Go.WideShapes.add_plain, Go.WideShapes.add_plain] at g
    exact g)
  refine ⟨l, h1, fun h0 => ⟨hsp h0, ?_⟩, h2⟩
  obtain ⟨x, hx⟩ : ∃ x, l[0]? = some x := ⟨_, List.getElem?_eq_getElem (by omega)⟩
  obtain ⟨u, hu⟩ : ∃ u, (cells x)[0]? = some u := ⟨_, List.getElem?_eq_getElem (by rw [hl]; exact hsz)⟩
  exact cells_lt ((h2 0 x hx).2 0 u hu)
set_option maxRecDepth 100000 in
/-- A slice of roots that came in. -/
theorem open_roots {H : Type} {enc : TypeId × Value → H} {W : World} {spare : Nat → Bool} {held : Bool} {fuel : Nat} {cs : List Value} {x : DataW H × List MemPlace} (hf : DataW.trod enc Tryz.prog W 0 spare held fuel 22 cs = some x) :
    ∃ (v : Value) (l : List RT), cs = [v] ∧ RtIn W v l := by
  rcases DataW.trod_slice Tryz.underlying22 hf with ⟨e3, _⟩ | ⟨a, len, cap, elems, rest, n', _, e3, _, _, hle, hcm, hel, hcel, _⟩
  · exact ⟨_, [], e3, none, 0, rfl, by simp, fun j r hj => by cases hj⟩
  · rw [cells_rr] at hcel
    obtain ⟨l, h1, h2, h3⟩ := open_elems (cells := rcs) (R := fun r : RT => (Lit.int .i64 r.id).wf = true) (sz := 3) (w := W) (a := a) (len := len) (by omega) rcs_len (fun i hi => by
      have hc := hcel i hi
      obtain ⟨el, he⟩ : ∃ el, elems[i]? = some el := ⟨_, List.getElem?_eq_getElem (by omega)⟩
      rw [he, Option.bind_eq_some_iff] at hc
      obtain ⟨cs', hcs, htr⟩ := hc
      obtain ⟨r, e, _, _, hw⟩ := open_root htr
      exact ⟨cs', r, hcs, e, hw⟩)
    refine ⟨_, l, e3, some a, cap, by rw [h1], by omega, fun i r hi => ?_⟩
    have hil := (List.getElem?_eq_some_iff.1 hi).1
    obtain ⟨hs, hb⟩ := h2 (by omega)
    obtain ⟨b, off, spot⟩ := a
    simp only at hs hb
    subst hs
    have := h3 i r hi
    exact ⟨b, off, rfl, hb, this.2 0 _ rfl, this.2 1 _ rfl, this.2 2 _ rfl, this.1⟩
set_option maxRecDepth 100000 in
/-- A slice of objects that came in. -/
theorem open_objs {H : Type} {enc : TypeId × Value → H} {W : World} {spare : Nat → Bool} {held : Bool} {fuel : Nat} {cs : List Value} {x : DataW H × List MemPlace} (hf : DataW.trod enc Tryz.prog W 0 spare held fuel 23 cs = some x) :
    ∃ (v : Value) (l : List (Int × VT)), cs = [v] ∧ ObIn W v l := by
  rcases DataW.trod_slice Tryz.underlying23 hf with ⟨e3, _⟩ | ⟨a, len, cap, elems, rest, n', _, e3, _, _, hle, hcm, hel, hcel, _⟩
  · exact ⟨_, [], e3, none, 0, rfl, by simp, fun j r hj => by cases hj⟩
  · rw [cells_ro] at hcel
    obtain ⟨l, h1, h2, h3⟩ := open_elems (α := OB × VT) (cells := fun x => ocs x.1) (R := fun r => (Lit.int .i64 r.1.id).wf = true ∧ ValIs W (fun b => b < W.heap.size) r.2 (obV r.1)) (sz := 5) (w := W) (a := a) (len := len) (by omega) (fun x => ocs_len x.1) (fun i hi => by
      have hc := hcel i hi
      obtain ⟨el, he⟩ : ∃ el, elems[i]? = some el := ⟨_, List.getElem?_eq_getElem (by omega)⟩
      rw [he, Option.bind_eq_some_iff] at hc
      obtain ⟨cs', hcs, htr⟩ := hc
      obtain ⟨r, t, e, hw, hv⟩ := open_obj htr
      exact ⟨cs', (r, t), hcs, e, hw, hv⟩)
    refine ⟨_, l.map fun x => (x.1.id, x.2), e3, some a, cap, by rw [List.length_map, h1], by rw [List.length_map]; omega, fun i o hi => ?_⟩
    rw [List.getElem?_map, Option.map_eq_some_iff] at hi
    obtain ⟨x, hi, rfl⟩ := hi
    have hil := (List.getElem?_eq_some_iff.1 hi).1
    obtain ⟨hs, hb⟩ := h2 (by omega)
    obtain ⟨b, off, spot⟩ := a
    simp only at hs hb
    subst hs
    have := h3 i x hi
    exact ⟨b, off, x.1, rfl, hb, rfl, this.1.1, ⟨this.2 0 _ rfl, this.2 1 _ rfl, this.2 2 _ rfl, this.2 3 _ rfl, this.2 4 _ rfl⟩, this.1.2⟩
set_option maxRecDepth 100000 in
/-- Arguments of the laws. -/
theorem law_roots {H : Type} {enc : TypeId × Value → H} {W : World} {v : Value} {base : Nat} {d : DataW H} {ps : List MemPlace} (hok : Value.okWide Tryz.prog W .any base 22 v) (h : DataW.Trod enc Tryz.prog W 0 (fun _ => true) true 22 v d ps) : ∃ l, RtIn W v l := by
  obtain ⟨a0, n0, c0, rfl⟩ := okWide_slice Tryz.underlying22 hok
  obtain ⟨fuel, hf⟩ := h
  obtain ⟨v', l, e, hl⟩ := open_roots hf
  have e : v' = .slice a0 n0 c0 := by simpa [Value.cells] using e.symm
  exact ⟨l, e ▸ hl⟩
set_option maxRecDepth 100000 in
theorem law_objs {H : Type} {enc : TypeId × Value → H} {W : World} {v : Value} {base : Nat} {d : DataW H} {ps : List MemPlace} (hok : Value.okWide Tryz.prog W .any base 23 v) (h : DataW.Trod enc Tryz.prog W 0 (fun _ => true) true 23 v d ps) : ∃ l, ObIn W v l := by
  obtain ⟨a0, n0, c0, rfl⟩ := okWide_slice Tryz.underlying23 hok
  obtain ⟨fuel, hf⟩ := h
  obtain ⟨v', l, e, hl⟩ := open_objs hf
  have e : v' = .slice a0 n0 c0 := by simpa [Value.cells] using e.symm
  exact ⟨l, e ▸ hl⟩
theorem cells_tw : Tryz.prog.cellsOf 54 = 4 := by kernel_rfl
set_option maxRecDepth 100000 in
theorem law_twin {H : Type} {enc : TypeId × Value → H} {W : World} {v : Value} {base : Nat} {d : DataW H} {ps : List MemPlace} (hok : Value.okWide Tryz.prog W .any base 54 v) (h : DataW.Trod enc Tryz.prog W 0 (fun _ => true) true 54 v d ps) :
    ∃ vr vo vb vs l o, v = .agg #[vr, vo, vb, vs] ∧ RtIn W vr l ∧ ObIn W vo o := by
  obtain ⟨cs, rfl, hs⟩ := okWide_struct Tryz.underlying54 hok
  obtain ⟨fuel, hf⟩ := h
  obtain ⟨xs, n, _, _, hl, hlen, hf⟩ := DataW.trod_struct Tryz.underlying54 hf
  rw [cells_tw] at hl
  have hl2 : cs.toList.length = 4 := by simpa [Value.cells] using hl
  obtain ⟨c0, c1, c2, c3, hc⟩ : ∃ a b c d, cs.toList = [a, b, c, d] := by
    match cs.toList, hl2 with
    | [a, b, c, d], _ => exact ⟨a, b, c, d, rfl⟩
  obtain ⟨y0, y1, y2, y3, rfl⟩ : ∃ a b c d, xs = [a, b, c, d] := by
    match xs, hlen with
    | [a, b, c, d], _ => exact ⟨a, b, c, d, rfl⟩
  have hcv : (Value.agg cs).cells.toList = [c0, c1, c2, c3] := by simpa [Value.cells] using hc
  have h0 : DataW.trod enc Tryz.prog W 0 (fun _ => true) true n 22 (List.take (Tryz.prog.cellsOf 22) (List.drop 0 (Value.agg cs).cells.toList)) = some y0 := hf 0 _ rfl
  have h1 : DataW.trod enc Tryz.prog W 0 (fun _ => true) true n 23 (List.take (Tryz.prog.cellsOf 23) (List.drop 1 (Value.agg cs).cells.toList)) = some y1 := hf 1 _ rfl
  rw [hcv, cells_rl] at h0
  rw [hcv, cells_ol] at h1
  simp only [List.drop_succ_cons, List.drop_zero, List.take_succ_cons, List.take_zero] at h0 h1
  obtain ⟨v0, l, e0, hl0⟩ := open_roots h0
  obtain ⟨v1, o, e1, hl1⟩ := open_objs h1
  simp only [List.cons.injEq, and_true] at e0 e1
  subst e0 e1
  exact ⟨c0, c1, c2, c3, l, o, by rw [show cs = #[c0, c1, c2, c3] from Array.ext' hc], hl0, hl1⟩
end Go.Proofs.YtenikoecnfbfoaaGreatDoor
