/- The laws of layer 10: bytes that came in. -/
import Derived.Test.YtlailomhgipppaaGreatDoorLexLaw1
import Derived.Test.YtlailomhgipppaaGreatDoorLaw
import Derived.ChangeSlices
namespace Go.Proofs.YtlailomhgipppaaGreatDoor
open Go.RowKit Go.ChangeShapes Go.WideShapes
set_option linter.unusedVariables false
set_option linter.unusedSimpArgs false

/-- A slice that reads as these bytes. -/
def BytesIn (w : World) (v : Value) (b : List UInt8) : Prop :=
  ∃ ao cap, v = .slice ao b.length cap ∧ b.length ≤ cap ∧ cap ≤ maxLen ∧ (ao = none → cap = 0) ∧ ∀ j (h : j < b.length), ∃ g o, ao = some ⟨g, o, none⟩ ∧ g < w.heap.size ∧ w.cell? ⟨g, o + j, none⟩ = some (.int .u8 ((b[j]).toNat : Int))
theorem BytesIn.below {w w' : World} {v : Value} {b : List UInt8} (h : BytesIn w v b) (hb : Below w.heap.size w w') : BytesIn w' v b := by
  obtain ⟨ao, cap, h1, h2, h3, h4, h5⟩ := h
  refine ⟨ao, cap, h1, h2, h3, h4, fun j hj => ?_⟩
  obtain ⟨g, o, e0, e1, e2⟩ := h5 j hj
  exact ⟨g, o, e0, Nat.lt_of_lt_of_le e1 hb.size, (hb.cell (p := ⟨g, o + j, none⟩) e1).trans e2⟩
theorem byte_of {n : Int} (h : (Lit.int .u8 n).wf = true) : ((UInt8.ofNat n.toNat).toNat : Int) = n := by
  have e1 : IntKind.u8.min = 0 := by decide
  have e2 : IntKind.u8.max = 255 := by decide
  simp only [Lit.wf, Bool.and_eq_true, decide_eq_true_eq] at h
  rw [e1, e2] at h
  simp [UInt8.toNat_ofNat']
  omega
theorem cells_b : Tryz.prog.cellsOf 5 = 1 := by kernel_rfl
set_option maxRecDepth 100000 in
/-- An argument of bytes. -/
theorem law_bytes {H : Type} {enc : TypeId × Value → H} {W : World} {v : Value} {base : Nat} {d : DataW H} {ps : List MemPlace} (hok : Value.okWide Tryz.prog W .any base 42 v) (h : DataW.Trod enc Tryz.prog W 0 (fun _ => true) true 42 v d ps) :
    ∃ b : List UInt8, BytesIn W v b := by
  obtain ⟨ao, len, cap, rfl⟩ := okWide_slice Tryz.underlying42 hok
  obtain ⟨fuel, hf⟩ := h
  rcases open_ints Tryz.underlying42 Tryz.underlying5 cells_b hf with ⟨e, _⟩ | ⟨a, len', cap', zs, e, _, h1, h2, h3, _, h4, h5⟩
  · have e' : Value.slice ao len cap = .slice none 0 0 := by simpa [Value.cells] using e
    rw [e']
    exact ⟨[], none, 0, rfl, Nat.le_refl _, by unfold maxLen; omega, fun _ => rfl, fun j hj => absurd hj (by simp)⟩
  · have e' : Value.slice ao len cap = .slice (some a) len' cap' := by simpa [Value.cells] using e
    rw [e']
    rw [if_pos rfl] at h3
    have hlen : ((zs.take len').map (fun n => UInt8.ofNat n.toNat)).length = len' := by rw [List.length_map, List.length_take]; omega
    refine ⟨(zs.take len').map (fun n => UInt8.ofNat n.toNat), some a, cap', by rw [hlen], by rw [hlen]; exact h1, h2, (fun e => by cases e), fun j hj => ?_⟩
    rw [hlen] at hj
    have hc := h4 j (by omega)
    have hz : zs[j]? = some (zs.getD j 0) := by simp [List.getD, show j < zs.length by omega]
    have hw := h5 (zs.getD j 0) (List.mem_of_getElem? hz)
    have hs := World.cell?_spot (h4 0 (by omega))
    obtain ⟨g, o, spot⟩ := a
    have hs' : spot = none := by
      simpa [Addr.add] using hs
    subst hs'
    rw [Go.WideShapes.add_plain] at hc
    refine ⟨g, o, rfl, World.block_lt_of_cell? _ _ hc, ?_⟩
    rw [hc]
    congr 2
    rw [List.getElem_map, List.getElem_take]
    rw [byte_of (n := zs[j]) (by have : zs.getD j 0 = zs[j] := by simp [List.getD, show j < zs.length by omega]
                                 rwa [this] at hw)]
    simp [List.getD, show j < zs.length by omega]
/-- 'string(b)'. -/
theorem run_bytes_str {w : World} {v : Value} {b : List UInt8} (h : BytesIn w v b) : (convert 42 9 v).run Tryz.prog w = .ok (.string (bytes b)) w := by
  obtain ⟨ao, cap, rfl, h1, h2, h3, h4⟩ := h
  cases ao with
  | none =>
    have hc := h3 rfl
    have hb : b = [] := List.length_eq_zero_iff.1 (by omega)
    subst hb
    exact run_convert_bytes_nil w 42 5 Tryz.underlying42 Tryz.underlying5 0 cap 9 Tryz.underlying9
  | some ad =>
    exact run_convert_bytes_back (P := Tryz.prog) w 42 9 5 ad cap b Tryz.underlying42 Tryz.underlying5 Tryz.underlying9 (fun j hj => by
      obtain ⟨g, o, e1, _, e4⟩ := h4 j hj
      cases e1
      rw [show (Addr.add ⟨g, o, none⟩ j) = ⟨g, o + j, none⟩ by unfold Addr.add; split <;> simp_all]
      exact e4)

theorem law_mod (a : Int) (n : Nat) (h : 0 < n) (h2 : n ≤ 16384) : ∃ m : Nat, wrap64 ((IntKind.u64.wrap a).tmod (n : Int)) = (m : Int) ∧ m < n := by
  have hw : 0 ≤ IntKind.u64.wrap a := by show 0 ≤ a % 18446744073709551616; omega
  have e : (IntKind.u64.wrap a).tmod (n : Int) = IntKind.u64.wrap a % (n : Int) := Int.tmod_eq_emod_of_nonneg hw
  have b0 := Int.emod_nonneg (IntKind.u64.wrap a) (show (n : Int) ≠ 0 by omega)
  have b1 := Int.emod_lt_of_pos (IntKind.u64.wrap a) (show (0 : Int) < (n : Int) by omega)
  rw [e]
  generalize IntKind.u64.wrap a % (n : Int) = x at *
  refine ⟨x.toNat, ?_, by omega⟩
  unfold wrap64
  omega
end Go.Proofs.YtlailomhgipppaaGreatDoor
