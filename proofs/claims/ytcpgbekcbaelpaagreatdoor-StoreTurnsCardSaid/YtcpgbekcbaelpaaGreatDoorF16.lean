/- Texts of the proof, in build order: StZer. -/
import Derived.Test.YtcpgbekcbaelpaaGreatDoorF14
import Derived.Lib.AppendZerosOnto
import Derived.Laws.MakeOwn
set_option linter.unusedVariables false
set_option linter.unusedSimpArgs false
set_option linter.unusedSectionVars false
/- A row of bytes that grows by noughts: 'append(b, make([]byte, n)...)'. -/
namespace Go.Proofs.YtcpgbekcbaelpaaGreatDoor
open Go.RowKit Go.Maps Wr
set_option linter.unusedVariables false
set_option linter.unusedSimpArgs false
theorem zeroCells_u8 (n : Nat) : Builtin.zeroCells (Value.int .u8 0).cells n = (bvals (St.zeros n)).toArray := by
  have h : ∀ l : List Nat, l.map (fun i => (Value.int .u8 0).cells[i % (Value.int .u8 0).cells.size]!) = List.replicate l.length (Value.int .u8 0) := fun l => by
    induction l with
    | nil => rfl
    | cons a l ih =>
      rw [List.map_cons, ih, List.length_cons, List.replicate_succ]
      congr 1
      show (#[Value.int .u8 0] : Array Value)[a % 1]! = _
      rw [Nat.mod_one]
      rfl
  apply Array.toList_inj.1
  unfold Builtin.zeroCells
  rw [Array.toList_map, Array.toList_range]
  have e := h (List.range (n * (Value.int .u8 0).cells.size))
  rw [e, List.length_range]
  simp [Value.cells, bvals, St.zeros]
theorem grownRow {w : World} {N cap : Nat} {b : List UInt8} (l : List UInt8) (hN : N ≤ w.heap.size) (hl : b.length + l.length ≤ 1000000000) (old : Nat) (v : Value) :
    ByteRow (w.drew.alloc (.cells ((bvals b).toArray ++ (bvals l).toArray ++ Builtin.zeroCells (Value.int .u8 0).cells (grownCap w (b.length + l.length) old 5 - (b.length + l.length))) 5)) N (.slice (some ⟨w.heap.size, 0, none⟩) (b.length + l.length) (grownCap w (b.length + l.length) old 5)) (b ++ l) ∧
    OwnStep w v (w.drew.alloc (.cells ((bvals b).toArray ++ (bvals l).toArray ++ Builtin.zeroCells (Value.int .u8 0).cells (grownCap w (b.length + l.length) old 5 - (b.length + l.length))) 5)) (.slice (some ⟨w.heap.size, 0, none⟩) (b.length + l.length) (grownCap w (b.length + l.length) old 5)) := by
  have hge := grownCap_ge w (b.length + l.length) old 5
  have hcm : grownCap w (b.length + l.length) old 5 ≤ maxLen := grownCap_le_maxLen w _ old _ (by unfold maxLen; omega)
  refine ⟨ByteRow.of (n := b.length + l.length) ⟨by rw [bvals_length, List.length_append, Nat.mul_one], .inr ⟨w.heap.size, _, _, rfl, hN, heap_alloc_new w.drew _, hge, hcm, ?_, ?_⟩⟩ (by rw [List.length_append]), ⟨⟨rfl, rfl, rfl, by simp, fun k hk _ => Below.heap_alloc w.drew _ k hk⟩, .inr ⟨w.heap.size, rfl, Nat.le_refl _⟩⟩⟩
  · have hz1 : (Value.int IntKind.u8 0).cells.size = 1 := rfl
    simp only [Array.size_append, List.size_toArray, size_zeroCells, hz1, bvals_length]
    omega
  · simp only [Array.toList_append, List.append_assoc]
    rw [← List.append_assoc, bvals_append, Nat.mul_one, show b.length + l.length = (bvals b ++ bvals l).length by simp [bvals_length]]
    exact List.take_left
theorem run_zeros {w : World} {N : Nat} {v : Value} {b : List UInt8} (hr : ByteRow w N v b) (n : Nat) (hN : N ≤ w.heap.size) (h63 : b.length + n ≤ 1000000000) (ty : TypeId) :
    ∃ v' w', (Builtin.append_ #[44, 3] ty #[v, .int .i64 (n : Int)]).run Tryz.prog w = .ok v' w' ∧ ByteRow w' N v' (b ++ St.zeros n) ∧ OwnStep w v w' v' := by
  obtain ⟨i0, hi, hz0, hz1, hz2⟩ := info_parts infoB
  have hzl : (St.zeros n).length = n := by simp [St.zeros]
  have hw : IntKind.i64.wrap (n : Int) = n := by rw [IntKind.wrap_i64]; omega
  have h48i : ¬ (281474976710656 < (n : Int) * (i0.bytes : Int)) := by rw [hz2]; omega
  have hneg : ¬ ((n : Int) < 0) := by omega
  rcases hr.owns.2 with ⟨rfl, h0⟩ | ⟨g, cap, cur, rfl, hbg, hg, hnc, hcm, hcs, htake⟩
  · have hb : b = [] := List.length_eq_zero_iff.1 h0
    subst hb
    by_cases hn : n = 0
    · subst hn
      refine ⟨.slice none 0 0, w, ?_, ?_, OwnStep.refl _ _⟩
      · simp [Builtin.append_, run_underlying Tryz.underlying44, run_underlying Tryz.underlying3, sizeOf, typeInfo, hi, hz1, asInt, asIntOf, show IntKind.i64.wrap 0 = 0 from rfl]
      · exact nil_row w N
    · have hrun := Lib.run_append_nil_zeros (P := Tryz.prog) w 44 3 ty 5 i0 (.int .u8 0) .i64 .i64 Tryz.underlying44 Tryz.underlying3 hi hz0 n (by omega) (by rw [hz1]; omega) (by omega) (by rw [hz2]; omega)
      have hgr := grownRow (w := w) (N := N) (b := []) (cap := 0) (St.zeros n) hN (by simpa [hzl] using h63) 0 (.slice none 0 0)
      rw [zeroCells_u8 n] at hrun
      simp only [List.length_nil, Nat.zero_add, hzl] at hgr
      have e1 : (bvals []).toArray ++ (bvals (St.zeros n)).toArray = (bvals (St.zeros n)).toArray := by simp [bvals]
      rw [e1] at hgr
      exact ⟨_, _, hrun, hgr.1, hgr.2⟩
  · by_cases hroom : b.length + n ≤ cap
    · have hst := run_storeCells_at Tryz.prog g b.length 5 (bvals (St.zeros n)) 0 cur w hg (by rw [bvals_length, hzl]; omega) (bvals_one _)
      simp only [Nat.add_zero, bvals_length, hzl] at hst
      refine ⟨.slice (some ⟨g, 0, none⟩) (b.length + n) cap, w.setRow g (cur.toList.take b.length ++ bvals (St.zeros n) ++ cur.toList.drop (b.length + n)).toArray, ?_, ?_, ?_⟩
      rotate_left
      · refine ByteRow.of (n := b.length + n) ⟨by rw [bvals_length, List.length_append, hzl, Nat.mul_one], .inr ⟨g, cap, _, rfl, hbg, setRow_heap w g cur _ _ _ hg, hroom, hcm, ?_, ?_⟩⟩ (by rw [List.length_append, hzl])
        · simp only [List.size_toArray, List.length_append, List.length_take, List.length_drop, Array.length_toList, bvals_length, hzl]
          omega
        · rw [Nat.mul_one] at htake
          rw [htake, bvals_append, Nat.mul_one, show b.length + n = (bvals b ++ bvals (St.zeros n)).length by simp [bvals_length, hzl]]
          exact List.take_left
      · exact ⟨⟨rfl, rfl, rfl, by simp, fun k _ hk => setRow_other w g k _ (fun e => hk (by simp [Value.ownBlock, e]))⟩, .inl rfl⟩
      · by_cases hn : n = 0
        · subst hn
          simp [Builtin.append_, run_underlying Tryz.underlying44, run_underlying Tryz.underlying3, sizeOf, typeInfo, hi, hz1, asInt, asIntOf, show IntKind.i64.wrap 0 = 0 from rfl, show b.length ≤ cap by omega, storeCells]
          have e : (List.take b.length cur.toList ++ (bvals (St.zeros 0) ++ List.drop b.length cur.toList)).toArray = cur := by
            rw [show bvals (St.zeros 0) = [] from rfl, List.nil_append, List.take_append_drop]
          rw [e]
          exact (setRow_self w g cur _ _ hg).symm
        · have hzc : (zeroValue 5).run Tryz.prog w = .ok (.int .u8 0) w := by kernel_rfl
          simp [Builtin.append_, run_underlying Tryz.underlying44, run_underlying Tryz.underlying3, sizeOf, typeInfo, hi, hz1, asInt, asIntOf, hw, hneg, h48i, hroom, hn, hzc, zeroCells_u8, Addr.add_lit, hst]
    · have holds : ∀ (j : Nat) (u : Value), (bvals b)[j]? = some u → w.cell? ((⟨g, 0, none⟩ : Addr).add j) = some u := hr.owns.cells (g := g) rfl
      have hf := run_firstCells_some (P := Tryz.prog) (w := w.drew) i0.size b.length ⟨g, 0, none⟩ b.length cap (bvals b) (by rw [bvals_length, hz1, Nat.mul_one]) holds
      have hrun := Lib.run_append_grow_zeros (P := Tryz.prog) w 44 3 ty 5 i0 (.int .u8 0) .i64 .i64 Tryz.underlying44 Tryz.underlying3 hi hz0 (some ⟨g, 0, none⟩) b.length cap (bvals b) hf n (by omega) (by rw [hz1]; omega) (by omega) (by omega) (by rw [hz2]; omega) (by rw [hz2]; exact growslice_fits (by omega) (by omega))
      have hgr := grownRow (w := w) (N := N) (b := b) (cap := 0) (St.zeros n) hN (by rw [hzl]; exact h63) cap (.slice (some ⟨g, 0, none⟩) b.length cap)
      rw [zeroCells_u8 n] at hrun
      simp only [hzl] at hgr
      exact ⟨_, _, hrun, hgr.1, hgr.2⟩
theorem run_mk_bytes (n : Nat) (hn : n ≤ 1000000000) (w : World) : (Instr.makeSlice 44 (.int .i64 (n : Int)) (.int .i64 (n : Int))).run Tryz.prog w = .ok (.slice (some ⟨w.heap.size, 0, none⟩) n n) (w.alloc (.cells (madeCells #[.int .u8 0] n) 5)) := by
  obtain ⟨i0, hi, hz0, hz1, hz2⟩ := info_parts infoB
  have := run_make (P := Tryz.prog) w 44 5 i0 (.int .u8 0) Tryz.underlying44 hi hz0 .i64 .i64 n n (by omega) (Int.le_refl _) (by rw [hz2]; omega) (by omega)
  rw [hz1, Int.toNat_natCast, Nat.mul_one] at this
  exact this
theorem mk_row (w : World) (n : Nat) (hn : n ≤ 1000000000) : ByteRow (w.alloc (.cells (madeCells #[.int .u8 0] n) 5)) w.heap.size (.slice (some ⟨w.heap.size, 0, none⟩) n n) (St.zeros n) := by
  have hl : (St.zeros n).length = n := by simp [St.zeros]
  have e : (madeCells #[Value.int .u8 0] n).toList = bvals (St.zeros n) := by
    apply List.ext_getElem (by simp [madeCells, bvals_length, hl])
    intro j h1 h2
    simp [madeCells, Nat.mod_one, bvals, St.zeros]
  refine ByteRow.of (n := n) ⟨by rw [bvals_length, hl, Nat.mul_one], .inr ⟨w.heap.size, n, _, rfl, Nat.le_refl _, heap_alloc_new w _, Nat.le_refl _, by unfold maxLen; omega, by simp [size_madeCells], ?_⟩⟩ hl.symm
  rw [e, List.take_of_length_le (by simp [bvals_length, hl])]
end Go.Proofs.YtcpgbekcbaelpaaGreatDoor
