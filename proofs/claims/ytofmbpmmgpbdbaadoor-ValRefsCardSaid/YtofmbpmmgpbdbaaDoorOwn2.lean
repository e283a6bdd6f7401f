/- A row of bytes that grows by a text's bytes. -/
import Derived.Test.YtofmbpmmgpbdbaaDoorStep
namespace Go.Proofs.YtofmbpmmgpbdbaaDoor
open Go.RowKit Go.Maps Wr
set_option linter.unusedVariables false

theorem run_apps {w : World} {ty : TypeId} {N : Nat} {v : Value} {b : List UInt8} (hr : ByteRow w N v b) (s : ByteArray) (hne : 0 < s.size) (hN : N ≤ w.heap.size) (h63 : b.length + s.size ≤ 1000000000) :
    ∃ v' w', (Builtin.append_ #[29, 9] ty #[v, .string s]).run Tryd.prog w = .ok v' w' ∧ ByteRow w' N v' (b ++ s.data.toList) ∧ OwnStep w v w' v' := by
  obtain ⟨i0, hi, hz0, hz1, hz2⟩ := info_parts infoB
  have hl := bvals_length b
  obtain ⟨v', w', hrun, hown, hgr, _⟩ := Lib.run_append_own_string (P := Tryd.prog) w N 29 9 ty 5 i0 Tryd.underlying29 Tryd.underlying9 hi hz0 hz1 hz2 v b.length (bvals b) hr.owns s (by unfold maxLen; omega) (by omega) hN
  refine ⟨v', w', hrun, ?_, (Chg.refl _ w).grown hgr (fun k hk => .inl (by simp [hk])), ?_⟩
  · rw [strCells_bvals, ← bvals_append] at hown
    exact ByteRow.of hown (by rw [List.length_append]; simp)
  · rcases hr.owns.2 with ⟨rfl, h0⟩ | ⟨g, cap, cur, rfl, hbg, hg, hnc, hcm, hcs, htake⟩
    · have hr2 := run_append_nil_string (P := Tryd.prog) w 29 9 ty 5 i0 (.int .u8 0) Tryd.underlying29 Tryd.underlying9 hi hz0 s hne (by omega) (by rw [hz2]; omega)
      rw [hrun] at hr2
      injection hr2 with e1 e2
      exact .inr ⟨w.heap.size, by rw [e1]; rfl, Nat.le_refl _⟩
    · by_cases hroom : b.length + s.size ≤ cap
      · have hcs' : cur.size = cap := by simpa using hcs
        have hr2 := Lib.run_append_room_string (P := Tryd.prog) w 29 9 ty 5 i0 Tryd.underlying29 Tryd.underlying9 hi hz1 g b.length cap cur hg s hroom (by omega)
        rw [hrun] at hr2
        injection hr2 with e1 e2
        exact .inl (by rw [e1]; rfl)
      · have holds : ∀ j u, (bvals b)[j]? = some u → w.cell? ((⟨g, 0, none⟩ : Addr).add j) = some u := hr.owns.cells (g := g) rfl
        have hr2 := Lib.run_append_grow_string (P := Tryd.prog) w 29 9 ty 5 i0 (.int .u8 0) Tryd.underlying29 Tryd.underlying9 hi hz0 ⟨g, 0, none⟩ b.length cap (bvals b) (by rw [hz1, Nat.mul_one, hl]) holds s (by omega) (by omega) (by rw [hz2]; exact growslice_fits (by omega) (by omega))
        rw [hrun] at hr2
        injection hr2 with e1 e2
        exact .inr ⟨w.heap.size, by rw [e1]; rfl, Nat.le_refl _⟩

/-- 'append(b, s...)' of a text. -/
theorem wpList_apps {w : World} {ops : Array Oper} {rest : List Oper} {o : Oper} {a : Act} {Q : Exit → Act → World → Prop} (hgd : o.guard = none) (sl x : Operand)
    (ho : o.op = .call { callee := .builtin .append, args := #[sl, x], argTypes := #[29, 9] }) {N : Nat} {v : Value} {b : List UInt8} (hs : a.eval sl = v) (hr : ByteRow w N v b) {s : ByteArray} (hx : a.eval x = .string s) (hne : 0 < s.size) (hN : N ≤ w.heap.size)
    (h63 : b.length + s.size ≤ 1000000000)
    (h : ∀ v' w', ByteRow w' N v' (b ++ s.data.toList) → OwnStep w v w' v' → wpList Tryd.prog ops Q rest (a.put o.dst v') w') : wpList Tryd.prog ops Q (o :: rest) a w := by
  refine wpList_plain hgd fun K hK => ?_
  obtain ⟨v', w', hrun, h2, h3⟩ := run_apps (ty := o.type) hr s hne hN h63
  unfold Oper.wp execOp
  simp only [ho, resolve, invoke, builtin, Sem.run_bind, Sem.run_pure, Result.andThen_ok, List.map_toArray, List.map_cons, List.map_nil, hs, hx, hrun]
  exact hK _ _ (h v' w' h2 h3)

theorem step_apps {w : World} {ops : Array Oper} {o : Oper} {a : Act} {K : Act → World → Prop} {Q : Exit → Act → World → Prop} {E : Prop} (hgd : o.guard = none) (sl x : Operand)
    (ho : o.op = .call { callee := .builtin .append, args := #[sl, x], argTypes := #[29, 9] }) {N : Nat} {v : Value} {b : List UInt8} (hs : a.eval sl = v) (hr : ByteRow w N v b) {s : ByteArray} (hx : a.eval x = .string s) (hne : 0 < s.size) (hN : N ≤ w.heap.size)
    (h63 : b.length + s.size ≤ 1000000000)
    (h : ∀ v' w', ByteRow w' N v' (b ++ s.data.toList) → OwnStep w v w' v' → K (a.put o.dst v') w') : if Region.wanted o (yielded ops a.tmps) = true then Oper.wp Tryd.prog o a w K Q else E := by
  have hw : Region.wanted o (yielded ops a.tmps) = true := by simp [Region.wanted, hgd]
  rw [if_pos hw]
  obtain ⟨v', w', hrun, h2, h3⟩ := run_apps (ty := o.type) hr s hne hN h63
  unfold Oper.wp execOp
  simp only [ho, resolve, invoke, builtin, Sem.run_bind, Sem.run_pure, Result.andThen_ok, List.map_toArray, List.map_cons, List.map_nil, hs, hx, hrun, Oper.upon]
  exact h v' w' h2 h3
end Go.Proofs.YtofmbpmmgpbdbaaDoor
