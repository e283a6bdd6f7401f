/- Steps of a region that draws its order: a call that makes memory, an append of bytes that were just made. -/
import Derived.Test.YtofmbpmmgpbdbaaDoorOwn
import Derived.Deep.AppendLies
namespace Go.Proofs.YtofmbpmmgpbdbaaDoor
open Go.RowKit Go.Maps Wr

theorem step_callw {P : Program} {ops : Array Oper} {o : Oper} {a : Act} {w : World} {K : Act → World → Prop} {Q : Exit → Act → World → Prop} {E : Prop} {R : Ending → World → Prop} (hgd : o.guard = none) (f : FuncId) (args : Array Value)
    (hrun : (execOp a.eval o).run P w = .ok (.enter f args) w) (hc : Calls P f args w R) (hK : ∀ e w', R e w' → ∃ v, e = .returned v ∧ K (a.put o.dst v) w') : if Region.wanted o (yielded ops a.tmps) = true then Oper.wp P o a w K Q else E := by
  have hw : Region.wanted o (yielded ops a.tmps) = true := by simp [Region.wanted, hgd]
  rw [if_pos hw]
  unfold Oper.wp
  rw [hrun]
  simp only [Oper.upon]
  refine hc.mono ?_
  intro e w' h
  obtain ⟨v, rfl, hk⟩ := hK e w' h
  exact hk

theorem step_appb {w : World} {ops : Array Oper} {o : Oper} {a : Act} {K : Act → World → Prop} {Q : Exit → Act → World → Prop} {E : Prop} (hgd : o.guard = none) (s x : Operand)
    (ho : o.op = .call { callee := .builtin .append, args := #[s, x], argTypes := #[29, 29] }) {N M : Nat} {v vx : Value} {b l : List UInt8} (hs : a.eval s = v) (hr : ByteRow w N v b) (hx : a.eval x = vx) (hrx : ByteRow w M vx l) (hne : l ≠ []) (hN : N ≤ w.heap.size)
    (h63 : b.length + l.length ≤ 1000000000)
    (h : ∀ v' w', ByteRow w' N v' (b ++ l) → OwnStep w v w' v' → K (a.put o.dst v') w') : if Region.wanted o (yielded ops a.tmps) = true then Oper.wp Tryd.prog o a w K Q else E := by
  obtain ⟨i0, hi, hz0, hz1, hz2⟩ := info_parts infoB
  obtain ⟨g, cap, hvx, hg⟩ := hrx.shape hne
  have hrow := hrx.1
  rw [hvx] at hrow
  have hlp : 0 < l.length := by cases l; exact absurd rfl hne; simp
  refine step_append_lies w hgd s x 29 ho N 5 i0 (.int .u8 0) 1 1 Tryd.underlying29 hi hz0 hz1 hz2 rfl (by decide) v b.length (bvals b) hs hr.owns ⟨g, 0, none⟩ l.length cap (bvals l) (by rw [hx, hvx]) (by rw [bvals_length, Nat.mul_one]) (fun j u hj => ?_) (bvals_one l) hlp (by unfold maxLen; omega) (by omega) hN w.heap.size rfl ?_
  · have hj2 := (List.getElem?_eq_some_iff.1 hj).1
    rw [show (Addr.add ⟨g, 0, none⟩ j) = ⟨g, j, none⟩ by unfold Addr.add; split <;> simp_all]
    rw [hrow.cellAt j hj2]; exact hj
  · intro g' cap' w' hown hgr hloc _
    rw [← bvals_append] at hown
    refine h _ w' (ByteRow.of hown (by rw [List.length_append])) ⟨(Chg.refl _ w).grown hgr (fun k hk => .inl (by simp [hk])), ?_⟩
    rcases hloc with e | e
    · exact .inl e.symm
    · exact .inr ⟨g', rfl, by omega⟩
end Go.Proofs.YtofmbpmmgpbdbaaDoor
