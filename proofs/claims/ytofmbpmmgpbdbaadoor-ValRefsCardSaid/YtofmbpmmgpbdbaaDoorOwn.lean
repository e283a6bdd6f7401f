/- A row of bytes that grows while all else stays. -/
import Derived.Test.YtofmbpmmgpbdbaaDoorEncPlain
namespace Go.Proofs.YtofmbpmmgpbdbaaDoor
open Go.RowKit Go.Maps Wr

/-- From w to w' nothing but v's own block has turned; v' lies there, or in a new block. -/
def OwnStep (w : World) (v : Value) (w' : World) (v' : Value) : Prop :=
  Chg v.ownBlock.toList w w' ∧ (v'.ownBlock = v.ownBlock ∨ ∃ k, v'.ownBlock = some k ∧ w.heap.size ≤ k)
theorem OwnStep.refl (w : World) (v : Value) : OwnStep w v w v := ⟨Chg.refl _ _, .inl rfl⟩
theorem OwnStep.trans {w w1 w2 : World} {v v1 v2 : Value} (h : OwnStep w v w1 v1) (k : OwnStep w1 v1 w2 v2) : OwnStep w v w2 v2 := by
  obtain ⟨h1, h2⟩ := h
  obtain ⟨k1, k2⟩ := k
  have hs := h1.size
  refine ⟨⟨k1.os.trans h1.os, k1.tape.trans h1.tape, k1.output.trans h1.output, Nat.le_trans hs k1.size, fun i hi hn => ?_⟩, ?_⟩
  · refine (k1.block i (by omega) (fun hm => ?_)).trans (h1.block i hi hn)
    rcases h2 with e | ⟨j, e, hj⟩
    · rw [e] at hm; exact hn hm
    · rw [e] at hm; simp at hm; omega
  · rcases k2 with e | ⟨j, e, hj⟩
    · rcases h2 with e2 | ⟨j, e2, hj⟩
      · exact .inl (e.trans e2)
      · exact .inr ⟨j, e.trans e2, hj⟩
    · exact .inr ⟨j, e, by omega⟩
theorem OwnStep.made {w w' : World} (v : Value) (h : Below w.heap.size w w') : OwnStep w v w' v := ⟨⟨h.os, h.tape, h.output, h.size, fun i hi _ => h.block i hi⟩, .inl rfl⟩
theorem OwnStep.block {w w' : World} {v v' : Value} (h : OwnStep w v w' v') {i : Nat} (hi : i < w.heap.size) (hv : v.ownBlock ≠ some i) : w'.heap[i]? = w.heap[i]? := h.1.block i hi (by simpa using hv)
theorem OwnStep.apart {w w' : World} {v v' : Value} (h : OwnStep w v w' v') {i : Nat} (hi : i < w.heap.size) (hv : v.ownBlock ≠ some i) : v'.ownBlock ≠ some i := by
  rcases h.2 with e | ⟨k, e, hk⟩
  · rw [e]; exact hv
  · rw [e]; simp; omega
theorem OwnStep.size {w w' : World} {v v' : Value} (h : OwnStep w v w' v') : w.heap.size ≤ w'.heap.size := h.1.size
theorem OwnStep.below {w w' : World} {v v' : Value} {N : Nat} (h : OwnStep w v w' v') (hN : N ≤ w.heap.size) (hv : ∀ k, v.ownBlock = some k → N ≤ k) : Below N w w' := h.1.below hN (fun k hk => hv k (by simpa using hk))
theorem ValIs.own {w w' : World} {v v' x : Value} {P : Nat → Prop} {t : VT} (h : ValIs w P t x) (hs : OwnStep w v w' v') (hP : ∀ b, P b → b < w.heap.size ∧ v.ownBlock ≠ some b) : ValIs w' P t x :=
  h.chg hs.1 (fun b hb => ⟨(hP b hb).1, by simpa using (hP b hb).2⟩)

theorem ByteRow.shape {w : World} {N : Nat} {v : Value} {l : List UInt8} (h : ByteRow w N v l) (hne : l ≠ []) : ∃ g cap, v = .slice (some ⟨g, 0, none⟩) l.length cap ∧ g < w.heap.size := by
  rcases h.1.shape with ⟨_, hn⟩ | ⟨g, cap, hv, _, _, hg⟩
  · exfalso
    have := congrArg List.length hn
    rw [bvals_length] at this
    exact hne (List.length_eq_zero_iff.1 this)
  · exact ⟨g, cap, by rw [hv, bvals_length], hg⟩
theorem ByteRow.form {w : World} {N : Nat} {v : Value} {l : List UInt8} (h : ByteRow w N v l) : ∃ ao cap, v = .slice ao l.length cap ∧ l.length ≤ cap ∧ cap ≤ maxLen := by
  obtain ⟨ao, cap, hv, h1, h2, _⟩ := h.1.form
  rw [bvals_length] at hv h1
  exact ⟨ao, cap, hv, h1, h2⟩

/-- 'append(b, x...)' of bytes that were just made. -/
theorem wpList_appb {w : World} {ops : Array Oper} {rest : List Oper} {o : Oper} {a : Act} {Q : Exit → Act → World → Prop} (hgd : o.guard = none) (s x : Operand)
    (ho : o.op = .call { callee := .builtin .append, args := #[s, x], argTypes := #[29, 29] }) {N M : Nat} {v vx : Value} {b l : List UInt8} (hs : a.eval s = v) (hr : ByteRow w N v b) (hx : a.eval x = vx) (hrx : ByteRow w M vx l) (hne : l ≠ []) (hN : N ≤ w.heap.size)
    (h63 : b.length + l.length ≤ 1000000000)
    (h : ∀ v' w', ByteRow w' N v' (b ++ l) → OwnStep w v w' v' → wpList Tryd.prog ops Q rest (a.put o.dst v') w') : wpList Tryd.prog ops Q (o :: rest) a w := by
  obtain ⟨i0, hi, hz0, hz1, hz2⟩ := info_parts infoB
  obtain ⟨g, cap, hvx, hg⟩ := hrx.shape hne
  have hrow := hrx.1
  rw [hvx] at hrow
  refine wpList_append_own_at w hgd s x 29 ho N 5 i0 (.int .u8 0) 1 1 Tryd.underlying29 hi hz0 hz1 hz2 rfl (by decide) v b.length (bvals b) hs hr.owns ⟨g, 0, none⟩ l.length cap (bvals l) (by rw [hx, hvx]) (by rw [bvals_length, Nat.mul_one]) (fun j u hj => ?_) (bvals_one l) (by unfold maxLen; omega) (by omega) hN ?_
  · have hj2 := (List.getElem?_eq_some_iff.1 hj).1
    rw [show (Addr.add ⟨g, 0, none⟩ j) = ⟨g, j, none⟩ by unfold Addr.add; split <;> simp_all]
    rw [hrow.cellAt j hj2]; exact hj
  · intro v' w' hown hgr _ hloc
    rw [← bvals_append] at hown
    refine h v' w' (ByteRow.of hown (by rw [List.length_append])) ⟨(Chg.refl _ w).grown hgr (fun k hk => .inl (by simp [hk])), ?_⟩
    rcases hloc with e | e
    · exact .inl e
    · exact .inr ⟨_, e, Nat.le_refl _⟩
end Go.Proofs.YtofmbpmmgpbdbaaDoor
