/- Rows of bytes that grow, and what they are as a text. -/
import Derived.Test.YtlailomhgipppaaGreatDoorProg
import Derived.Test.YtlailomhgipppaaGreatDoorMemZ
import Derived.Lib.AppendStr
import Derived.Deep.AppendLies
import Derived.Laws.IdiomStrings
import Derived.Laws.Concat
import Derived.Lib.ConvBytes
import Derived.Laws.Strings3
namespace Go.Proofs.YtlailomhgipppaaGreatDoor
open Go.RowKit Go.Maps Go.ChangeShapes Go.WideShapes
set_option linter.unusedVariables false
set_option linter.unusedSimpArgs false

def bytes (l : List UInt8) : ByteArray := ⟨l.toArray⟩
theorem bytes_size (l : List UInt8) : (bytes l).size = l.length := by simp [bytes, ByteArray.size]
theorem bytes_append (a b : List UInt8) : bytes a ++ bytes b = bytes (a ++ b) := by
  apply Go.WideShapes.bytes_inj
  simp [bytes]
theorem infoB : (Tryz.prog.info? 5).map (fun i => (i.zero, i.size, i.bytes)) = some (some (.int .u8 0), 1, 1) := by kernel_rfl
def bvals (l : List UInt8) : List Value := l.map fun b => Value.int .u8 (b.toNat : Int)
theorem bvals_length (l : List UInt8) : (bvals l).length = l.length := by simp [bvals]
theorem bvals_append (a b : List UInt8) : bvals (a ++ b) = bvals a ++ bvals b := by simp [bvals]
theorem bvals_one (l : List UInt8) : ∀ u ∈ bvals l, u.oneCell' = true := by
  intro u hu
  obtain ⟨b, _, rfl⟩ := List.mem_map.1 hu
  rfl
/-- A row of bytes, all of it in blocks from N on. -/
def ByteRow (w : World) (N : Nat) (v : Value) (l : List UInt8) : Prop := Row w 5 v (bvals l) ∧ ∀ k, v.ownBlock = some k → N ≤ k
theorem ByteRow.app {wr w1 : World} {N g cap : Nat} {v : Value} {pre : List UInt8} {x : Int} {c : UInt8} {o : Obj} (h : ByteRow wr N v pre) (hN : N ≤ wr.heap.size) (hr1 : Row w1 5 (.slice (some ⟨g, 0, none⟩) ((bvals pre).length + 1) cap) (bvals pre ++ [.int .u8 x])) (hg : (wr.alloc o).grownBy w1 v.ownBlock)
    (hl : v.ownBlock = some g ∨ g = (wr.alloc o).heap.size) (hx : x = (c.toNat : Int)) : ByteRow w1 N (.slice (some ⟨g, 0, none⟩) ((bvals pre).length + 1) cap) (pre ++ [c]) ∧ Below N wr w1 := by
  subst hx
  refine ⟨⟨?_, fun k hk => ?_⟩, ?_⟩
  · rw [bvals_append]; exact hr1
  · simp only [Value.ownBlock, Option.some.injEq] at hk
    subst hk
    rcases hl with e | e
    · exact h.2 _ e
    · simp at e; omega
  · have hc : Chg v.ownBlock.toList wr w1 := ((Chg.refl _ wr).alloc o).grown hg (fun k hk => .inl (by simp [hk]))
    exact hc.below hN (fun k hk => h.2 k (by simpa using hk))
theorem ByteRow.owns {w : World} {N : Nat} {v : Value} {l : List UInt8} (h : ByteRow w N v l) : w.ownsRow N 5 1 v l.length (bvals l) := by
  obtain ⟨h1, h2⟩ := h
  have hl := bvals_length l
  unfold Row at h1
  rw [hl] at h1
  refine ⟨h1.1, ?_⟩
  rcases h1.2 with hn | ⟨g, cap, cur, rfl, _, rest⟩
  · exact .inl hn
  · exact .inr ⟨g, cap, cur, rfl, h2 g rfl, rest⟩
theorem ByteRow.of {w : World} {N : Nat} {v : Value} {l : List UInt8} {n : Nat} (h : w.ownsRow N 5 1 v n (bvals l)) (hn : n = l.length) : ByteRow w N v l := by
  subst hn
  have hl := bvals_length l
  refine ⟨?_, fun k hk => ?_⟩
  · unfold Row
    rw [hl]
    refine ⟨h.1, ?_⟩
    rcases h.2 with hn | ⟨g, cap, cur, rfl, _, rest⟩
    · exact .inl hn
    · exact .inr ⟨g, cap, cur, rfl, Nat.zero_le _, rest⟩
  · rcases h.2 with ⟨rfl, _⟩ | ⟨g, cap, cur, rfl, hb, rest⟩
    · simp [Value.ownBlock] at hk
    · simp only [Value.ownBlock, Option.some.injEq] at hk; omega
theorem ByteRow.lt {w : World} {N : Nat} {v : Value} {l : List UInt8} (h : ByteRow w N v l) {k : Nat} (hk : v.ownBlock = some k) : k < w.heap.size := h.1.lt hk
/-- New blocks, and turns elsewhere. -/
theorem ByteRow.below {w w' : World} {N : Nat} {v : Value} {l : List UInt8} (h : ByteRow w N v l) (hb : Below w.heap.size w w') : ByteRow w' N v l :=
  ⟨h.1.chg (F := []) ⟨hb.os, hb.tape, hb.output, hb.size, fun i hi _ => hb.block i hi⟩ (fun _ _ => by simp), h.2⟩ 
theorem strCells_bvals (s : ByteArray) : Lib.strCells s = bvals s.data.toList := by
  unfold Lib.strCells bvals; rfl
/-- From w to w' nothing but v's own block has turned; v' lies there, or in a new block. -/
def OwnStep (w : World) (v : Value) (w' : World) (v' : Value) : Prop :=
  Chg v.ownBlock.toList w w' ∧ (v'.ownBlock = v.ownBlock ∨ ∃ k, v'.ownBlock = some k ∧ w.heap.size ≤ k)
theorem OwnStep.refl (w : World) (v : Value) : OwnStep w v w v := ⟨Chg.refl _ _, .inl rfl⟩
theorem OwnStep.trans {w w1 w2 : World} {v v1 v2 : Value} (h : OwnStep w v w1 v1) (k : OwnStep w1 v1 w2 v2) : OwnStep w v w2 v2 := by
  obtain ⟨h1, h2⟩ := h
  obtain ⟨k1, k2⟩ := k
  have hs := h1.size
  refine ⟨⟨k1.os.trans h1.os, k1.tape.trans h1.tape, k1.output.trans h1.output, Nat.le_trans hs k1.size, fun i hi hn => ?_⟩, ?_⟩
  · refine (k1.block i (by omega) (fun hm => ?_)).trans (h1.block i hi hn)
    rcases h2 with e | ⟨j, e, hj⟩
    · rw [e] at hm; exact hn hm
    · rw [e] at hm; simp at hm; omega
  · rcases k2 with e | ⟨j, e, hj⟩
    · rcases h2 with e2 | ⟨j, e2, hj⟩
      · exact .inl (e.trans e2)
      · exact .inr ⟨j, e.trans e2, hj⟩
    · exact .inr ⟨j, e, by omega⟩
theorem OwnStep.made {w w' : World} (v : Value) (h : Below w.heap.size w w') : OwnStep w v w' v := ⟨⟨h.os, h.tape, h.output, h.size, fun i hi _ => h.block i hi⟩, .inl rfl⟩
theorem OwnStep.block {w w' : World} {v v' : Value} (h : OwnStep w v w' v') {i : Nat} (hi : i < w.heap.size) (hv : v.ownBlock ≠ some i) : w'.heap[i]? = w.heap[i]? := h.1.block i hi (by simpa using hv)
theorem OwnStep.apart {w w' : World} {v v' : Value} (h : OwnStep w v w' v') {i : Nat} (hi : i < w.heap.size) (hv : v.ownBlock ≠ some i) : v'.ownBlock ≠ some i := by
  rcases h.2 with e | ⟨k, e, hk⟩
  · rw [e]; exact hv
  · rw [e]; simp; omega
theorem OwnStep.size {w w' : World} {v v' : Value} (h : OwnStep w v w' v') : w.heap.size ≤ w'.heap.size := h.1.size
theorem OwnStep.below {w w' : World} {v v' : Value} {N : Nat} (h : OwnStep w v w' v') (hN : N ≤ w.heap.size) (hv : ∀ k, v.ownBlock = some k → N ≤ k) : Below N w w' := h.1.below hN (fun k hk => hv k (by simpa using hk))
theorem ByteRow.shape {w : World} {N : Nat} {v : Value} {l : List UInt8} (h : ByteRow w N v l) (hne : l ≠ []) : ∃ g cap, v = .slice (some ⟨g, 0, none⟩) l.length cap ∧ g < w.heap.size := by
  rcases h.1.shape with ⟨_, hn⟩ | ⟨g, cap, hv, _, _, hg⟩
  · exfalso
    have := congrArg List.length hn
    rw [bvals_length] at this
    exact hne (List.length_eq_zero_iff.1 this)
  · exact ⟨g, cap, by rw [hv, bvals_length], hg⟩
theorem ByteRow.form {w : World} {N : Nat} {v : Value} {l : List UInt8} (h : ByteRow w N v l) : ∃ ao cap, v = .slice ao l.length cap ∧ l.length ≤ cap ∧ cap ≤ maxLen := by
  obtain ⟨ao, cap, hv, h1, h2, _⟩ := h.1.form
  rw [bvals_length] at hv h1
  exact ⟨ao, cap, hv, h1, h2⟩
/-- 'append(b, x...)' of bytes that were just made. -/
theorem wpList_appb {w : World} {ops : Array Oper} {rest : List Oper} {o : Oper} {a : Act} {Q : Exit → Act → World → Prop} (hgd : o.guard = none) (s x : Operand)
    (ho : o.op = .call { callee := .builtin .append, args := #[s, x], argTypes := #[42, 42] }) {N M : Nat} {v vx : Value} {b l : List UInt8} (hs : a.eval s = v) (hr : ByteRow w N v b) (hx : a.eval x = vx) (hrx : ByteRow w M vx l) (hne : l ≠ []) (hN : N ≤ w.heap.size)
    (h63 : b.length + l.length ≤ 1000000000)
    (h : ∀ v' w', ByteRow w' N v' (b ++ l) → OwnStep w v w' v' → wpList Tryz.prog ops Q rest (a.put o.dst v') w') : wpList Tryz.prog ops Q (o :: rest) a w := by
  obtain ⟨i0, hi, hz0, hz1, hz2⟩ := info_parts infoB
  obtain ⟨g, cap, hvx, hg⟩ := hrx.shape hne
  have hrow := hrx.1
  rw [hvx] at hrow
  refine wpList_append_own_at w hgd s x 42 ho N 5 i0 (.int .u8 0) 1 1 Tryz.underlying42 hi hz0 hz1 hz2 rfl (by decide) v b.length (bvals b) hs hr.owns ⟨g, 0, none⟩ l.length cap (bvals l) (by rw [hx, hvx]) (by rw [bvals_length, Nat.mul_one]) (fun j u hj => ?_) (bvals_one l) (by unfold maxLen; omega) (by omega) hN ?_
  · have hj2 := (List.getElem?_eq_some_iff.1 hj).1
    rw [show (Addr.add ⟨g, 0, none⟩ j) = ⟨g, j, none⟩ by unfold Addr.add; split <;> simp_all]
    rw [hrow.cellAt j hj2]; exact hj
  · intro v' w' hown hgr _ hloc
    rw [← bvals_append] at hown
    refine h v' w' (ByteRow.of hown (by rw [List.length_append])) ⟨(Chg.refl _ w).grown hgr (fun k hk => .inl (by simp [hk])), ?_⟩
    rcases hloc with e | e
    · exact .inl e
    · exact .inr ⟨_, e, Nat.le_refl _⟩
theorem step_callw {P : Program} {ops : Array Oper} {o : Oper} {a : Act} {w : World} {K : Act → World → Prop} {Q : Exit → Act → World → Prop} {E : Prop} {R : Ending → World → Prop} (hgd : o.guard = none) (f : FuncId) (args : Array Value)
    (hrun : (execOp a.eval o).run P w = .ok (.enter f args) w) (hc : Calls P f args w R) (hK : ∀ e w', R e w' → ∃ v, e = .returned v ∧ K (a.put o.dst v) w') : if Region.wanted o (yielded ops a.tmps) = true then Oper.wp P o a w K Q else E := by
  have hw : Region.wanted o (yielded ops a.tmps) = true := by simp [Region.wanted, hgd]
  rw [if_pos hw]
  unfold Oper.wp
  rw [hrun]
  simp only [Oper.upon]
  refine hc.mono ?_
  intro e w' h
  obtain ⟨v, rfl, hk⟩ := hK e w' h
  exact hk
theorem step_appb {w : World} {ops : Array Oper} {o : Oper} {a : Act} {K : Act → World → Prop} {Q : Exit → Act → World → Prop} {E : Prop} (hgd : o.guard = none) (s x : Operand)
    (ho : o.op = .call { callee := .builtin .append, args := #[s, x], argTypes := #[42, 42] }) {N M : Nat} {v vx : Value} {b l : List UInt8} (hs : a.eval s = v) (hr : ByteRow w N v b) (hx : a.eval x = vx) (hrx : ByteRow w M vx l) (hne : l ≠ []) (hN : N ≤ w.heap.size)
    (h63 : b.length + l.length ≤ 1000000000)
    (h : ∀ v' w', ByteRow w' N v' (b ++ l) → OwnStep w v w' v' → K (a.put o.dst v') w') : if Region.wanted o (yielded ops a.tmps) = true then Oper.wp Tryz.prog o a w K Q else E := by
  obtain ⟨i0, hi, hz0, hz1, hz2⟩ := info_parts infoB
  obtain ⟨g, cap, hvx, hg⟩ := hrx.shape hne
  have hrow := hrx.1
  rw [hvx] at hrow
  have hlp : 0 < l.length := by cases l; exact absurd rfl hne; simp
  refine step_append_lies w hgd s x 42 ho N 5 i0 (.int .u8 0) 1 1 Tryz.underlying42 hi hz0 hz1 hz2 rfl (by decide) v b.length (bvals b) hs hr.owns ⟨g, 0, none⟩ l.length cap (bvals l) (by rw [hx, hvx]) (by rw [bvals_length, Nat.mul_one]) (fun j u hj => ?_) (bvals_one l) hlp (by unfold maxLen; omega) (by omega) hN w.heap.size rfl ?_
  · have hj2 := (List.getElem?_eq_some_iff.1 hj).1
    rw [show (Addr.add ⟨g, 0, none⟩ j) = ⟨g, j, none⟩ by unfold Addr.add; split <;> simp_all]
    rw [hrow.cellAt j hj2]; exact hj
  · intro g' cap' w' hown hgr hloc _
    rw [← bvals_append] at hown
    refine h _ w' (ByteRow.of hown (by rw [List.length_append])) ⟨(Chg.refl _ w).grown hgr (fun k hk => .inl (by simp [hk])), ?_⟩
    rcases hloc with e | e
    · exact .inl e.symm
    · exact .inr ⟨g', rfl, by omega⟩
/-- 'string(b)' of a row of bytes. -/
theorem run_row_str {w : World} {N : Nat} {v : Value} {b : List UInt8} (h : ByteRow w N v b) (hne : b ≠ []) : (convert 42 9 v).run Tryz.prog w = .ok (.string (bytes b)) w := by
  obtain ⟨g, cap, rfl, hg⟩ := h.shape hne
  have hrow := h.1
  have hl : b.toArray.size = b.length := by simp
  have := run_convert_bytes_back (P := Tryz.prog) w 42 9 5 ⟨g, 0, none⟩ cap b Tryz.underlying42 Tryz.underlying5 Tryz.underlying9 (fun j hj => by
    rw [show (Addr.add ⟨g, 0, none⟩ j) = ⟨g, j, none⟩ by unfold Addr.add; split <;> simp_all]
    rw [hrow.cellAt j (by rw [bvals_length]; exact hj)]
    simp [bvals, List.getElem?_eq_getElem hj])
  exact this
/-- Bytes that were just made. -/
theorem new_row (w : World) (l : List UInt8) (cs : Array Value) (h : cs.toList = bvals l) (hl : l.length ≤ 1000000) : ByteRow (w.alloc (.cells cs 5)) w.heap.size (.slice (some ⟨w.heap.size, 0, none⟩) l.length l.length) l := by
  have hb := bvals_length l
  refine ByteRow.of (n := l.length) ⟨by rw [hb, Nat.mul_one], .inr ⟨w.heap.size, l.length, cs, rfl, Nat.le_refl _, heap_alloc_new w _, Nat.le_refl _, by unfold maxLen; omega, ?_, ?_⟩⟩ rfl
  · rw [← Array.length_toList, h, hb, Nat.mul_one]
  · rw [h, Nat.mul_one, ← hb, List.take_length]
end Go.Proofs.YtlailomhgipppaaGreatDoor
