/- Rows of numbers that grow. -/
import Derived.Test.YthchkekegkhanaaDoorProg
import Derived.Test.YthchkekegkhanaaDoorMemZ
import Derived.Deep.AppendLies
import Derived.Deep.Upon
namespace Go.Proofs.YthchkekegkhanaaDoor
open Go.RowKit Go.Maps
set_option linter.unusedVariables false

def OwnStep (w : World) (v : Value) (w' : World) (v' : Value) : Prop :=
  Chg v.ownBlock.toList w w' ∧ (v'.ownBlock = v.ownBlock ∨ ∃ k, v'.ownBlock = some k ∧ w.heap.size ≤ k)
theorem OwnStep.refl (w : World) (v : Value) : OwnStep w v w v := ⟨Chg.refl _ _, .inl rfl⟩
theorem OwnStep.trans {w w1 w2 : World} {v v1 v2 : Value} (h : OwnStep w v w1 v1) (k : OwnStep w1 v1 w2 v2) : OwnStep w v w2 v2 := by
  obtain ⟨h1, h2⟩ := h
  obtain ⟨k1, k2⟩ := k
  have hs := h1.size
  refine ⟨⟨k1.os.trans h1.os, k1.tape.trans h1.tape, k1.output.trans h1.output, Nat.le_trans hs k1.size, fun i hi hn => ?_⟩, ?_⟩
  · refine (k1.block i (by omega) (fun hm => ?_)).trans (h1.block i hi hn)
    rcases h2 with e | ⟨j, e, hj⟩
    · rw [e] at hm; exact hn hm
    · rw [e] at hm; simp at hm; omega
  · rcases k2 with e | ⟨j, e, hj⟩
    · rcases h2 with e2 | ⟨j, e2, hj⟩
      · exact .inl (e.trans e2)
      · exact .inr ⟨j, e.trans e2, hj⟩
    · exact .inr ⟨j, e, by omega⟩
theorem OwnStep.made {w w' : World} (v : Value) (h : Below w.heap.size w w') : OwnStep w v w' v := ⟨⟨h.os, h.tape, h.output, h.size, fun i hi _ => h.block i hi⟩, .inl rfl⟩
theorem OwnStep.block {w w' : World} {v v' : Value} (h : OwnStep w v w' v') {i : Nat} (hi : i < w.heap.size) (hv : v.ownBlock ≠ some i) : w'.heap[i]? = w.heap[i]? := h.1.block i hi (by simpa using hv)
theorem OwnStep.apart {w w' : World} {v v' : Value} (h : OwnStep w v w' v') {i : Nat} (hi : i < w.heap.size) (hv : v.ownBlock ≠ some i) : v'.ownBlock ≠ some i := by
  rcases h.2 with e | ⟨k, e, hk⟩
  · rw [e]; exact hv
  · rw [e]; simp; omega
theorem OwnStep.size {w w' : World} {v v' : Value} (h : OwnStep w v w' v') : w.heap.size ≤ w'.heap.size := h.1.size
theorem OwnStep.below {w w' : World} {v v' : Value} {N : Nat} (h : OwnStep w v w' v') (hN : N ≤ w.heap.size) (hv : ∀ k, v.ownBlock = some k → N ≤ k) : Below N w w' := h.1.below hN (fun k hk => hv k (by simpa using hk))
theorem infoI : (Tryd.prog.info? 3).map (fun i => (i.zero, i.size, i.bytes)) = some (some (.int .i64 0), 1, 8) := by kernel_rfl
def ivals (l : List Int) : List Value := l.map (Value.int .i64)
theorem ivals_length (l : List Int) : (ivals l).length = l.length := by simp [ivals]
theorem ivals_append (a b : List Int) : ivals (a ++ b) = ivals a ++ ivals b := by simp [ivals]
theorem ivals_one (l : List Int) : ∀ u ∈ ivals l, u.oneCell' = true := by
  intro u hu
  obtain ⟨b, _, rfl⟩ := List.mem_map.1 hu
  rfl
/-- A row of numbers, all of it in blocks from N on. -/
def IRow (w : World) (N : Nat) (v : Value) (l : List Int) : Prop := Row w 3 v (ivals l) ∧ ∀ k, v.ownBlock = some k → N ≤ k
theorem IRow.nil (w : World) (N : Nat) : IRow w N (.slice none 0 0) [] := ⟨Row.nil _ _, fun k h => by simp [Value.ownBlock] at h⟩
theorem IRow.below {w w' : World} {N : Nat} {v : Value} {l : List Int} (h : IRow w N v l) (hb : Below w.heap.size w w') : IRow w' N v l :=
  ⟨h.1.chg (F := []) ⟨hb.os, hb.tape, hb.output, hb.size, fun i hi _ => hb.block i hi⟩ (fun _ _ => by simp), h.2⟩
theorem IRow.form {w : World} {N : Nat} {v : Value} {l : List Int} (h : IRow w N v l) : ∃ ao cap, v = .slice ao l.length cap ∧ l.length ≤ cap ∧ cap ≤ maxLen := by
  obtain ⟨ao, cap, hv, h1, h2, _⟩ := h.1.form
  rw [ivals_length] at hv h1
  exact ⟨ao, cap, hv, h1, h2⟩
theorem IRow.aside {w w' : World} {M : Nat} {v v' x : Value} {l : List Int} (h : IRow w M x l) (hs : OwnStep w v w' v') (hx : ∀ k, x.ownBlock = some k → v.ownBlock ≠ some k) : IRow w' M x l :=
  ⟨h.1.chg hs.1 (fun k hk => by simpa using hx k hk), h.2⟩
theorem IRow.one (w : World) (x : Int) : IRow (w.alloc (.cells #[.int .i64 x] 3)) w.heap.size (.slice (some ⟨w.heap.size, 0, none⟩) 1 1) [x] := by
  refine ⟨⟨rfl, .inr ⟨w.heap.size, 1, #[.int .i64 x], rfl, Nat.zero_le _, heap_alloc_new w _, Nat.le_refl _, by unfold maxLen; omega, rfl, rfl⟩⟩, fun k hk => by simp only [Value.ownBlock, Option.some.injEq] at hk; omega⟩

theorem run_appi {w : World} {ty : TypeId} {N M : Nat} {v x : Value} {l m : List Int} (hr : IRow w N v l) (hx : IRow w M x m) (hN : N ≤ w.heap.size) (h63 : l.length + m.length ≤ 1000000000) :
    ∃ v' w', (Builtin.append_ #[56, 56] ty #[v, x]).run Tryd.prog w = .ok v' w' ∧ IRow w' N v' (l ++ m) ∧ OwnStep w v w' v' := by
  obtain ⟨i0, hi, hz0, hz1, hz2⟩ := info_parts infoI
  have hll := ivals_length l
  have hml := ivals_length m
  rcases hx.1.shape with ⟨rfl, h0⟩ | ⟨gx, cx, rfl, h1, h2, h3⟩
  · have hm : m = [] := by simpa [ivals] using h0
    subst hm
    obtain ⟨ao, cap, rfl, hle, _⟩ := hr.form
    refine ⟨_, w, run_append_nothing w 56 56 ty 3 i0 Tryd.underlying56 hi ao l.length cap hle (.slice none 0 0) ?_, by rw [List.append_nil]; exact hr, OwnStep.refl _ _⟩
    exact Src.ofNil w Tryd.underlying56 0
  · rw [hml] at h1 hx ⊢
    by_cases hm : m = []
    · subst hm
      obtain ⟨ao, cap, rfl, hle, _⟩ := hr.form
      refine ⟨_, w, run_append_nothing w 56 56 ty 3 i0 Tryd.underlying56 hi ao l.length cap hle _ ?_, by rw [List.append_nil]; exact hr, OwnStep.refl _ _⟩
      exact Src.ofSlice w Tryd.underlying56 _ 0 _ [] (by simp) (fun j u hj => by simp at hj) (fun _ h => by cases h)
    · have hmp : 0 < m.length := by cases m; exact absurd rfl hm; simp
      have hown : w.ownsRow N 3 1 v l.length (ivals l) := by
        have h := hr.1
        unfold Row at h
        rw [hll] at h
        refine ⟨h.1, ?_⟩
        rcases h.2 with hn | ⟨g, cap, cur, rfl, _, rest⟩
        · exact .inl hn
        · exact .inr ⟨g, cap, cur, rfl, hr.2 g rfl, rest⟩
      obtain ⟨g, cap, w', hrun, hown', hgr, hloc, _⟩ := run_append_lies (P := Tryd.prog) w 56 ty N 3 i0 (.int .i64 0) 1 8 Tryd.underlying56 hi hz0 hz1 hz2 rfl (by decide) v l.length (ivals l) hown ⟨gx, 0, none⟩ m.length cx (ivals m) (by rw [hml, Nat.mul_one]) (fun j u hj => by
          have hj2 := (List.getElem?_eq_some_iff.1 hj).1
          rw [show (Addr.add ⟨gx, 0, none⟩ j) = ⟨gx, j, none⟩ by unfold Addr.add; split <;> simp_all]
          rw [hx.1.cellAt j hj2]; exact hj) (ivals_one m) hmp (by unfold maxLen; omega) (by omega) hN w.heap.size rfl
      refine ⟨_, w', hrun, ⟨?_, ?_⟩, (Chg.refl _ w).grown hgr (fun k hk => .inl (by simp [hk])), ?_⟩
      · unfold Row
        rw [← ivals_append] at hown'
        rw [ivals_length, List.length_append]
        refine ⟨hown'.1, ?_⟩
        rcases hown'.2 with hn | ⟨g, cap, cur, e, _, rest⟩
        · exact .inl hn
        · exact .inr ⟨g, cap, cur, e, Nat.zero_le _, rest⟩
      · intro k hk
        simp only [Value.ownBlock, Option.some.injEq] at hk
        subst hk
        rcases hloc with e | e
        · exact hr.2 _ e
        · omega
      · rcases hloc with e | e
        · exact .inl e.symm
        · exact .inr ⟨g, rfl, by omega⟩
theorem wpList_appi {w : World} {ops : Array Oper} {rest : List Oper} {o : Oper} {a : Act} {Q : Exit → Act → World → Prop} (hgd : o.guard = none) (sl x : Operand)
    (ho : o.op = .call { callee := .builtin .append, args := #[sl, x], argTypes := #[56, 56] }) {N M : Nat} {v vx : Value} {l m : List Int} (hs : a.eval sl = v) (hr : IRow w N v l) (hx : a.eval x = vx) (hrx : IRow w M vx m) (hN : N ≤ w.heap.size)
    (h63 : l.length + m.length ≤ 1000000000)
    (h : ∀ v' w', IRow w' N v' (l ++ m) → OwnStep w v w' v' → wpList Tryd.prog ops Q rest (a.put o.dst v') w') : wpList Tryd.prog ops Q (o :: rest) a w := by
  refine wpList_plain hgd fun K hK => ?_
  obtain ⟨v', w', hrun, h2, h3⟩ := run_appi (ty := o.type) hr hrx hN h63
  unfold Oper.wp execOp
  simp only [ho, resolve, invoke, builtin, Sem.run_bind, Sem.run_pure, Result.andThen_ok, List.map_toArray, List.map_cons, List.map_nil, hs, hx, hrun]
  exact hK _ _ (h v' w' h2 h3)
theorem step_appi {w : World} {ops : Array Oper} {o : Oper} {a : Act} {K : Act → World → Prop} {Q : Exit → Act → World → Prop} {E : Prop} (hgd : o.guard = none) (sl x : Operand)
    (ho : o.op = .call { callee := .builtin .append, args := #[sl, x], argTypes := #[56, 56] }) {N M : Nat} {v vx : Value} {l m : List Int} (hs : a.eval sl = v) (hr : IRow w N v l) (hx : a.eval x = vx) (hrx : IRow w M vx m) (hN : N ≤ w.heap.size)
    (h63 : l.length + m.length ≤ 1000000000)
    (h : ∀ v' w', IRow w' N v' (l ++ m) → OwnStep w v w' v' → K (a.put o.dst v') w') : if Region.wanted o (yielded ops a.tmps) = true then Oper.wp Tryd.prog o a w K Q else E := by
  have hw : Region.wanted o (yielded ops a.tmps) = true := by simp [Region.wanted, hgd]
  rw [if_pos hw]
  obtain ⟨v', w', hrun, h2, h3⟩ := run_appi (ty := o.type) hr hrx hN h63
  unfold Oper.wp execOp
  simp only [ho, resolve, invoke, builtin, Sem.run_bind, Sem.run_pure, Result.andThen_ok, List.map_toArray, List.map_cons, List.map_nil, hs, hx, hrun, Oper.upon]
  exact h v' w' h2 h3
end Go.Proofs.YthchkekegkhanaaDoor
