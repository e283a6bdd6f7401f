/- Layer 10: a step of the scanner. -/
import Derived.Test.YtlailomhgipppaaGreatDoorLexWalk4
import Derived.Test.YtlailomhgipppaaGreatDoorLast
namespace Go.Proofs.YtlailomhgipppaaGreatDoor
open Go.RowKit Lx
set_option linter.unusedVariables false
set_option linter.unusedSimpArgs false

def tcells : List Tok → List Value
  | [] => []
  | t :: l => .int .i64 t.kind :: .int .i64 t.line :: .int .i64 t.col :: .int .i64 t.num :: .string (bytes t.text) :: tcells l
theorem tcells_append : ∀ a b : List Tok, tcells (a ++ b) = tcells a ++ tcells b
  | [], _ => rfl
  | t :: l, b => by rw [List.cons_append, tcells, tcells, tcells_append l b]; rfl
theorem tcells_length : ∀ l : List Tok, (tcells l).length = l.length * 5
  | [] => rfl
  | t :: l => by rw [tcells, List.length_cons, List.length_cons, List.length_cons, List.length_cons, List.length_cons, tcells_length l, List.length_cons]; omega
theorem infoT : (Tryz.prog.info? 35).map (fun i => (i.zero, i.size, i.bytes)) = some (some (.agg #[.int .i64 0, .int .i64 0, .int .i64 0, .int .i64 0, .string ⟨#[]⟩]), 5, 48) := by kernel_rfl
/-- The scanner's state: all in blocks from N on. -/
structure LS (N : Nat) (w0 : World) (p : Nat) (src : ByteArray) (i : Nat) (q : Pos) (ts : List Tok) (vo : Value) (W : World) : Prop where
  sc : Sc W p src i q vo
  row : RowZ W 35 5 vo ts.length (tcells ts)
  own : ∀ k, vo.ownBlock = some k → N ≤ k ∧ k ≠ p
  hp : N ≤ p
  below : Below N w0 W
section
variable {N : Nat} {w0 W W' : World} {p i j : Nat} {src : ByteArray} {q q' : Pos} {ts : List Tok} {vo v' : Value}
theorem LS.next (h : LS N w0 p src i q ts vo W) (hs : Sc W' p src j q' vo) (hc : Chg [p] W W') : LS N w0 p src j q' ts vo W' := by
  have hn : N ≤ W.heap.size := Nat.le_trans h.hp (Nat.le_of_lt h.sc.lt)
  exact ⟨hs, h.row.chg hc (fun k hk => by have := (h.own k hk).2; simp [this]), h.own, h.hp, h.below.trans (hc.below hn (fun k hk => by simp at hk; subst hk; exact h.hp))⟩
theorem LS.later (h : LS N w0 p src i q ts vo W) (hb : Below W.heap.size W W') : LS N w0 p src i q ts vo W' := by
  have hn : N ≤ W.heap.size := Nat.le_trans h.hp (Nat.le_of_lt h.sc.lt)
  exact ⟨h.sc.below hb, h.row.below hb (fun k hk => h.row.lt hk), h.own, h.hp, h.below.trans (hb.mono hn)⟩
theorem LS.form (h : LS N w0 p src i q ts vo W) : ∃ ao cap, vo = .slice ao ts.length cap ∧ (ao = none ∨ ∃ g, ao = some ⟨g, 0, none⟩) := by
  rcases h.row.2 with ⟨h1, h2⟩ | ⟨g, cap, cur, h1, _⟩
  · exact ⟨none, 0, by rw [h1, h2], .inl rfl⟩
  · exact ⟨_, cap, h1, .inr ⟨g, rfl⟩⟩
/-- The row of tokens has grown by one. -/
theorem LS.pushed {W1 : World} {g cap : Nat} {t : Tok} (h : LS N w0 p src i q ts vo W) (hW : Below W.heap.size W W1) (hr : RowZ W' 35 5 (.slice (some ⟨g, 0, none⟩) (ts.length + 1) cap) (ts.length + 1) (tcells ts ++ tcells [t])) (hg : W1.grownBy W' vo.ownBlock) (hl : vo.ownBlock = some g ∨ g = W1.heap.size) :
    LS N w0 p src i q (ts ++ [t]) (.slice (some ⟨g, 0, none⟩) (ts.length + 1) cap) (W'.setCell ⟨p, 4, none⟩ (.slice (some ⟨g, 0, none⟩) (ts.length + 1) cap)) := by
  have hn : N ≤ W.heap.size := Nat.le_trans h.hp (Nat.le_of_lt h.sc.lt)
  have hp : p < W.heap.size := h.sc.lt
  have hs := hW.size
  have c1 : Chg vo.ownBlock.toList W W' := ((Chg.refl vo.ownBlock.toList W).thenBelow hW).grown hg (fun k hk => .inl (by simp [hk]))
  have hgp : g ≠ p ∧ N ≤ g := by
    rcases hl with e | e
    · exact ⟨(h.own g e).2, (h.own g e).1⟩
    · omega
  have hsc : Sc W' p src i q vo := h.sc.chg c1 (by
    intro hm
    have : vo.ownBlock = some p := by simpa using hm
    exact (h.own p this).2 rfl)
  have hset := chg_set W' p 4 (.slice (some ⟨g, 0, none⟩) (ts.length + 1) cap)
  refine ⟨?_, ?_, fun k hk => ?_, h.hp, ?_⟩
  · unfold Sc
    rw [set_block hsc]
    rfl
  · have := hr.chg hset (fun k hk => by simp only [Value.ownBlock, Option.some.injEq] at hk; subst hk; simp [hgp.1])
    rw [tcells_append, List.length_append]
    exact this
  · simp only [Value.ownBlock, Option.some.injEq] at hk
    subst hk
    exact ⟨hgp.2, hgp.1⟩
  · refine (h.below.trans (c1.below hn (fun k hk => (h.own k (by simpa using hk)).1))).trans (hset.below (Nat.le_trans hn c1.size) (fun k hk => by simp at hk; subst hk; exact h.hp))
theorem LS.kept {W1 : World} (h : LS N w0 p src i q ts vo W) (hW : Below W.heap.size W W1) (hg : W1.grownBy W' vo.ownBlock) {b : Nat} {x : Obj} (hb : b < W.heap.size) (hn : vo.ownBlock ≠ some b) (hx : W.heap[b]? = some x) : W'.heap[b]? = some x := by
  have c1 : Chg vo.ownBlock.toList W W' := ((Chg.refl vo.ownBlock.toList W).thenBelow hW).grown hg (fun k hk => .inl (by simp [hk]))
  exact (c1.block b hb (by simpa using hn)).trans hx
end
/-- 'append(out, t)' of a token that was just laid. -/
theorem step_appt {w : World} {ops : Array Oper} {o : Oper} {a : Act} {K : Act → World → Prop} {Q : Exit → Act → World → Prop} {E : Prop} (hgd : o.guard = none) (s x : Operand)
    (ho : o.op = .call { callee := .builtin .append, args := #[s, x], argTypes := #[24, 24] }) {v : Value} {n b : Nat} {xs : List Value} {t : Tok} (hs : a.eval s = v) (hr : RowZ w 35 5 v n xs) (hx : a.eval x = .slice (some ⟨b, 0, none⟩) 1 1)
    (hb : ∃ ty, w.heap[b]? = some (.cells #[.int .i64 t.kind, .int .i64 t.line, .int .i64 t.col, .int .i64 t.num, .string (bytes t.text)] ty (0, 0))) (h63 : n ≤ 1000000)
    (h : ∀ g cap w', RowZ w' 35 5 (.slice (some ⟨g, 0, none⟩) (n + 1) cap) (n + 1) (xs ++ tcells [t]) → w.grownBy w' v.ownBlock → (v.ownBlock = some g ∨ g = w.heap.size) → K (a.put o.dst (.slice (some ⟨g, 0, none⟩) (n + 1) cap)) w') : if Region.wanted o (yielded ops a.tmps) = true then Oper.wp Tryz.prog o a w K Q else E := by
  obtain ⟨ty, hb⟩ := hb
  obtain ⟨i0, hi, hz0, hz1, hz2⟩ := info_parts infoT
  refine step_append_lies w hgd s x 24 ho 0 35 i0 _ 5 48 Tryz.underlying24 hi hz0 hz1 hz2 rfl (by decide) v n xs hs hr ⟨b, 0, none⟩ 1 1 (tcells [t]) hx rfl (fun j u hj => ?_) (fun u hu => ?_) (by omega) (by unfold maxLen; omega) (by omega) (by omega) w.heap.size rfl (fun g cap w' a1 a2 a3 _ => h g cap w' a1 a2 a3)
  · exact World.news_of_block (cs := #[.int .i64 t.kind, .int .i64 t.line, .int .i64 t.col, .int .i64 t.num, .string (bytes t.text)]) (fr := (0, 0)) hb j u hj
  · simp only [tcells, List.mem_cons, List.not_mem_nil, or_false] at hu
    rcases hu with rfl | rfl | rfl | rfl | rfl <;> rfl
/-- The state with the box of where the token begins. -/
structure LB (N : Nat) (w0 : World) (p b : Nat) (q0 : Pos) (src : ByteArray) (i : Nat) (q : Pos) (ts : List Tok) (vo : Value) (W : World) : Prop where
  ls : LS N w0 p src i q ts vo W
  box : W.heap[b]? = some (.cells #[.int .i64 q0.1, .int .i64 q0.2] 26 (0, 0))
  ne : b ≠ p
  own : vo.ownBlock ≠ some b
section
variable {N : Nat} {w0 W W' : World} {p b i j : Nat} {src : ByteArray} {q q' q0 : Pos} {ts : List Tok} {vo v' : Value}
theorem LB.next (h : LB N w0 p b q0 src i q ts vo W) (hs : Sc W' p src j q' vo) (hc : Chg [p] W W') : LB N w0 p b q0 src j q' ts vo W' :=
  ⟨h.ls.next hs hc, (hc.block b (lt_of_block h.box) (by simp [h.ne])).trans h.box, h.ne, h.own⟩
theorem LB.later (h : LB N w0 p b q0 src i q ts vo W) (hb : Below W.heap.size W W') : LB N w0 p b q0 src i q ts vo W' :=
  ⟨h.ls.later hb, (hb.block b (lt_of_block h.box)).trans h.box, h.ne, h.own⟩
theorem LB.start (h : LS N w0 p src i q ts vo W) : LB N w0 p W.heap.size q src i q ts vo (W.alloc (.cells #[.int .i64 q.1, .int .i64 q.2] 26)).drew := by
  refine ⟨h.later ((Below.refl _ _).alloc (Nat.le_refl _) _).drew, heap_alloc_new W _, by have := h.sc.lt; omega, fun e => ?_⟩
  have := h.row.lt e
  omega
theorem LB.cells (h : LB N w0 p b q0 src i q ts vo W) : W.cell? ⟨b, 0, none⟩ = some (.int .i64 q0.1) ∧ W.cell? ⟨b, 1, none⟩ = some (.int .i64 q0.2) ∧ W.cell? ⟨p, 0, none⟩ = some (.string src) ∧ W.cell? ⟨p, 1, none⟩ = some (.int .i64 i) ∧ W.cell? ⟨p, 4, none⟩ = some vo :=
  ⟨by simp [World.cell?, h.box], by simp [World.cell?, h.box], h.ls.sc.c0, h.ls.sc.c1, h.ls.sc.c4⟩
end
def StepEnd (N : Nat) (w0 : World) (p : Nat) (src : ByteArray) (ts : List Tok) (R : Except Pos (List UInt8 × Pos × List Tok)) (e : Ending) (w' : World) : Prop := match R with
  | .error x => e = thrown x ∧ Below N w0 w'
  | .ok (r, q, t) => e = .returned (.tuple #[]) ∧ ∃ i vo, i ≤ src.size ∧ src.data.toList.drop i = r ∧ PosOk i q ∧ LS N w0 p src i q (ts ++ t) vo w'
end Go.Proofs.YtlailomhgipppaaGreatDoor
