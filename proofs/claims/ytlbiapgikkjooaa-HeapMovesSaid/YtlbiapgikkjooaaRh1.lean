/- The reference's heap: rows of words, objects, pins; 'append' to a row out of any source. -/
import Derived.Test.YtlbiapgikkjooaaMineR
import Derived.Test.YtlbiapgikkjooaaRaw2
import Derived.Test.YtlbiapgikkjooaaMemZ
import Derived.Deep.AppendSrc
import Derived.Deep.AppendLies
import Derived.Deep.Upon
namespace Go.Proofs.Ytlbiapgikkjooaa
open Go.RowKit Go.Maps Hp
set_option linter.unusedSimpArgs false
set_option linter.unusedSectionVars false
set_option linter.unusedVariables false

theorem infoRef : (Try.prog.info? 27).map (fun i => (i.zero, i.size, i.bytes)) = some (some (.agg #[.bool false, .int .i64 0]), 2, 16) := by kernel_rfl
theorem infoOb : (Try.prog.info? 82).map (fun i => (i.zero, i.size, i.bytes)) = some (some (.agg #[.int .i64 0, .slice none 0 0, .bool false, .string ⟨#[]⟩]), 4, 56) := by kernel_rfl
theorem infoPin : (Try.prog.info? 84).map (fun i => (i.zero, i.size, i.bytes)) = some (some (.agg #[.int .i64 0, .bool false, .int .i64 0]), 3, 24) := by kernel_rfl

/-- What an append takes: m elements, their cells. -/
def Gives (w : World) (x : Value) (m : Nat) (news : List Value) : Prop :=
  (x = .slice none 0 0 ∧ m = 0 ∧ news = []) ∨ ∃ ad c, x = .slice (some ad) m c ∧ ∀ j u, news[j]? = some u → w.cell? (ad.add j) = some u
/-- What an append leaves. -/
def Appended (w : World) (v : Value) (w' : World) (v' : Value) : Prop := w.grownBy w' v.ownBlock ∧ (v'.ownBlock = v.ownBlock ∨ v'.ownBlock = some w.heap.size)
section
variable {P : Program}
theorem run_apps {w : World} (t ty : TypeId) {e : TypeId} {z : Value} {sz bytes : Nat} (ht : P.underlying t = some (.slice e)) (hi : (P.info? e).map (fun i => (i.zero, i.size, i.bytes)) = some (some z, sz, bytes)) (hzs : z.cells.size = sz) (hsz : 0 < sz)
    {v : Value} {n : Nat} {xs : List Value} (hr : RowZ w e sz v n xs) {x : Value} {m : Nat} {news : List Value} (hx : Gives w x m news) (hl : news.length = m * sz) (h1 : ∀ u ∈ news, u.oneCell' = true) (h63 : n + m ≤ 1099511627776) (hb : bytes ≤ 100) :
    ∃ v' w', (Builtin.append_ #[t, t] ty #[v, x]).run P w = .ok v' w' ∧ RowZ w' e sz v' (n + m) (xs ++ news) ∧ Appended w v w' v' := by
  obtain ⟨i0, hi, hz0, hz1, hz2⟩ := info_parts hi
  rcases hx with ⟨rfl, rfl, rfl⟩ | ⟨ad, c, rfl, hc⟩
  · refine ⟨v, w, ?_, by rw [List.append_nil]; exact hr, ⟨World.grownBy.refl _ _, .inl rfl⟩⟩
    obtain ⟨ao, cap, rfl, hle, _⟩ := hr.form
    exact run_append_nothing w t t ty e i0 ht hi ao n cap hle (.slice none 0 0) ⟨.inl ⟨e, ht⟩, fun _ => by simp [Builtin.lenOf], by simp [Builtin.firstCells], by simp [Builtin.firstCells], by simp, by simp⟩
  · have hby : (n + m) * bytes ≤ 140737488355328 := Nat.le_trans (Nat.mul_le_mul h63 hb) (by decide)
    obtain ⟨v', w', h2, h3, h4, _, h5⟩ := run_append_own_at (P := P) w 0 t ty e i0 z sz bytes ht hi hz0 hz1 hz2 hzs hsz v n xs hr ad m c news hl hc h1 (by unfold maxLen; omega) hby (Nat.zero_le _)
    exact ⟨v', w', h2, h3, h4, h5⟩
end
theorem Gives.of_row {w : World} {e : TypeId} {sz n : Nat} {x : Value} {xs : List Value} (h : RowZ w e sz x n xs) : Gives w x n xs := by
  rcases h.2 with ⟨rfl, hn⟩ | ⟨g, cap, cur, rfl, _⟩
  · refine .inl ⟨rfl, hn, ?_⟩
    have := h.1
    subst hn
    exact List.length_eq_zero_iff.1 (by omega)
  · refine .inr ⟨_, cap, rfl, fun j u hj => ?_⟩
    rw [Go.WideShapes.add_plain, Nat.zero_add, h.cellAt j (List.getElem?_eq_some_iff.1 hj).1]
    exact hj

theorem wpList_apps {w : World} {ops : Array Oper} {rest : List Oper} {o : Oper} {a : Act} {Q : Exit → Act → World → Prop} (hgd : o.guard = none) (s x : Operand) (t : TypeId)
    (ho : o.op = .call { callee := .builtin .append, args := #[s, x], argTypes := #[t, t] }) {e : TypeId} {z : Value} {sz bytes : Nat} (ht : Try.prog.underlying t = some (.slice e)) (hi : (Try.prog.info? e).map (fun i => (i.zero, i.size, i.bytes)) = some (some z, sz, bytes)) (hzs : z.cells.size = sz) (hsz : 0 < sz)
    {v : Value} {n : Nat} {xs : List Value} (hs : a.eval s = v) (hr : RowZ w e sz v n xs) {xv : Value} {m : Nat} {news : List Value} (hxv : a.eval x = xv) (hx : Gives w xv m news) (hl : news.length = m * sz) (h1 : ∀ u ∈ news, u.oneCell' = true) (h63 : n + m ≤ 1099511627776) (hb : bytes ≤ 100)
    (h : ∀ ao cap w', RowZ w' e sz (.slice ao (n + m) cap) (n + m) (xs ++ news) → Appended w v w' (.slice ao (n + m) cap) → wpList Try.prog ops Q rest (a.put o.dst (.slice ao (n + m) cap)) w') : wpList Try.prog ops Q (o :: rest) a w := by
  refine wpList_plain hgd fun K hK => ?_
  obtain ⟨v', w', h2, h3, h4⟩ := run_apps (P := Try.prog) t o.type ht hi hzs hsz hr hx hl h1 h63 hb
  unfold Oper.wp execOp
  simp only [ho, resolve, invoke, builtin, Sem.run_bind, Sem.run_pure, Result.andThen_ok, List.map_toArray, List.map_cons, List.map_nil, hs, hxv, h2]
  obtain ⟨ao, cap, rfl, _⟩ := h3.form
  exact hK _ _ (h ao cap w' h3 h4)
theorem step_apps {w : World} {ops : Array Oper} {o : Oper} {a : Act} {K : Act → World → Prop} {Q : Exit → Act → World → Prop} {E : Prop} (hgd : o.guard = none) (s x : Operand) (t : TypeId)
    (ho : o.op = .call { callee := .builtin .append, args := #[s, x], argTypes := #[t, t] }) {e : TypeId} {z : Value} {sz bytes : Nat} (ht : Try.prog.underlying t = some (.slice e)) (hi : (Try.prog.info? e).map (fun i => (i.zero, i.size, i.bytes)) = some (some z, sz, bytes)) (hzs : z.cells.size = sz) (hsz : 0 < sz)
    {v : Value} {n : Nat} {xs : List Value} (hs : a.eval s = v) (hr : RowZ w e sz v n xs) {xv : Value} {m : Nat} {news : List Value} (hxv : a.eval x = xv) (hx : Gives w xv m news) (hl : news.length = m * sz) (h1 : ∀ u ∈ news, u.oneCell' = true) (h63 : n + m ≤ 1099511627776) (hb : bytes ≤ 100)
    (h : ∀ ao cap w', RowZ w' e sz (.slice ao (n + m) cap) (n + m) (xs ++ news) → Appended w v w' (.slice ao (n + m) cap) → K (a.put o.dst (.slice ao (n + m) cap)) w') : if Region.wanted o (yielded ops a.tmps) = true then Oper.wp Try.prog o a w K Q else E := by
  have hw : Region.wanted o (yielded ops a.tmps) = true := by simp [Region.wanted, hgd]
  rw [if_pos hw]
  obtain ⟨v', w', h2, h3, h4⟩ := run_apps (P := Try.prog) t o.type ht hi hzs hsz hr hx hl h1 h63 hb
  unfold Oper.wp execOp
  simp only [ho, resolve, invoke, builtin, Sem.run_bind, Sem.run_pure, Result.andThen_ok, List.map_toArray, List.map_cons, List.map_nil, hs, hxv, h2]
  obtain ⟨ao, cap, rfl, _⟩ := h3.form
  exact h ao cap w' h3 h4
theorem Gives.mid {w : World} {e : TypeId} {sz n g cap : Nat} {xs : List Value} (h : RowZ w e sz (.slice (some ⟨g, 0, none⟩) n cap) n xs) (k m c : Nat) (hk : (k + m) * sz ≤ xs.length) : Gives w (.slice (some ⟨g, k * sz, none⟩) m c) m ((xs.drop (k * sz)).take (m * sz)) := by
  refine .inr ⟨_, c, rfl, fun j u hj => ?_⟩
  have hj1 := (List.getElem?_eq_some_iff.1 hj).1
  rw [List.length_take] at hj1
  rw [Nat.add_mul] at hk
  rw [List.getElem?_take_of_lt (by omega), List.getElem?_drop] at hj
  rw [Go.WideShapes.add_plain, h.cellAt _ (by omega)]
  exact hj

def rcells : List Ref → List Value
  | [] => []
  | r :: l => .bool r.obj :: .int .i64 r.n :: rcells l
theorem rcells_length : ∀ l : List Ref, (rcells l).length = l.length * 2
  | [] => rfl
  | r :: l => by rw [rcells, List.length_cons, List.length_cons, rcells_length l, List.length_cons]; omega
theorem rcells_append : ∀ l m : List Ref, rcells (l ++ m) = rcells l ++ rcells m
  | [], m => rfl
  | r :: l, m => by rw [List.cons_append, rcells, rcells, rcells_append l m]; rfl
theorem rcells_get : ∀ {l : List Ref} {j : Nat} {r : Ref}, l[j]? = some r → (rcells l)[j * 2]? = some (.bool r.obj) ∧ (rcells l)[j * 2 + 1]? = some (.int .i64 r.n)
  | [], _, _, h => by cases h
  | y :: l, 0, r, h => by rw [List.getElem?_cons_zero] at h; cases h; exact ⟨rfl, rfl⟩
  | y :: l, j + 1, r, h => by
    rw [List.getElem?_cons_succ] at h
    obtain ⟨h1, h2⟩ := rcells_get h
    rw [rcells, show (j + 1) * 2 = j * 2 + 1 + 1 by omega, List.getElem?_cons_succ, List.getElem?_cons_succ, show j * 2 + 1 + 1 + 1 = j * 2 + 1 + 1 + 1 from rfl, List.getElem?_cons_succ, List.getElem?_cons_succ]
    exact ⟨h1, h2⟩
theorem rcells_take : ∀ (l : List Ref) (k : Nat), (rcells l).take (k * 2) = rcells (l.take k)
  | [], k => by simp [rcells]
  | r :: l, 0 => by simp [rcells]
  | r :: l, k + 1 => by rw [rcells, show (k + 1) * 2 = k * 2 + 1 + 1 by omega, List.take_succ_cons, List.take_succ_cons, rcells_take l k, List.take_succ_cons, rcells]
theorem rcells_drop : ∀ (l : List Ref) (k : Nat), (rcells l).drop (k * 2) = rcells (l.drop k)
  | [], k => by simp [rcells]
  | r :: l, 0 => by simp
  | r :: l, k + 1 => by rw [rcells, show (k + 1) * 2 = k * 2 + 1 + 1 by omega, List.drop_succ_cons, List.drop_succ_cons, rcells_drop l k, List.drop_succ_cons]
theorem rcells_one : ∀ (l : List Ref) (u : Value), u ∈ rcells l → u.oneCell' = true
  | [], _, h => by cases h
  | r :: l, u, h => by
    rw [rcells, List.mem_cons, List.mem_cons] at h
    rcases h with rfl | rfl | h
    · rfl
    · rfl
    · exact rcells_one l u h
theorem rcells_set : ∀ (l : List Ref) (k : Nat) (x : Ref), rcells (l.set k x) = ((rcells l).set (k * 2) (.bool x.obj)).set (k * 2 + 1) (.int .i64 x.n)
  | [], k, x => by simp [rcells]
  | r :: l, 0, x => rfl
  | r :: l, k + 1, x => by
    rw [List.set_cons_succ, rcells, rcells, rcells_set l k x, show (k + 1) * 2 = k * 2 + 1 + 1 by omega]
    rfl
/-- An object beside where its fields lie. -/
def ocells : List (Ob × Value) → List Value
  | [] => []
  | x :: l => .int .i64 x.1.kind :: x.2 :: .bool x.1.raw :: .string ⟨x.1.bytes.toArray⟩ :: ocells l
theorem ocells_length : ∀ l, (ocells l).length = l.length * 4
  | [] => rfl
  | r :: l => by rw [ocells, List.length_cons, List.length_cons, List.length_cons, List.length_cons, ocells_length l, List.length_cons]; omega
theorem ocells_append : ∀ l m, ocells (l ++ m) = ocells l ++ ocells m
  | [], m => rfl
  | r :: l, m => by rw [List.cons_append, ocells, ocells, ocells_append l m]; rfl
theorem ocells_get : ∀ {l : List (Ob × Value)} {j : Nat} {x : Ob × Value}, l[j]? = some x → (ocells l)[j * 4]? = some (.int .i64 x.1.kind) ∧ (ocells l)[j * 4 + 1]? = some x.2 ∧ (ocells l)[j * 4 + 2]? = some (.bool x.1.raw) ∧ (ocells l)[j * 4 + 3]? = some (.string ⟨x.1.bytes.toArray⟩)
  | [], _, _, h => by cases h
  | y :: l, 0, r, h => by rw [List.getElem?_cons_zero] at h; cases h; exact ⟨rfl, rfl, rfl, rfl⟩
  | y :: l, j + 1, r, h => by
    rw [List.getElem?_cons_succ] at h
    have := ocells_get h
    have e : ∀ i, (ocells (y :: l))[(j + 1) * 4 + i]? = (ocells l)[j * 4 + i]? := fun i => by
      rw [ocells, show (j + 1) * 4 + i = (j * 4 + i) + 1 + 1 + 1 + 1 by omega, List.getElem?_cons_succ, List.getElem?_cons_succ, List.getElem?_cons_succ, List.getElem?_cons_succ]
    have e0 := e 0
    rw [Nat.add_zero, Nat.add_zero] at e0
    rw [e0, e 1, e 2, e 3]
    exact this
def pcells : List (Int × Ref) → List Value
  | [] => []
  | x :: l => .int .i64 x.1 :: .bool x.2.obj :: .int .i64 x.2.n :: pcells l
theorem pcells_length : ∀ l, (pcells l).length = l.length * 3
  | [] => rfl
  | r :: l => by rw [pcells, List.length_cons, List.length_cons, List.length_cons, pcells_length l, List.length_cons]; omega
theorem pcells_append : ∀ l m, pcells (l ++ m) = pcells l ++ pcells m
  | [], m => rfl
  | r :: l, m => by rw [List.cons_append, pcells, pcells, pcells_append l m]; rfl
theorem pcells_get : ∀ {l : List (Int × Ref)} {j : Nat} {x : Int × Ref}, l[j]? = some x → (pcells l)[j * 3]? = some (.int .i64 x.1) ∧ (pcells l)[j * 3 + 1]? = some (.bool x.2.obj) ∧ (pcells l)[j * 3 + 2]? = some (.int .i64 x.2.n)
  | [], _, _, h => by cases h
  | y :: l, 0, r, h => by rw [List.getElem?_cons_zero] at h; cases h; exact ⟨rfl, rfl, rfl⟩
  | y :: l, j + 1, r, h => by
    rw [List.getElem?_cons_succ] at h
    have := pcells_get h
    have e : ∀ i, (pcells (y :: l))[(j + 1) * 3 + i]? = (pcells l)[j * 3 + i]? := fun i => by
      rw [pcells, show (j + 1) * 3 + i = (j * 3 + i) + 1 + 1 + 1 by omega, List.getElem?_cons_succ, List.getElem?_cons_succ, List.getElem?_cons_succ]
    have e0 := e 0
    rw [Nat.add_zero, Nat.add_zero] at e0
    rw [e0, e 1, e 2]
    exact this

/-- The reference's heap in memory. -/
structure RefIs (w : World) (q lim : Nat) (vl vs vp : Value) (L : List (Ob × Value)) (S : List Ref) (P : List (Int × Ref)) : Prop where
  hdr : w.heap[q]? = some (.cells #[.int .i64 lim, vl, vs, vp] 60 (0, 0))
  rl : RowZ w 82 4 vl L.length (ocells L)
  rs : RowZ w 27 2 vs S.length (rcells S)
  rp : RowZ w 84 3 vp P.length (pcells P)
  rf : ∀ x ∈ L, RowZ w 27 2 x.2 x.1.fields.length (rcells x.1.fields)
  n1 : vl.ownBlock ≠ some q
  n2 : vs.ownBlock ≠ some q
  n3 : vp.ownBlock ≠ some q
  n4 : ∀ k, vl.ownBlock = some k → vs.ownBlock ≠ some k ∧ vp.ownBlock ≠ some k
  n5 : ∀ k, vs.ownBlock = some k → vp.ownBlock ≠ some k
  n6 : ∀ x ∈ L, ∀ k, x.2.ownBlock = some k → k ≠ q ∧ vl.ownBlock ≠ some k ∧ vs.ownBlock ≠ some k ∧ vp.ownBlock ≠ some k
def rfoot (q : Nat) (vl vs vp : Value) (L : List (Ob × Value)) : List Nat := q :: (vl.ownBlock.toList ++ vs.ownBlock.toList ++ vp.ownBlock.toList ++ L.flatMap fun x => x.2.ownBlock.toList)
theorem mem_rfoot {q k : Nat} {vl vs vp : Value} {L : List (Ob × Value)} : k ∈ rfoot q vl vs vp L ↔ k = q ∨ vl.ownBlock = some k ∨ vs.ownBlock = some k ∨ vp.ownBlock = some k ∨ ∃ x ∈ L, x.2.ownBlock = some k := by
  simp [rfoot, or_assoc]
section
variable {w w' : World} {q lim : Nat} {vl vs vp : Value} {L : List (Ob × Value)} {S : List Ref} {P : List (Int × Ref)}
theorem RefIs.c0 (h : RefIs w q lim vl vs vp L S P) : w.cell? ⟨q, 0, none⟩ = some (.int .i64 lim) := by simp [World.cell?, h.hdr]
theorem RefIs.c1 (h : RefIs w q lim vl vs vp L S P) : w.cell? ⟨q, 1, none⟩ = some vl := by simp [World.cell?, h.hdr]
theorem RefIs.c2 (h : RefIs w q lim vl vs vp L S P) : w.cell? ⟨q, 2, none⟩ = some vs := by simp [World.cell?, h.hdr]
theorem RefIs.c3 (h : RefIs w q lim vl vs vp L S P) : w.cell? ⟨q, 3, none⟩ = some vp := by simp [World.cell?, h.hdr]
theorem RefIs.fr (h : RefIs w q lim vl vs vp L S P) (o : Nat) : w.frozen? ⟨q, o, none⟩ = false := by simp [World.frozen?, h.hdr]
theorem RefIs.lt (h : RefIs w q lim vl vs vp L S P) : ∀ k ∈ rfoot q vl vs vp L, k < w.heap.size := fun k hk => by
  rcases mem_rfoot.1 hk with rfl | hk | hk | hk | ⟨x, hx, hk⟩
  · exact lt_of_block h.hdr
  · exact h.rl.lt hk
  · exact h.rs.lt hk
  · exact h.rp.lt hk
  · exact (h.rf x hx).lt hk
/-- Other blocks may turn. -/
theorem RefIs.chg {G : List Nat} (h : RefIs w q lim vl vs vp L S P) (hc : Chg G w w') (hd : ∀ k ∈ rfoot q vl vs vp L, k ∉ G) : RefIs w' q lim vl vs vp L S P :=
  ⟨(hc.block q (lt_of_block h.hdr) (hd q (mem_rfoot.2 (.inl rfl)))).trans h.hdr, h.rl.chg hc (fun k hk => hd k (mem_rfoot.2 (.inr (.inl hk)))), h.rs.chg hc (fun k hk => hd k (mem_rfoot.2 (.inr (.inr (.inl hk))))),
    h.rp.chg hc (fun k hk => hd k (mem_rfoot.2 (.inr (.inr (.inr (.inl hk)))))), fun x hx => (h.rf x hx).chg hc (fun k hk => hd k (mem_rfoot.2 (.inr (.inr (.inr (.inr ⟨x, hx, hk⟩)))))), h.n1, h.n2, h.n3, h.n4, h.n5, h.n6⟩
theorem RefIs.alloc (h : RefIs w q lim vl vs vp L S P) (o : Obj) : RefIs (w.alloc o) q lim vl vs vp L S P := h.chg ((Chg.refl [] w).alloc o) (fun _ _ => by simp)
theorem RefIs.drewN (h : RefIs w q lim vl vs vp L S P) (n : Nat) : RefIs (w.drewN n) q lim vl vs vp L S P := h.chg ((Chg.refl [] w).drewN n) (fun _ _ => by simp)
theorem Appended.chg {v v' : Value} (h : Appended w v w' v') : Chg v.ownBlock.toList w w' := (Chg.refl _ w).grown h.1 (fun k hk => .inl (by simp [hk]))
/-- The stack has become another row. -/
theorem RefIs.setS {vs' : Value} {S' : List Ref} (h : RefIs w q lim vl vs vp L S P) (hr : RowZ w 27 2 vs' S'.length (rcells S'))
    (hv : ∀ k, vs'.ownBlock = some k → vs.ownBlock = some k ∨ k ∉ rfoot q vl vs vp L) : RefIs (w.setCell ⟨q, 2, none⟩ vs') q lim vl vs' vp L S' P := by
  have hc : Chg [q] w (w.setCell ⟨q, 2, none⟩ vs') := chg_set w q 2 vs'
  have hq : ∀ k, vs'.ownBlock = some k → k ≠ q ∧ vl.ownBlock ≠ some k ∧ vp.ownBlock ≠ some k ∧ ∀ x ∈ L, x.2.ownBlock ≠ some k := fun k hk => by
    rcases hv k hk with e | e
    · exact ⟨fun e' => h.n2 (e' ▸ e), fun e' => (h.n4 k e').1 e, fun e' => h.n5 k e e', fun x hx e' => (h.n6 x hx k e').2.2.1 e⟩
    · rw [mem_rfoot] at e
      exact ⟨fun e' => e (.inl e'), fun e' => e (.inr (.inl e')), fun e' => e (.inr (.inr (.inr (.inl e')))), fun x hx e' => e (.inr (.inr (.inr (.inr ⟨x, hx, e'⟩))))⟩
  exact ⟨hdr_set h.hdr, h.rl.chg hc (fun k hk e => by simp at e; exact h.n1 (e ▸ hk)), hr.chg hc (fun k hk e => by simp at e; exact (hq k hk).1 e), h.rp.chg hc (fun k hk e => by simp at e; exact h.n3 (e ▸ hk)),
    fun x hx => (h.rf x hx).chg hc (fun k hk e => by simp at e; exact (h.n6 x hx k hk).1 e), h.n1, fun e => (hq q e).1 rfl, h.n3, fun k hk => ⟨fun e => (hq k e).2.1 hk, (h.n4 k hk).2⟩, fun k hk => (hq k hk).2.2.1,
    fun x hx k hk => ⟨(h.n6 x hx k hk).1, (h.n6 x hx k hk).2.1, fun e => (hq k e).2.2.2 x hx hk, (h.n6 x hx k hk).2.2.2⟩⟩
/-- The pins have become another row. -/
theorem RefIs.setP {vp' : Value} {P' : List (Int × Ref)} (h : RefIs w q lim vl vs vp L S P) (hr : RowZ w 84 3 vp' P'.length (pcells P'))
    (hv : ∀ k, vp'.ownBlock = some k → vp.ownBlock = some k ∨ k ∉ rfoot q vl vs vp L) : RefIs (w.setCell ⟨q, 3, none⟩ vp') q lim vl vs vp' L S P' := by
  have hc : Chg [q] w (w.setCell ⟨q, 3, none⟩ vp') := chg_set w q 3 vp'
  have hq : ∀ k, vp'.ownBlock = some k → k ≠ q ∧ vl.ownBlock ≠ some k ∧ vs.ownBlock ≠ some k ∧ ∀ x ∈ L, x.2.ownBlock ≠ some k := fun k hk => by
    rcases hv k hk with e | e
    · exact ⟨fun e' => h.n3 (e' ▸ e), fun e' => (h.n4 k e').2 e, fun e' => h.n5 k e' e, fun x hx e' => (h.n6 x hx k e').2.2.2 e⟩
    · rw [mem_rfoot] at e
      exact ⟨fun e' => e (.inl e'), fun e' => e (.inr (.inl e')), fun e' => e (.inr (.inr (.inl e'))), fun x hx e' => e (.inr (.inr (.inr (.inr ⟨x, hx, e'⟩))))⟩
  exact ⟨hdr_set h.hdr, h.rl.chg hc (fun k hk e => by simp at e; exact h.n1 (e ▸ hk)), h.rs.chg hc (fun k hk e => by simp at e; exact h.n2 (e ▸ hk)), hr.chg hc (fun k hk e => by simp at e; exact (hq k hk).1 e),
    fun x hx => (h.rf x hx).chg hc (fun k hk e => by simp at e; exact (h.n6 x hx k hk).1 e), h.n1, h.n2, fun e => (hq q e).1 rfl, fun k hk => ⟨(h.n4 k hk).1, fun e => (hq k e).2.1 hk⟩, fun k hk e => (hq k e).2.2.1 hk,
    fun x hx k hk => ⟨(h.n6 x hx k hk).1, (h.n6 x hx k hk).2.1, (h.n6 x hx k hk).2.2.1, fun e => (hq k e).2.2.2 x hx hk⟩⟩
/-- The objects have become another row. -/
theorem RefIs.setL {vl' : Value} {L' : List (Ob × Value)} (h : RefIs w q lim vl vs vp L S P) (hr : RowZ w 82 4 vl' L'.length (ocells L')) (hf : ∀ x ∈ L', RowZ w 27 2 x.2 x.1.fields.length (rcells x.1.fields))
    (hv : ∀ k, vl'.ownBlock = some k → vl.ownBlock = some k ∨ k ∉ rfoot q vl vs vp L) (hn : ∀ x ∈ L', ∀ k, x.2.ownBlock = some k → k ≠ q ∧ vl'.ownBlock ≠ some k ∧ vs.ownBlock ≠ some k ∧ vp.ownBlock ≠ some k) : RefIs (w.setCell ⟨q, 1, none⟩ vl') q lim vl' vs vp L' S P := by
  have hc : Chg [q] w (w.setCell ⟨q, 1, none⟩ vl') := chg_set w q 1 vl'
  have hq : ∀ k, vl'.ownBlock = some k → k ≠ q ∧ vs.ownBlock ≠ some k ∧ vp.ownBlock ≠ some k := fun k hk => by
    rcases hv k hk with e | e
    · exact ⟨fun e' => h.n1 (e' ▸ e), (h.n4 k e).1, (h.n4 k e).2⟩
    · rw [mem_rfoot] at e
      exact ⟨fun e' => e (.inl e'), fun e' => e (.inr (.inr (.inl e'))), fun e' => e (.inr (.inr (.inr (.inl e'))))⟩
  exact ⟨hdr_set h.hdr, hr.chg hc (fun k hk e => by simp at e; exact (hq k hk).1 e), h.rs.chg hc (fun k hk e => by simp at e; exact h.n2 (e ▸ hk)), h.rp.chg hc (fun k hk e => by simp at e; exact h.n3 (e ▸ hk)),
    fun x hx => (hf x hx).chg hc (fun k hk e => by simp at e; exact (hn x hx k hk).1 e), fun e => (hq q e).1 rfl, h.n2, h.n3, fun k hk => ⟨(hq k hk).2.1, (hq k hk).2.2⟩, h.n5, hn⟩
end
end Go.Proofs.Ytlbiapgikkjooaa
