/- Texts of the proof, in build order: Gives. -/
import Derived.Test.YtcpgbekcbaelpaaGreatDoorF10
import Derived.Test.YtcpgbekcbaelpaaGreatDoorF13
import Derived.Deep.AppendSrc
import Derived.Deep.AppendLies
import Derived.Deep.Upon
set_option linter.unusedVariables false
set_option linter.unusedSimpArgs false
set_option linter.unusedSectionVars false
/- Appends to a row out of any source. -/
namespace Go.Proofs.YtcpgbekcbaelpaaGreatDoor
open Go.RowKit Go.Maps
set_option linter.unusedSimpArgs false
set_option linter.unusedSectionVars false
set_option linter.unusedVariables false

def Gives (w : World) (x : Value) (m : Nat) (news : List Value) : Prop :=
  (x = .slice none 0 0 ∧ m = 0 ∧ news = []) ∨ ∃ ad c, x = .slice (some ad) m c ∧ ∀ j u, news[j]? = some u → w.cell? (ad.add j) = some u
def Appended (w : World) (v : Value) (w' : World) (v' : Value) : Prop := w.grownBy w' v.ownBlock ∧ (v'.ownBlock = v.ownBlock ∨ v'.ownBlock = some w.heap.size)
theorem run_rows {P : Program} {w : World} (t ty : TypeId) {e : TypeId} {z : Value} {sz bytes : Nat} (ht : P.underlying t = some (.slice e)) (hi : (P.info? e).map (fun i => (i.zero, i.size, i.bytes)) = some (some z, sz, bytes)) (hzs : z.cells.size = sz) (hsz : 0 < sz)
    {v : Value} {n : Nat} {xs : List Value} (hr : RowZ w e sz v n xs) {x : Value} {m : Nat} {news : List Value} (hx : Gives w x m news) (hl : news.length = m * sz) (h1 : ∀ u ∈ news, u.oneCell' = true) (h63 : n + m ≤ 1099511627776) (hb : bytes ≤ 100) :
    ∃ v' w', (Builtin.append_ #[t, t] ty #[v, x]).run P w = .ok v' w' ∧ RowZ w' e sz v' (n + m) (xs ++ news) ∧ Appended w v w' v' := by
  obtain ⟨i0, hi, hz0, hz1, hz2⟩ := info_parts hi
  rcases hx with ⟨rfl, rfl, rfl⟩ | ⟨ad, c, rfl, hc⟩
  · refine ⟨v, w, ?_, by rw [List.append_nil]; exact hr, ⟨World.grownBy.refl _ _, .inl rfl⟩⟩
    obtain ⟨ao, cap, rfl, hle, _⟩ := hr.form
    exact run_append_nothing w t t ty e i0 ht hi ao n cap hle (.slice none 0 0) ⟨.inl ⟨e, ht⟩, fun _ => by simp [Builtin.lenOf], by simp [Builtin.firstCells], by simp [Builtin.firstCells], by simp, by simp⟩
  · have hby : (n + m) * bytes ≤ 140737488355328 := Nat.le_trans (Nat.mul_le_mul h63 hb) (by decide)
    obtain ⟨v', w', h2, h3, h4, _, h5⟩ := run_append_own_at (P := P) w 0 t ty e i0 z sz bytes ht hi hz0 hz1 hz2 hzs hsz v n xs hr ad m c news hl hc h1 (by unfold maxLen; omega) hby (Nat.zero_le _)
    exact ⟨v', w', h2, h3, h4, h5⟩
theorem Gives.of_row {w : World} {e : TypeId} {sz n : Nat} {x : Value} {xs : List Value} (h : RowZ w e sz x n xs) : Gives w x n xs := by
  rcases h.2 with ⟨rfl, hn⟩ | ⟨g, cap, cur, rfl, _⟩
  · refine .inl ⟨rfl, hn, ?_⟩
    have := h.1
    subst hn
    exact List.length_eq_zero_iff.1 (by omega)
  · refine .inr ⟨_, cap, rfl, fun j u hj => ?_⟩
    rw [Go.WideShapes.add_plain, Nat.zero_add, h.cellAt j (List.getElem?_eq_some_iff.1 hj).1]
    exact hj
theorem wpList_rows {w : World} {ops : Array Oper} {rest : List Oper} {o : Oper} {a : Act} {Q : Exit → Act → World → Prop} (hgd : o.guard = none) (s x : Operand) (t : TypeId)
    (ho : o.op = .call { callee := .builtin .append, args := #[s, x], argTypes := #[t, t] }) {e : TypeId} {z : Value} {sz bytes : Nat} (ht : Tryz.prog.underlying t = some (.slice e)) (hi : (Tryz.prog.info? e).map (fun i => (i.zero, i.size, i.bytes)) = some (some z, sz, bytes)) (hzs : z.cells.size = sz) (hsz : 0 < sz)
    {v : Value} {n : Nat} {xs : List Value} (hs : a.eval s = v) (hr : RowZ w e sz v n xs) {xv : Value} {m : Nat} {news : List Value} (hxv : a.eval x = xv) (hx : Gives w xv m news) (hl : news.length = m * sz) (h1 : ∀ u ∈ news, u.oneCell' = true) (h63 : n + m ≤ 1099511627776) (hb : bytes ≤ 100)
    (h : ∀ ao cap w', RowZ w' e sz (.slice ao (n + m) cap) (n + m) (xs ++ news) → Appended w v w' (.slice ao (n + m) cap) → wpList Tryz.prog ops Q rest (a.put o.dst (.slice ao (n + m) cap)) w') : wpList Tryz.prog ops Q (o :: rest) a w := by
  refine wpList_plain hgd fun K hK => ?_
  obtain ⟨v', w', h2, h3, h4⟩ := run_rows (P := Tryz.prog) t o.type ht hi hzs hsz hr hx hl h1 h63 hb
  unfold Oper.wp execOp
  simp only [ho, resolve, invoke, builtin, Sem.run_bind, Sem.run_pure, Result.andThen_ok, List.map_toArray, List.map_cons, List.map_nil, hs, hxv, h2]
  obtain ⟨ao, cap, rfl, _⟩ := h3.form
  exact hK _ _ (h ao cap w' h3 h4)
theorem step_rows {w : World} {ops : Array Oper} {o : Oper} {a : Act} {K : Act → World → Prop} {Q : Exit → Act → World → Prop} {E : Prop} (hgd : o.guard = none) (s x : Operand) (t : TypeId)
    (ho : o.op = .call { callee := .builtin .append, args := #[s, x], argTypes := #[t, t] }) {e : TypeId} {z : Value} {sz bytes : Nat} (ht : Tryz.prog.underlying t = some (.slice e)) (hi : (Tryz.prog.info? e).map (fun i => (i.zero, i.size, i.bytes)) = some (some z, sz, bytes)) (hzs : z.cells.size = sz) (hsz : 0 < sz)
    {v : Value} {n : Nat} {xs : List Value} (hs : a.eval s = v) (hr : RowZ w e sz v n xs) {xv : Value} {m : Nat} {news : List Value} (hxv : a.eval x = xv) (hx : Gives w xv m news) (hl : news.length = m * sz) (h1 : ∀ u ∈ news, u.oneCell' = true) (h63 : n + m ≤ 1099511627776) (hb : bytes ≤ 100)
    (h : ∀ ao cap w', RowZ w' e sz (.slice ao (n + m) cap) (n + m) (xs ++ news) → Appended w v w' (.slice ao (n + m) cap) → K (a.put o.dst (.slice ao (n + m) cap)) w') : if Region.wanted o (yielded ops a.tmps) = true then Oper.wp Tryz.prog o a w K Q else E := by
  have hw : Region.wanted o (yielded ops a.tmps) = true := by simp [Region.wanted, hgd]
  rw [if_pos hw]
  obtain ⟨v', w', h2, h3, h4⟩ := run_rows (P := Tryz.prog) t o.type ht hi hzs hsz hr hx hl h1 h63 hb
  unfold Oper.wp execOp
  simp only [ho, resolve, invoke, builtin, Sem.run_bind, Sem.run_pure, Result.andThen_ok, List.map_toArray, List.map_cons, List.map_nil, hs, hxv, h2]
  obtain ⟨ao, cap, rfl, _⟩ := h3.form
  exact h ao cap w' h3 h4
theorem Gives.mid {w : World} {e : TypeId} {sz n g cap : Nat} {xs : List Value} (h : RowZ w e sz (.slice (some ⟨g, 0, none⟩) n cap) n xs) (k m c : Nat) (hk : (k + m) * sz ≤ xs.length) : Gives w (.slice (some ⟨g, k * sz, none⟩) m c) m ((xs.drop (k * sz)).take (m * sz)) := by
  refine .inr ⟨_, c, rfl, fun j u hj => ?_⟩
  have hj1 := (List.getElem?_eq_some_iff.1 hj).1
  rw [List.length_take] at hj1
  rw [Nat.add_mul] at hk
  rw [List.getElem?_take_of_lt (by omega), List.getElem?_drop] at hj
  rw [Go.WideShapes.add_plain, h.cellAt _ (by omega)]
  exact hj
theorem Appended.chg {w w' : World} {v v' : Value} (h : Appended w v w' v') : Chg v.ownBlock.toList w w' := (Chg.refl _ w).grown h.1 (fun k hk => .inl (by simp [hk]))
theorem Appended.out {w w' : World} {v v' : Value} (h : Appended w v w' v') {k : Nat} (hk : v'.ownBlock = some k) : v.ownBlock = some k ∨ k = w.heap.size := by
  rcases h.2 with e | e
  · exact .inl (e ▸ hk)
  · rw [e] at hk; cases hk; exact .inr rfl
theorem RowZ.none0 (W : World) (T : TypeId) (sz : Nat) : RowZ (W.alloc (.cells #[] T)) T sz (.slice (some ⟨W.heap.size, 0, none⟩) 0 0) 0 [] :=
  ⟨by simp, .inr ⟨W.heap.size, 0, #[], rfl, Nat.zero_le _, heap_alloc_new W _, Nat.le_refl _, by unfold maxLen; omega, by simp, by simp⟩⟩
end Go.Proofs.YtcpgbekcbaelpaaGreatDoor
