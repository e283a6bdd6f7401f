/- Rows of pairs that grow; numbers that are moved by a distance. -/
import Derived.Test.YtofmbpmmgpbdbaaDoorMove3
namespace Go.Proofs.YtofmbpmmgpbdbaaDoor
open Go.RowKit Go.Maps Wr
set_option linter.unusedVariables false

set_option maxRecDepth 100000 in
theorem infoP : (Tryd.prog.info? 43).map (fun i => (i.zero, i.size, i.bytes)) = some (some (.agg #[.int .i64 0, .int .i64 0]), 2, 16) := by kernel_rfl
def pcells : List PW → List Value
  | [] => []
  | x :: l => .int .i64 x.1.1 :: .int .i64 x.1.2 :: pcells l
theorem pcells_length : ∀ l : List PW, (pcells l).length = l.length * 2
  | [] => rfl
  | x :: l => by rw [pcells, List.length_cons, List.length_cons, pcells_length l, List.length_cons]; omega
theorem pcells_get : ∀ {l : List PW} {j : Nat} {x : PW}, l[j]? = some x → (pcells l)[j * 2]? = some (.int .i64 x.1.1) ∧ (pcells l)[j * 2 + 1]? = some (.int .i64 x.1.2)
  | [], _, _, h => by cases h
  | y :: l, 0, x, h => by rw [List.getElem?_cons_zero] at h; cases h; exact ⟨rfl, rfl⟩
  | y :: l, j + 1, x, h => by
    rw [List.getElem?_cons_succ] at h
    obtain ⟨h1, h2⟩ := pcells_get h
    rw [pcells, show (j + 1) * 2 = j * 2 + 1 + 1 by omega, List.getElem?_cons_succ, List.getElem?_cons_succ, show j * 2 + 1 + 1 + 1 = j * 2 + 1 + 1 + 1 from rfl, List.getElem?_cons_succ, List.getElem?_cons_succ]
    exact ⟨h1, h2⟩
theorem pcells_snoc : ∀ (l : List PW) (x : PW), pcells (l ++ [x]) = pcells l ++ [.int .i64 x.1.1, .int .i64 x.1.2]
  | [], x => rfl
  | y :: l, x => by rw [List.cons_append, pcells, pcells, pcells_snoc l x]; rfl
/-- A row of pairs of its own, in blocks from N on. -/
def PRow (w : World) (N : Nat) (v : Value) (zs : List PW) : Prop := RowZ w 43 2 v zs.length (pcells zs) ∧ ∀ k, v.ownBlock = some k → N ≤ k
theorem PRow.nil (w : World) (N : Nat) : PRow w N (.slice none 0 0) [] := ⟨RowZ.nil _ _ _, fun k h => by simp [Value.ownBlock] at h⟩
theorem PRow.chg {F : List Nat} {w w' : World} {N : Nat} {v : Value} {zs : List PW} (h : PRow w N v zs) (hc : Chg F w w') (hF : ∀ k, v.ownBlock = some k → k ∉ F) : PRow w' N v zs := ⟨h.1.chg hc hF, h.2⟩
theorem PRow.form {w : World} {N : Nat} {v : Value} {zs : List PW} (h : PRow w N v zs) : ∃ ao cap, v = .slice ao zs.length cap := by
  obtain ⟨ao, cap, e, _⟩ := h.1.form
  exact ⟨ao, cap, e⟩
theorem PRow.is {w : World} {N : Nat} {v : Value} {zs : List PW} (h : PRow w N v zs) : PairsIs w.heap.size w v zs := by
  rcases h.1.2 with ⟨rfl, hn⟩ | ⟨g, cap, cur, rfl, _, hg, _⟩
  · exact .inl ⟨rfl, List.length_eq_zero_iff.1 hn⟩
  · refine .inr ⟨g, 0, cap, rfl, (Array.getElem?_eq_some_iff.1 hg).1, fun j x hj => ?_⟩
    have hl := (List.getElem?_eq_some_iff.1 hj).1
    have hlen := pcells_length zs
    obtain ⟨e1, e2⟩ := pcells_get hj
    refine ⟨?_, ?_⟩
    · rw [Nat.zero_add, h.1.cellAt _ (by rw [hlen]; omega)]; exact e1
    · rw [Nat.zero_add, h.1.cellAt _ (by rw [hlen]; omega)]; exact e2
theorem cell_two_new (w : World) (a b : Value) (t : TypeId) : ∀ (j : Nat) (u : Value), [a, b][j]? = some u → (w.alloc (.cells #[a, b] t)).cell? (Addr.add ⟨w.heap.size, 0, none⟩ j) = some u := by
  intro j u hj
  have hb := heap_alloc_new w (.cells #[a, b] t)
  rw [show (Addr.add ⟨w.heap.size, 0, none⟩ j) = ⟨w.heap.size, j, none⟩ by unfold Addr.add; split <;> simp_all]
  have hj2 := (List.getElem?_eq_some_iff.1 hj).1
  simp at hj2
  have : j = 0 ∨ j = 1 := by omega
  rcases this with rfl | rfl
  · simp at hj; subst hj; unfold World.cell?; rw [hb]; rfl
  · simp at hj; subst hj; unfold World.cell?; rw [hb]; rfl
/-- 'append(l, p)' of one pair, at a step of a region that draws its order. -/
theorem step_appp {w : World} {ops : Array Oper} {o : Oper} {a : Act} {K : Act → World → Prop} {Q : Exit → Act → World → Prop} {E : Prop} (hgd : o.guard = none) (s x : Operand)
    (ho : o.op = .call { callee := .builtin .append, args := #[s, x], argTypes := #[41, 41] }) {N : Nat} {v : Value} {zs : List PW} {y : PW} (hs : a.eval s = v) (hr : PRow w N v zs) {ad : Addr} {c : Nat} (hx : a.eval x = .slice (some ad) 1 c)
    (hnews : ∀ j u, [Value.int .i64 y.1.1, .int .i64 y.1.2][j]? = some u → w.cell? (ad.add j) = some u) (hN : N ≤ w.heap.size) (h63 : zs.length ≤ 1000000)
    (h : ∀ v' w', PRow w' N v' (zs ++ [y]) → OwnStep w v w' v' → K (a.put o.dst v') w') : if Region.wanted o (yielded ops a.tmps) = true then Oper.wp Tryd.prog o a w K Q else E := by
  obtain ⟨i0, hi, hz0, hz1, hz2⟩ := info_parts infoP
  have hl := pcells_length zs
  have hown : w.ownsRow N 43 2 v zs.length (pcells zs) := by
    refine ⟨hr.1.1, ?_⟩
    rcases hr.1.2 with hn | ⟨g, cap, cur, rfl, _, rest⟩
    · exact .inl hn
    · exact .inr ⟨g, cap, cur, rfl, hr.2 g rfl, rest⟩
  refine step_append_lies w hgd s x 41 ho N 43 i0 _ 2 16 Tryd.underlying41 hi hz0 hz1 hz2 rfl (by decide) v zs.length (pcells zs) hs hown ad 1 c [Value.int .i64 y.1.1, .int .i64 y.1.2] hx rfl hnews (by simp [Value.oneCell']) (by omega) (by unfold maxLen; omega) (by omega) hN w.heap.size rfl ?_
  intro g' cap' w' hown' hgr hloc _
  rw [← pcells_snoc] at hown'
  refine h _ w' ⟨?_, ?_⟩ ⟨(Chg.refl _ w).grown hgr (fun k hk => .inl (by simp [hk])), ?_⟩
  · rw [List.length_append, List.length_singleton]
    refine ⟨hown'.1, ?_⟩
    rcases hown'.2 with hn | ⟨g, cap, cur, e, _, rest⟩
    · exact .inl hn
    · exact .inr ⟨g, cap, cur, e, Nat.zero_le _, rest⟩
  · intro k hk
    simp only [Value.ownBlock, Option.some.injEq] at hk
    subst hk
    rcases hloc with e | e
    · exact hr.2 _ e
    · omega
  · rcases hloc with e | e
    · exact .inl e.symm
    · exact .inr ⟨g', rfl, by omega⟩

/-! Distances -/
namespace VT
mutual
def shift (d : Int) : VT → VT
  | node k n s l => node k (if k = 5 then n + d else n) s (shifts d l)
def shifts (d : Int) : List VT → List VT
  | [] => []
  | t :: l => shift d t :: shifts d l
end
mutual
theorem shift_back (d : Int) : ∀ t : VT, shift (-d) (shift d t) = t
  | node k n s l => by
    rw [shift, shift, shifts_back d l]
    by_cases h : k = 5
    · rw [if_pos h, if_pos h]; congr 1; omega
    · rw [if_neg h, if_neg h]
theorem shifts_back (d : Int) : ∀ l : List VT, shifts (-d) (shifts d l) = l
  | [] => by rw [shifts, shifts]
  | t :: l => by rw [shifts, shifts, shift_back d t, shifts_back d l]
end
mutual
theorem shift_refs (d : Int) : ∀ t : VT, (shift d t).refs = t.refs.map (· + d)
  | node k n s l => by
    rw [shift, refs_node, refs_node, shifts_refs d l, List.map_append]
    by_cases h : k = 5
    · rw [if_pos h, if_pos h, if_pos h]; rfl
    · rw [if_neg h, if_neg h]; rfl
theorem shifts_refs (d : Int) : ∀ l : List VT, refsL (shifts d l) = (refsL l).map (· + d)
  | [] => by rw [shifts, refsL_nil]; rfl
  | t :: l => by rw [shifts, refsL_cons, refsL_cons, shift_refs d t, shifts_refs d l, List.map_append]
end
mutual
theorem shift_sz (d : Int) : ∀ t : VT, (shift d t).sz = t.sz
  | node k n s l => by rw [shift, sz, sz, shifts_sz d l]
theorem shifts_sz (d : Int) : ∀ l : List VT, szs (shifts d l) = szs l
  | [] => by rw [shifts]
  | t :: l => by rw [shifts, szs, szs, shift_sz d t, shifts_sz d l]
end
mutual
theorem move_shift {f : Int → Option Int} {d : Int} : ∀ t : VT, (∀ n ∈ t.refs, f n = some (n + d)) → move f t = some (shift d t)
  | node k n s l, h => by
    rw [refs_node] at h
    have hl := moves_shift l (fun m hm => h m (List.mem_append_right _ hm))
    rw [move, shift]
    by_cases h5 : k = 5
    · rw [if_pos h5] at h
      have hn := h n (List.mem_append_left _ (List.mem_singleton.2 rfl))
      rw [if_pos h5, if_pos h5, hn, hl]
    · rw [if_neg h5, if_neg h5, hl]
theorem moves_shift {f : Int → Option Int} {d : Int} : ∀ l : List VT, (∀ n ∈ refsL l, f n = some (n + d)) → moves f l = some (shifts d l)
  | [], _ => by rw [moves_nil, shifts]
  | t :: l, h => by
    rw [refsL_cons] at h
    have ht := move_shift t (fun m hm => h m (List.mem_append_left _ hm))
    have hl := moves_shift l (fun m hm => h m (List.mem_append_right _ hm))
    rw [moves_some l ht, hl, shifts]
    rfl
end
end VT
theorem fold_upd : ∀ (ps : List PW) (f : Int → Option Int) (n c : Int), (∀ x ∈ ps, x.1.1 = n → x.1.2 = c) → ((∃ x ∈ ps, x.1.1 = n) ∨ f n = some c) → ps.foldl upd f n = some c
  | [], f, n, c, _, h => by
    rcases h with ⟨x, hx, _⟩ | h
    · cases hx
    · exact h
  | x :: ps, f, n, c, ha, h => by
    refine fold_upd ps (upd f x) n c (fun y hy => ha y (List.mem_cons_of_mem _ hy)) ?_
    by_cases hx : n = x.1.1
    · right
      unfold upd
      rw [if_pos hx, ha x (List.mem_cons_self ..) hx.symm]
    · rcases h with ⟨y, hy, he⟩ | h
      · rcases List.mem_cons.1 hy with rfl | hy
        · exact absurd he.symm hx
        · exact .inl ⟨y, hy, he⟩
      · right
        unfold upd
        rw [if_neg hx]
        exact h
theorem first_some {zs : List PW} {n c : Int} (h1 : ∀ x ∈ zs, x.1.1 = n → x.1.2 = c) (h2 : ∃ x ∈ zs, x.1.1 = n) : firstOf zs n = some c := by
  unfold firstOf asg
  obtain ⟨x, hx, he⟩ := h2
  exact fold_upd _ _ n c (fun y hy => h1 y (List.mem_reverse.1 hy)) (.inl ⟨x, List.mem_reverse.2 hx, he⟩)
/-- A pair of these numbers. -/
def pw (a b : Int) : PW := if h : (Lit.int .i64 a).wf = true ∧ (Lit.int .i64 b).wf = true then ⟨(a, b), h⟩ else ⟨(0, 0), by decide, by decide⟩
theorem pw_val {a b : Int} (h1 : (Lit.int .i64 a).wf = true) (h2 : (Lit.int .i64 b).wf = true) : (pw a b).1 = (a, b) := by unfold pw; rw [dif_pos ⟨h1, h2⟩]
theorem IRow.cell {w : World} {N n cap : Nat} {ao : Option Addr} {l : List Int} (h : IRow w N (.slice ao n cap) l) {i : Nat} (hi : i < l.length) : ∃ g, ao = some ⟨g, 0, none⟩ ∧ w.cell? ⟨g, i, none⟩ = some (.int .i64 (l.getD i 0)) := by
  rcases h.1.shape with ⟨e, h0⟩ | ⟨g, c, e, h1, h2, hg⟩
  · have h9 : l.length = 0 := by
      have := congrArg List.length h0
      rw [ivals_length] at this
      exact this
    omega
  · have hr := h.1
    rw [e] at hr
    cases e
    refine ⟨g, rfl, ?_⟩
    rw [hr.cellAt i (by rw [ivals_length]; exact hi)]
    simp [ivals, List.getD, hi]
end Go.Proofs.YtofmbpmmgpbdbaaDoor
