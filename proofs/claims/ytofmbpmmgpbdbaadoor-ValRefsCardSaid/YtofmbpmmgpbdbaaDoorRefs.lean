/- The objects that a value names. -/
import Derived.Test.YtofmbpmmgpbdbaaDoorByteLaw
import Derived.Deep.Upon
namespace Go.Proofs.YtofmbpmmgpbdbaaDoor
open Go.RowKit Go.Maps Wr
set_option linter.unusedVariables false

namespace VT
mutual
def refs : VT → List Int
  | node k n _ l => (if k = 5 then [n] else []) ++ refsL l
def refsL : List VT → List Int
  | [] => []
  | t :: l => refs t ++ refsL l
end
theorem refs_node (k n : Int) (s : ByteArray) (l : List VT) : (node k n s l).refs = (if k = 5 then [n] else []) ++ refsL l := by rw [refs]
theorem refsL_cons (t : VT) (l : List VT) : refsL (t :: l) = refs t ++ refsL l := by rw [refsL]
theorem refsL_nil : refsL [] = [] := by rw [refsL]
mutual
theorem refs_len : ∀ t : VT, t.refs.length ≤ t.sz
  | node k n s l => by
    have := refsL_len l
    rw [refs, sz, List.length_append]
    split <;> simp <;> omega
theorem refsL_len : ∀ l : List VT, (refsL l).length ≤ szs l
  | [] => by rw [refsL, szs]; simp
  | t :: l => by
    have := refs_len t
    have := refsL_len l
    rw [refsL, szs, List.length_append]; omega
end
theorem refsL_drop {l : List VT} {i : Nat} {t : VT} (h : l[i]? = some t) : refsL (l.drop i) = refs t ++ refsL (l.drop (i + 1)) := by rw [drop_kid h, refsL_cons]
mutual
theorem tame_sz : ∀ (t : VT) (d left : Int), ((tame t d left).1.sz : Int) = left - (tame t d left).2
  | node k n s l, d, left => by
    have := tames_sz l 12 d (left - 1)
    rw [tame]
    simp only
    rw [sz]
    omega
theorem tames_sz : ∀ (l : List VT) (m : Nat) (d left : Int), ((szs (tames l m d left).1 : Nat) : Int) = left - (tames l m d left).2
  | [], m, d, left => by
    have e : tames [] m d left = ([], left) := by rw [tames]
    rw [e]; simp [szs]
  | t :: ts, m, d, left => by
    rw [tames]
    split
    · have h1 := tame_sz t (d - 1) left
      have h2 := tames_sz ts (m - 1) d (tame t (d - 1) left).2
      simp only
      rw [szs]
      omega
    · simp [szs]
end
end VT
theorem topTame_sz (t : VT) : (topTame t).sz ≤ 1300 := by
  have h := VT.tame_sz t 210 300
  have h2 := VT.tame_left t 210 300 (by omega) (by omega)
  unfold topTame
  omega

theorem infoI : (Tryd.prog.info? 3).map (fun i => (i.zero, i.size, i.bytes)) = some (some (.int .i64 0), 1, 8) := by kernel_rfl
def ivals (l : List Int) : List Value := l.map (Value.int .i64)
theorem ivals_length (l : List Int) : (ivals l).length = l.length := by simp [ivals]
theorem ivals_append (a b : List Int) : ivals (a ++ b) = ivals a ++ ivals b := by simp [ivals]
theorem ivals_one (l : List Int) : ∀ u ∈ ivals l, u.oneCell' = true := by
  intro u hu
  obtain ⟨b, _, rfl⟩ := List.mem_map.1 hu
  rfl
/-- A row of numbers, all of it in blocks from N on. -/
def IRow (w : World) (N : Nat) (v : Value) (l : List Int) : Prop := Row w 3 v (ivals l) ∧ ∀ k, v.ownBlock = some k → N ≤ k
theorem IRow.nil (w : World) (N : Nat) : IRow w N (.slice none 0 0) [] := ⟨Row.nil _ _, fun k h => by simp [Value.ownBlock] at h⟩
theorem IRow.below {w w' : World} {N : Nat} {v : Value} {l : List Int} (h : IRow w N v l) (hb : Below w.heap.size w w') : IRow w' N v l :=
  ⟨h.1.chg (F := []) ⟨hb.os, hb.tape, hb.output, hb.size, fun i hi _ => hb.block i hi⟩ (fun _ _ => by simp), h.2⟩
theorem IRow.form {w : World} {N : Nat} {v : Value} {l : List Int} (h : IRow w N v l) : ∃ ao cap, v = .slice ao l.length cap ∧ l.length ≤ cap ∧ cap ≤ maxLen := by
  obtain ⟨ao, cap, hv, h1, h2, _⟩ := h.1.form
  rw [ivals_length] at hv h1
  exact ⟨ao, cap, hv, h1, h2⟩
theorem IRow.aside {w w' : World} {M : Nat} {v v' x : Value} {l : List Int} (h : IRow w M x l) (hs : OwnStep w v w' v') (hx : ∀ k, x.ownBlock = some k → v.ownBlock ≠ some k) : IRow w' M x l :=
  ⟨h.1.chg hs.1 (fun k hk => by simpa using hx k hk), h.2⟩
theorem IRow.one (w : World) (x : Int) : IRow (w.alloc (.cells #[.int .i64 x] 3)) w.heap.size (.slice (some ⟨w.heap.size, 0, none⟩) 1 1) [x] := by
  refine ⟨⟨rfl, .inr ⟨w.heap.size, 1, #[.int .i64 x], rfl, Nat.zero_le _, heap_alloc_new w _, Nat.le_refl _, by unfold maxLen; omega, rfl, rfl⟩⟩, fun k hk => by simp only [Value.ownBlock, Option.some.injEq] at hk; omega⟩

theorem run_appi {w : World} {ty : TypeId} {N M : Nat} {v x : Value} {l m : List Int} (hr : IRow w N v l) (hx : IRow w M x m) (hN : N ≤ w.heap.size) (h63 : l.length + m.length ≤ 1000000000) :
    ∃ v' w', (Builtin.append_ #[38, 38] ty #[v, x]).run Tryd.prog w = .ok v' w' ∧ IRow w' N v' (l ++ m) ∧ OwnStep w v w' v' := by
  obtain ⟨i0, hi, hz0, hz1, hz2⟩ := info_parts infoI
  have hll := ivals_length l
  have hml := ivals_length m
  rcases hx.1.shape with ⟨rfl, h0⟩ | ⟨gx, cx, rfl, h1, h2, h3⟩
  · have hm : m = [] := by simpa [ivals] using h0
    subst hm
    obtain ⟨ao, cap, rfl, hle, _⟩ := hr.form
    refine ⟨_, w, run_append_nothing w 38 38 ty 3 i0 Tryd.underlying38 hi ao l.length cap hle (.slice none 0 0) ?_, by rw [List.append_nil]; exact hr, OwnStep.refl _ _⟩
    exact Src.ofNil w Tryd.underlying38 0
  · rw [hml] at h1 hx ⊢
    by_cases hm : m = []
    · subst hm
      obtain ⟨ao, cap, rfl, hle, _⟩ := hr.form
      refine ⟨_, w, run_append_nothing w 38 38 ty 3 i0 Tryd.underlying38 hi ao l.length cap hle _ ?_, by rw [List.append_nil]; exact hr, OwnStep.refl _ _⟩
      exact Src.ofSlice w Tryd.underlying38 _ 0 _ [] (by simp) (fun j u hj => by simp at hj) (fun _ h => by cases h)
    · have hmp : 0 < m.length := by cases m; exact absurd rfl hm; simp
      have hown : w.ownsRow N 3 1 v l.length (ivals l) := by
        have h := hr.1
        unfold Row at h
        rw [hll] at h
        refine ⟨h.1, ?_⟩
        rcases h.2 with hn | ⟨g, cap, cur, rfl, _, rest⟩
        · exact .inl hn
        · exact .inr ⟨g, cap, cur, rfl, hr.2 g rfl, rest⟩
      obtain ⟨g, cap, w', hrun, hown', hgr, hloc, _⟩ := run_append_lies (P := Tryd.prog) w 38 ty N 3 i0 (.int .i64 0) 1 8 Tryd.underlying38 hi hz0 hz1 hz2 rfl (by decide) v l.length (ivals l) hown ⟨gx, 0, none⟩ m.length cx (ivals m) (by rw [hml, Nat.mul_one]) (fun j u hj => by
          have hj2 := (List.getElem?_eq_some_iff.1 hj).1
          rw [show (Addr.add ⟨gx, 0, none⟩ j) = ⟨gx, j, none⟩ by unfold Addr.add; split <;> simp_all]
          rw [hx.1.cellAt j hj2]; exact hj) (ivals_one m) hmp (by unfold maxLen; omega) (by omega) hN w.heap.size rfl
      refine ⟨_, w', hrun, ⟨?_, ?_⟩, (Chg.refl _ w).grown hgr (fun k hk => .inl (by simp [hk])), ?_⟩
      · unfold Row
        rw [← ivals_append] at hown'
        rw [ivals_length, List.length_append]
        refine ⟨hown'.1, ?_⟩
        rcases hown'.2 with hn | ⟨g, cap, cur, e, _, rest⟩
        · exact .inl hn
        · exact .inr ⟨g, cap, cur, e, Nat.zero_le _, rest⟩
      · intro k hk
        simp only [Value.ownBlock, Option.some.injEq] at hk
        subst hk
        rcases hloc with e | e
        · exact hr.2 _ e
        · omega
      · rcases hloc with e | e
        · exact .inl e.symm
        · exact .inr ⟨g, rfl, by omega⟩
theorem wpList_appi {w : World} {ops : Array Oper} {rest : List Oper} {o : Oper} {a : Act} {Q : Exit → Act → World → Prop} (hgd : o.guard = none) (sl x : Operand)
    (ho : o.op = .call { callee := .builtin .append, args := #[sl, x], argTypes := #[38, 38] }) {N M : Nat} {v vx : Value} {l m : List Int} (hs : a.eval sl = v) (hr : IRow w N v l) (hx : a.eval x = vx) (hrx : IRow w M vx m) (hN : N ≤ w.heap.size)
    (h63 : l.length + m.length ≤ 1000000000)
    (h : ∀ v' w', IRow w' N v' (l ++ m) → OwnStep w v w' v' → wpList Tryd.prog ops Q rest (a.put o.dst v') w') : wpList Tryd.prog ops Q (o :: rest) a w := by
  refine wpList_plain hgd fun K hK => ?_
  obtain ⟨v', w', hrun, h2, h3⟩ := run_appi (ty := o.type) hr hrx hN h63
  unfold Oper.wp execOp
  simp only [ho, resolve, invoke, builtin, Sem.run_bind, Sem.run_pure, Result.andThen_ok, List.map_toArray, List.map_cons, List.map_nil, hs, hx, hrun]
  exact hK _ _ (h v' w' h2 h3)
theorem step_appi {w : World} {ops : Array Oper} {o : Oper} {a : Act} {K : Act → World → Prop} {Q : Exit → Act → World → Prop} {E : Prop} (hgd : o.guard = none) (sl x : Operand)
    (ho : o.op = .call { callee := .builtin .append, args := #[sl, x], argTypes := #[38, 38] }) {N M : Nat} {v vx : Value} {l m : List Int} (hs : a.eval sl = v) (hr : IRow w N v l) (hx : a.eval x = vx) (hrx : IRow w M vx m) (hN : N ≤ w.heap.size)
    (h63 : l.length + m.length ≤ 1000000000)
    (h : ∀ v' w', IRow w' N v' (l ++ m) → OwnStep w v w' v' → K (a.put o.dst v') w') : if Region.wanted o (yielded ops a.tmps) = true then Oper.wp Tryd.prog o a w K Q else E := by
  have hw : Region.wanted o (yielded ops a.tmps) = true := by simp [Region.wanted, hgd]
  rw [if_pos hw]
  obtain ⟨v', w', hrun, h2, h3⟩ := run_appi (ty := o.type) hr hrx hN h63
  unfold Oper.wp execOp
  simp only [ho, resolve, invoke, builtin, Sem.run_bind, Sem.run_pure, Result.andThen_ok, List.map_toArray, List.map_cons, List.map_nil, hs, hx, hrun, Oper.upon]
  exact h v' w' h2 h3
def RefsEnd (W : World) (l : List Int) (e : Ending) (w : World) : Prop := ∃ v, e = .returned v ∧ IRow w W.heap.size v l ∧ Below W.heap.size W w
def RefsLoop (N : Nat) (W : World) (l0 : List Int) (l : List VT) (k : Nat) (s3 s17 : Value) (w : World) : Prop :=
  ∃ (i : Nat) (pre : List Int), s17 = .int .i64 i ∧ i + k = l.length ∧ IRow w N s3 pre ∧ pre ++ VT.refsL (l.drop i) = l0 ++ VT.refsL l ∧ Below N W w
set_option maxRecDepth 100000 in
set_option maxHeartbeats 1600000 in
theorem refs_walk (k : Nat) : ∀ (t : VT) (vt : Value) (w : World) (P : Nat → Prop), t.sz ≤ k → ValIs w P t vt → (∀ b, P b → b < w.heap.size) → t.sz ≤ 100000 →
    Calls Tryd.prog 16 #[vt] w (RefsEnd w t.refs) := by
  induction k with
  | zero => intro t v w P hk; cases t; simp [VT.sz] at hk
  | succ k ih =>
    intro t v w P hk ht hP hsz
    cases t with
    | node ka na sa la =>
    unfold ValIs at ht
    obtain ⟨ao, cap, rfl, a1, a2, a3, a4, a5, a6, a7⟩ := ht
    have hlen := VT.refsL_len la
    have hszl : Hid ((VT.refsL la).length ≤ 100000) := by rw [VT.sz] at hsz; show _ ≤ _; omega
    have hll : la.length ≤ 100000 := by
      have : ∀ l : List VT, l.length ≤ VT.szs l := fun l => by
        induction l with
        | nil => simp
        | cons t l ih => rw [VT.szs, List.length_cons]; cases t; rw [VT.sz]; omega
      have := this la
      rw [VT.sz] at hsz; omega
    have HX := Lib.hid (VT.refs_node ka na sa la)
    have HK := Lib.hid hk
    have HSZ := Lib.hid hsz
    clear hk hsz hlen
    unfold maxLen at a2
    by_cases h5 : ka = 5
    · subst h5
      have HR1 : Hid (IRow ((w.alloc (.cells #[.int .i64 5, .int .i64 na, .string sa, .slice ao la.length cap] 24)).alloc (.cells #[.int .i64 na] 3)) (w.heap.size + 1) (.slice (some ⟨w.heap.size + 1, 0, none⟩) 1 1) [na]) := by have := IRow.one (w.alloc (.cells #[.int .i64 5, .int .i64 na, .string sa, .slice ao la.length cap] 24)) na; show IRow _ _ _ _; simpa using this
      have hX5 : Hid ((VT.node 5 na sa la).refs = [na] ++ VT.refsL la) := by show _ = _; rw [HX.out, if_pos rfl]
      go_enter Tryd.func16, Tryd.ntmps16
      go_wp2_with (at_builtin; (refine wpList_appi (w := (w.alloc (.cells #[.int .i64 5, .int .i64 na, .string sa, .slice ao la.length cap] 24)).alloc (.cells #[.int .i64 na] 3)) rfl _ _ rfl (v := .slice none 0 0) (vx := .slice (some ⟨w.heap.size + 1, 0, none⟩) 1 1) rfl (IRow.nil _ (w.heap.size + 1)) rfl HR1.out (by simp) (by simp) ?_; intro v6 w6 hr6 ho6; have R6 := Lib.hid hr6; have B6 : Hid (Below (w.heap.size + 1) (w.alloc (.cells #[.int .i64 5, .int .i64 na, .string sa, .slice ao la.length cap] 24)) w6) := ((Below.refl _ _).alloc (by simp) _).trans (ho6.below (by simp) (by simp [Value.ownBlock])); clear hr6 ho6; have bb0 : Below (w.alloc (.cells #[.int .i64 5, .int .i64 na, .string sa, .slice ao la.length cap] 24)).heap.size (w.alloc (.cells #[.int .i64 5, .int .i64 na, .string sa, .slice ao la.length cap] 24)) w6 := (by have := B6.out; simpa using this); obtain ⟨c0, c1, c2, c3, hb6⟩ := cells_below bb0; clear bb0 hb6))
      have HL : Hid (RefsLoop (w.heap.size + 1) (w.alloc (.cells #[.int .i64 5, .int .i64 na, .string sa, .slice ao la.length cap] 24)) [na] la la.length v6 (.int .i64 0) w6) := ⟨0, [na], rfl, by omega, by simpa using R6.out, rfl, B6.out⟩
      go_loopg [3, 17] la.length (fun k s3 s17 wr => RefsLoop (w.heap.size + 1) (w.alloc (.cells #[.int .i64 5, .int .i64 na, .string sa, .slice ao la.length cap] 24)) [na] la k s3 s17 wr)
      case atStart => exact HL.out
      case round =>
        clear HL
        obtain ⟨i, pre, rfl, hik, hrow, hpre, hb⟩ := hrel
        have HB := Lib.hid hb
        have HR := Lib.hid hrow
        have HPRE := Lib.hid hpre
        have hpl : Hid (pre.length ≤ 100001) := by
          have := congrArg List.length hpre
          simp only [List.length_append] at this
          have h9 := hszl.out
          show _ ≤ _
          simp at this; omega
        have hb0 : Below (w.alloc (.cells #[.int .i64 5, .int .i64 na, .string sa, .slice ao la.length cap] 24)).heap.size (w.alloc (.cells #[.int .i64 5, .int .i64 na, .string sa, .slice ao la.length cap] 24)) wr := by simpa using hb
        obtain ⟨e0, e1, e2, e3, hb6⟩ := cells_below hb0
        have H6 := Lib.hid hb6
        have HS1 : Hid (w.heap.size + 1 ≤ wr.heap.size) := by have := HB.out.size; show _ ≤ _; simpa using this
        clear hb hrow hb6 hb0 hpre
        by_cases hlt : i < la.length
        · obtain ⟨tk, htk⟩ : ∃ u, la[i]? = some u := ⟨_, List.getElem?_eq_getElem hlt⟩
          obtain ⟨bb, oo, _, _, _, _, rfl, hbb, _⟩ := a7.get htk
          obtain ⟨_, aok, capk, p0, p1, p2, p3, hvk⟩ := a7.cells htk
          unfold vval at hvk
          rw [Nat.zero_add] at p0 p1 p2 p3
          have hbb' := hP _ hbb
          have cc : ∀ j, wr.cell? ⟨bb, j, none⟩ = w.cell? ⟨bb, j, none⟩ := fun j => H6.out.cell (p := ⟨bb, j, none⟩) hbb'
          replace p0 := (cc _).trans p0
          replace p1 := (cc _).trans p1
          replace p2 := (cc _).trans p2
          replace p3 := (cc _).trans p3
          have hvk' : Hid (ValIs wr P tk (.agg #[.int .i64 tk.kind, .int .i64 tk.num, .string tk.text, .slice aok tk.kids.length capk])) := hvk.below H6.out hP
          have hkid : Hid (tk.sz ≤ k ∧ tk.sz ≤ 100000) := by
            have h5 : tk.sz < (VT.node 5 na sa la).sz := VT.sz_kid (t := VT.node 5 na sa la) htk
            have := HK.out
            have := HSZ.out
            exact ⟨by omega, by omega⟩
          have hdrop := Lib.hid (VT.refsL_drop htk)
          have htl : Hid (tk.refs.length ≤ 100000) := Nat.le_trans (VT.refs_len tk) hkid.out.2
          have g1' : (i : Int) < (la.length : Int) := by omega
          have hi0 : (0 : Int) ≤ (i : Int) := by omega
          clear hvk htk cc
          go_wp2_with (first
            | ((go_at_call 16; refine (ih tk _ _ P hkid.out.1 (hvk'.out.below ((Below.refl _ _).alloc (Nat.le_refl _) _) (fun b hb => Nat.lt_of_lt_of_le (hP b hb) H6.out.size)) (fun x hx => by have := hP x hx; have := H6.out.size; simp; omega) hkid.out.2).mono ?_; rintro e w7 ⟨v7, rfl, hr7, hb7⟩; have R7 := Lib.hid hr7; have B7 : Hid (Below wr.heap.size wr w7) := ((Below.refl _ _).alloc (Nat.le_refl _) _).trans (hb7.mono (by simp)); clear hr7 hb7))
            | (at_builtin; (refine wpList_appi (w := w7) rfl _ _ rfl (v := u3) (vx := v7) rfl (HR.out.below B7.out) rfl R7.out (Nat.le_trans HS1.out B7.out.size) (by have := hpl.out; have := htl.out; omega) ?_; intro v9 w9 hr9 ho9; have R9 := Lib.hid hr9; have O9 := Lib.hid ho9; clear hr9 ho9)))
          go_roundg (gk - 1)
          case measure => omega
          case rel => exact ⟨i + 1, _, by go_num, by omega, R9.out, by rw [List.append_assoc, ← hdrop.out, HPRE.out], (HB.out.trans (B7.out.mono HS1.out)).trans (O9.out.below (Nat.le_trans HS1.out B7.out.size) (fun k hk => HR.out.2 k hk))⟩
        · obtain rfl : i = la.length := by omega
          have hfin : Hid (pre = (VT.node 5 na sa la).refs) := by
            have := HPRE.out
            rw [List.drop_length, VT.refsL_nil, List.append_nil] at this
            show _ = _
            rw [this, hX5.out]
          go_wp2
          go_ret
          exact ⟨_, rfl, ⟨by rw [← hfin.out]; exact HR.out.1, fun k hk => Nat.le_trans (Nat.le_succ _) (HR.out.2 k hk)⟩, H6.out⟩
    · have hX5 : Hid ((VT.node ka na sa la).refs = [] ++ VT.refsL la) := by show _ = _; rw [HX.out, if_neg h5]
      have h5' : (ka == 5) = false := by simpa using h5
      go_enter Tryd.func16, Tryd.ntmps16
      go_wp2
      have HL : Hid (RefsLoop (w.heap.size + 1) (w.alloc (.cells #[.int .i64 ka, .int .i64 na, .string sa, .slice ao la.length cap] 24)) [] la la.length (.slice none 0 0) (.int .i64 0) (w.alloc (.cells #[.int .i64 ka, .int .i64 na, .string sa, .slice ao la.length cap] 24))) := ⟨0, [], rfl, by omega, IRow.nil _ _, rfl, Below.refl _ _⟩
      go_loopg [3, 17] la.length (fun k s3 s17 wr => RefsLoop (w.heap.size + 1) (w.alloc (.cells #[.int .i64 ka, .int .i64 na, .string sa, .slice ao la.length cap] 24)) [] la k s3 s17 wr)
      case atStart => exact HL.out
      case round =>
        clear HL
        obtain ⟨i, pre, rfl, hik, hrow, hpre, hb⟩ := hrel
        have HB := Lib.hid hb
        have HR := Lib.hid hrow
        have HPRE := Lib.hid hpre
        have hpl : Hid (pre.length ≤ 100001) := by
          have := congrArg List.length hpre
          simp only [List.length_append] at this
          have h9 := hszl.out
          show _ ≤ _
          simp at this; omega
        have hb0 : Below (w.alloc (.cells #[.int .i64 ka, .int .i64 na, .string sa, .slice ao la.length cap] 24)).heap.size (w.alloc (.cells #[.int .i64 ka, .int .i64 na, .string sa, .slice ao la.length cap] 24)) wr := by simpa using hb
        obtain ⟨e0, e1, e2, e3, hb6⟩ := cells_below hb0
        have H6 := Lib.hid hb6
        have HS1 : Hid (w.heap.size + 1 ≤ wr.heap.size) := by have := HB.out.size; show _ ≤ _; simpa using this
        clear hb hrow hb6 hb0 hpre
        by_cases hlt : i < la.length
        · obtain ⟨tk, htk⟩ : ∃ u, la[i]? = some u := ⟨_, List.getElem?_eq_getElem hlt⟩
          obtain ⟨bb, oo, _, _, _, _, rfl, hbb, _⟩ := a7.get htk
          obtain ⟨_, aok, capk, p0, p1, p2, p3, hvk⟩ := a7.cells htk
          unfold vval at hvk
          rw [Nat.zero_add] at p0 p1 p2 p3
          have hbb' := hP _ hbb
          have cc : ∀ j, wr.cell? ⟨bb, j, none⟩ = w.cell? ⟨bb, j, none⟩ := fun j => H6.out.cell (p := ⟨bb, j, none⟩) hbb'
          replace p0 := (cc _).trans p0
          replace p1 := (cc _).trans p1
          replace p2 := (cc _).trans p2
          replace p3 := (cc _).trans p3
          have hvk' : Hid (ValIs wr P tk (.agg #[.int .i64 tk.kind, .int .i64 tk.num, .string tk.text, .slice aok tk.kids.length capk])) := hvk.below H6.out hP
          have hkid : Hid (tk.sz ≤ k ∧ tk.sz ≤ 100000) := by
            have h5 : tk.sz < (VT.node ka na sa la).sz := VT.sz_kid (t := VT.node ka na sa la) htk
            have := HK.out
            have := HSZ.out
            exact ⟨by omega, by omega⟩
          have hdrop := Lib.hid (VT.refsL_drop htk)
          have htl : Hid (tk.refs.length ≤ 100000) := Nat.le_trans (VT.refs_len tk) hkid.out.2
          have g1' : (i : Int) < (la.length : Int) := by omega
          have hi0 : (0 : Int) ≤ (i : Int) := by omega
          clear hvk htk cc
          go_wp2_with (first
            | ((go_at_call 16; refine (ih tk _ _ P hkid.out.1 (hvk'.out.below ((Below.refl _ _).alloc (Nat.le_refl _) _) (fun b hb => Nat.lt_of_lt_of_le (hP b hb) H6.out.size)) (fun x hx => by have := hP x hx; have := H6.out.size; simp; omega) hkid.out.2).mono ?_; rintro e w7 ⟨v7, rfl, hr7, hb7⟩; have R7 := Lib.hid hr7; have B7 : Hid (Below wr.heap.size wr w7) := ((Below.refl _ _).alloc (Nat.le_refl _) _).trans (hb7.mono (by simp)); clear hr7 hb7))
            | (at_builtin; (refine wpList_appi (w := w7) rfl _ _ rfl (v := u3) (vx := v7) rfl (HR.out.below B7.out) rfl R7.out (Nat.le_trans HS1.out B7.out.size) (by have := hpl.out; have := htl.out; omega) ?_; intro v9 w9 hr9 ho9; have R9 := Lib.hid hr9; have O9 := Lib.hid ho9; clear hr9 ho9)))
          go_roundg (gk - 1)
          case measure => omega
          case rel => exact ⟨i + 1, _, by go_num, by omega, R9.out, by rw [List.append_assoc, ← hdrop.out, HPRE.out], (HB.out.trans (B7.out.mono HS1.out)).trans (O9.out.below (Nat.le_trans HS1.out B7.out.size) (fun k hk => HR.out.2 k hk))⟩
        · obtain rfl : i = la.length := by omega
          have hfin : Hid (pre = (VT.node ka na sa la).refs) := by
            have := HPRE.out
            rw [List.drop_length, VT.refsL_nil, List.append_nil] at this
            show _ = _
            rw [this, hX5.out]
          go_wp2
          go_ret
          exact ⟨_, rfl, ⟨by rw [← hfin.out]; exact HR.out.1, fun k hk => Nat.le_trans (Nat.le_succ _) (HR.out.2 k hk)⟩, H6.out⟩
set_option maxRecDepth 100000 in
set_option maxHeartbeats 1600000 in
theorem refRefs_walk (k : Nat) : ∀ (t : VT) (vt : Value) (w : World) (P : Nat → Prop), t.sz ≤ k → ValIs w P t vt → (∀ b, P b → b < w.heap.size) → t.sz ≤ 100000 →
    Calls Tryd.prog 19 #[vt] w (RefsEnd w t.refs) := by
  induction k with
  | zero => intro t v w P hk; cases t; simp [VT.sz] at hk
  | succ k ih =>
    intro t v w P hk ht hP hsz
    cases t with
    | node ka na sa la =>
    unfold ValIs at ht
    obtain ⟨ao, cap, rfl, a1, a2, a3, a4, a5, a6, a7⟩ := ht
    have hlen := VT.refsL_len la
    have hszl : Hid ((VT.refsL la).length ≤ 100000) := by rw [VT.sz] at hsz; show _ ≤ _; omega
    have hll : la.length ≤ 100000 := by
      have : ∀ l : List VT, l.length ≤ VT.szs l := fun l => by
        induction l with
        | nil => simp
        | cons t l ih => rw [VT.szs, List.length_cons]; cases t; rw [VT.sz]; omega
      have := this la
      rw [VT.sz] at hsz; omega
    have HX := Lib.hid (VT.refs_node ka na sa la)
    have HK := Lib.hid hk
    have HSZ := Lib.hid hsz
    clear hk hsz hlen
    unfold maxLen at a2
    by_cases h5 : ka = 5
    · subst h5
      have HR1 : Hid (IRow ((w.alloc (.cells #[.int .i64 5, .int .i64 na, .string sa, .slice ao la.length cap] 24)).alloc (.cells #[.int .i64 na] 3)) (w.heap.size + 1) (.slice (some ⟨w.heap.size + 1, 0, none⟩) 1 1) [na]) := by have := IRow.one (w.alloc (.cells #[.int .i64 5, .int .i64 na, .string sa, .slice ao la.length cap] 24)) na; show IRow _ _ _ _; simpa using this
      have hX5 : Hid ((VT.node 5 na sa la).refs = [na] ++ VT.refsL la) := by show _ = _; rw [HX.out, if_pos rfl]
      go_enter Tryd.func19, Tryd.ntmps19
      go_wp2_with (at_builtin; (refine wpList_appi (w := (w.alloc (.cells #[.int .i64 5, .int .i64 na, .string sa, .slice ao la.length cap] 24)).alloc (.cells #[.int .i64 na] 3)) rfl _ _ rfl (v := .slice none 0 0) (vx := .slice (some ⟨w.heap.size + 1, 0, none⟩) 1 1) rfl (IRow.nil _ (w.heap.size + 1)) rfl HR1.out (by simp) (by simp) ?_; intro v6 w6 hr6 ho6; have R6 := Lib.hid hr6; have B6 : Hid (Below (w.heap.size + 1) (w.alloc (.cells #[.int .i64 5, .int .i64 na, .string sa, .slice ao la.length cap] 24)) w6) := ((Below.refl _ _).alloc (by simp) _).trans (ho6.below (by simp) (by simp [Value.ownBlock])); clear hr6 ho6; have bb0 : Below (w.alloc (.cells #[.int .i64 5, .int .i64 na, .string sa, .slice ao la.length cap] 24)).heap.size (w.alloc (.cells #[.int .i64 5, .int .i64 na, .string sa, .slice ao la.length cap] 24)) w6 := (by have := B6.out; simpa using this); obtain ⟨c0, c1, c2, c3, hb6⟩ := cells_below bb0; clear bb0 hb6))
      have HL : Hid (RefsLoop (w.heap.size + 1) (w.alloc (.cells #[.int .i64 5, .int .i64 na, .string sa, .slice ao la.length cap] 24)) [na] la la.length v6 (.int .i64 0) w6) := ⟨0, [na], rfl, by omega, by simpa using R6.out, rfl, B6.out⟩
      go_loopg [3, 4] la.length (fun k s3 s17 wr => RefsLoop (w.heap.size + 1) (w.alloc (.cells #[.int .i64 5, .int .i64 na, .string sa, .slice ao la.length cap] 24)) [na] la k s3 s17 wr)
      case atStart => exact HL.out
      case round =>
        clear HL
        obtain ⟨i, pre, rfl, hik, hrow, hpre, hb⟩ := hrel
        have HB := Lib.hid hb
        have HR := Lib.hid hrow
        have HPRE := Lib.hid hpre
        have hpl : Hid (pre.length ≤ 100001) := by
          have := congrArg List.length hpre
          simp only [List.length_append] at this
          have h9 := hszl.out
          show _ ≤ _
          simp at this; omega
        have hb0 : Below (w.alloc (.cells #[.int .i64 5, .int .i64 na, .string sa, .slice ao la.length cap] 24)).heap.size (w.alloc (.cells #[.int .i64 5, .int .i64 na, .string sa, .slice ao la.length cap] 24)) wr := by simpa using hb
        obtain ⟨e0, e1, e2, e3, hb6⟩ := cells_below hb0
        have H6 := Lib.hid hb6
        have HS1 : Hid (w.heap.size + 1 ≤ wr.heap.size) := by have := HB.out.size; show _ ≤ _; simpa using this
        clear hb hrow hb6 hb0 hpre
        by_cases hlt : i < la.length
        · obtain ⟨tk, htk⟩ : ∃ u, la[i]? = some u := ⟨_, List.getElem?_eq_getElem hlt⟩
          obtain ⟨bb, oo, _, _, _, _, rfl, hbb, _⟩ := a7.get htk
          obtain ⟨_, aok, capk, p0, p1, p2, p3, hvk⟩ := a7.cells htk
          unfold vval at hvk
          rw [Nat.zero_add] at p0 p1 p2 p3
          have hbb' := hP _ hbb
          have cc : ∀ j, wr.cell? ⟨bb, j, none⟩ = w.cell? ⟨bb, j, none⟩ := fun j => H6.out.cell (p := ⟨bb, j, none⟩) hbb'
          replace p0 := (cc _).trans p0
          replace p1 := (cc _).trans p1
          replace p2 := (cc _).trans p2
          replace p3 := (cc _).trans p3
          have hvk' : Hid (ValIs wr P tk (.agg #[.int .i64 tk.kind, .int .i64 tk.num, .string tk.text, .slice aok tk.kids.length capk])) := hvk.below H6.out hP
          have hkid : Hid (tk.sz ≤ k ∧ tk.sz ≤ 100000) := by
            have h5 : tk.sz < (VT.node 5 na sa la).sz := VT.sz_kid (t := VT.node 5 na sa la) htk
            have := HK.out
            have := HSZ.out
            exact ⟨by omega, by omega⟩
          have hdrop := Lib.hid (VT.refsL_drop htk)
          have htl : Hid (tk.refs.length ≤ 100000) := Nat.le_trans (VT.refs_len tk) hkid.out.2
          have g1' : (i : Int) < (la.length : Int) := by omega
          have hi0 : (0 : Int) ≤ (i : Int) := by omega
          clear hvk htk cc
          go_wp2_with (first
            | ((go_at_call 19; refine (ih tk _ _ P hkid.out.1 (hvk'.out.below (Below.refl _ _) (fun b hb => Nat.lt_of_lt_of_le (hP b hb) H6.out.size)) (fun x hx => by have := hP x hx; have := H6.out.size; omega) hkid.out.2).mono ?_; rintro e w7 ⟨v7, rfl, hr7, hb7⟩; have R7 := Lib.hid hr7; have B7 : Hid (Below wr.heap.size wr w7) := (Below.refl _ _).trans (hb7.mono (by exact Nat.le_refl _)); clear hr7 hb7))
            | (at_builtin; (refine wpList_appi (w := w7) rfl _ _ rfl (v := u3) (vx := v7) rfl (HR.out.below B7.out) rfl R7.out (Nat.le_trans HS1.out B7.out.size) (by have := hpl.out; have := htl.out; omega) ?_; intro v9 w9 hr9 ho9; have R9 := Lib.hid hr9; have O9 := Lib.hid ho9; clear hr9 ho9)))
          go_roundg (gk - 1)
          case measure => omega
          case rel => exact ⟨i + 1, _, by go_num, by omega, R9.out, by rw [List.append_assoc, ← hdrop.out, HPRE.out], (HB.out.trans (B7.out.mono HS1.out)).trans (O9.out.below (Nat.le_trans HS1.out B7.out.size) (fun k hk => HR.out.2 k hk))⟩
        · obtain rfl : i = la.length := by omega
          have hfin : Hid (pre = (VT.node 5 na sa la).refs) := by
            have := HPRE.out
            rw [List.drop_length, VT.refsL_nil, List.append_nil] at this
            show _ = _
            rw [this, hX5.out]
          go_wp2
          go_ret
          exact ⟨_, rfl, ⟨by rw [← hfin.out]; exact HR.out.1, fun k hk => Nat.le_trans (Nat.le_succ _) (HR.out.2 k hk)⟩, H6.out⟩
    · have hX5 : Hid ((VT.node ka na sa la).refs = [] ++ VT.refsL la) := by show _ = _; rw [HX.out, if_neg h5]
      have h5' : (ka == 5) = false := by simpa using h5
      go_enter Tryd.func19, Tryd.ntmps19
      go_wp2
      have HL : Hid (RefsLoop (w.heap.size + 1) (w.alloc (.cells #[.int .i64 ka, .int .i64 na, .string sa, .slice ao la.length cap] 24)) [] la la.length (.slice none 0 0) (.int .i64 0) (w.alloc (.cells #[.int .i64 ka, .int .i64 na, .string sa, .slice ao la.length cap] 24))) := ⟨0, [], rfl, by omega, IRow.nil _ _, rfl, Below.refl _ _⟩
      go_loopg [3, 4] la.length (fun k s3 s17 wr => RefsLoop (w.heap.size + 1) (w.alloc (.cells #[.int .i64 ka, .int .i64 na, .string sa, .slice ao la.length cap] 24)) [] la k s3 s17 wr)
      case atStart => exact HL.out
      case round =>
        clear HL
        obtain ⟨i, pre, rfl, hik, hrow, hpre, hb⟩ := hrel
        have HB := Lib.hid hb
        have HR := Lib.hid hrow
        have HPRE := Lib.hid hpre
        have hpl : Hid (pre.length ≤ 100001) := by
          have := congrArg List.length hpre
          simp only [List.length_append] at this
          have h9 := hszl.out
          show _ ≤ _
          simp at this; omega
        have hb0 : Below (w.alloc (.cells #[.int .i64 ka, .int .i64 na, .string sa, .slice ao la.length cap] 24)).heap.size (w.alloc (.cells #[.int .i64 ka, .int .i64 na, .string sa, .slice ao la.length cap] 24)) wr := by simpa using hb
        obtain ⟨e0, e1, e2, e3, hb6⟩ := cells_below hb0
        have H6 := Lib.hid hb6
        have HS1 : Hid (w.heap.size + 1 ≤ wr.heap.size) := by have := HB.out.size; show _ ≤ _; simpa using this
        clear hb hrow hb6 hb0 hpre
        by_cases hlt : i < la.length
        · obtain ⟨tk, htk⟩ : ∃ u, la[i]? = some u := ⟨_, List.getElem?_eq_getElem hlt⟩
          obtain ⟨bb, oo, _, _, _, _, rfl, hbb, _⟩ := a7.get htk
          obtain ⟨_, aok, capk, p0, p1, p2, p3, hvk⟩ := a7.cells htk
          unfold vval at hvk
          rw [Nat.zero_add] at p0 p1 p2 p3
          have hbb' := hP _ hbb
          have cc : ∀ j, wr.cell? ⟨bb, j, none⟩ = w.cell? ⟨bb, j, none⟩ := fun j => H6.out.cell (p := ⟨bb, j, none⟩) hbb'
          replace p0 := (cc _).trans p0
          replace p1 := (cc _).trans p1
          replace p2 := (cc _).trans p2
          replace p3 := (cc _).trans p3
          have hvk' : Hid (ValIs wr P tk (.agg #[.int .i64 tk.kind, .int .i64 tk.num, .string tk.text, .slice aok tk.kids.length capk])) := hvk.below H6.out hP
          have hkid : Hid (tk.sz ≤ k ∧ tk.sz ≤ 100000) := by
            have h5 : tk.sz < (VT.node ka na sa la).sz := VT.sz_kid (t := VT.node ka na sa la) htk
            have := HK.out
            have := HSZ.out
            exact ⟨by omega, by omega⟩
          have hdrop := Lib.hid (VT.refsL_drop htk)
          have htl : Hid (tk.refs.length ≤ 100000) := Nat.le_trans (VT.refs_len tk) hkid.out.2
          have g1' : (i : Int) < (la.length : Int) := by omega
          have hi0 : (0 : Int) ≤ (i : Int) := by omega
          clear hvk htk cc
          go_wp2_with (first
            | ((go_at_call 19; refine (ih tk _ _ P hkid.out.1 (hvk'.out.below (Below.refl _ _) (fun b hb => Nat.lt_of_lt_of_le (hP b hb) H6.out.size)) (fun x hx => by have := hP x hx; have := H6.out.size; omega) hkid.out.2).mono ?_; rintro e w7 ⟨v7, rfl, hr7, hb7⟩; have R7 := Lib.hid hr7; have B7 : Hid (Below wr.heap.size wr w7) := (Below.refl _ _).trans (hb7.mono (by exact Nat.le_refl _)); clear hr7 hb7))
            | (at_builtin; (refine wpList_appi (w := w7) rfl _ _ rfl (v := u3) (vx := v7) rfl (HR.out.below B7.out) rfl R7.out (Nat.le_trans HS1.out B7.out.size) (by have := hpl.out; have := htl.out; omega) ?_; intro v9 w9 hr9 ho9; have R9 := Lib.hid hr9; have O9 := Lib.hid ho9; clear hr9 ho9)))
          go_roundg (gk - 1)
          case measure => omega
          case rel => exact ⟨i + 1, _, by go_num, by omega, R9.out, by rw [List.append_assoc, ← hdrop.out, HPRE.out], (HB.out.trans (B7.out.mono HS1.out)).trans (O9.out.below (Nat.le_trans HS1.out B7.out.size) (fun k hk => HR.out.2 k hk))⟩
        · obtain rfl : i = la.length := by omega
          have hfin : Hid (pre = (VT.node ka na sa la).refs) := by
            have := HPRE.out
            rw [List.drop_length, VT.refsL_nil, List.append_nil] at this
            show _ = _
            rw [this, hX5.out]
          go_wp2
          go_ret
          exact ⟨_, rfl, ⟨by rw [← hfin.out]; exact HR.out.1, fun k hk => Nat.le_trans (Nat.le_succ _) (HR.out.2 k hk)⟩, H6.out⟩
end Go.Proofs.YtofmbpmmgpbdbaaDoor
